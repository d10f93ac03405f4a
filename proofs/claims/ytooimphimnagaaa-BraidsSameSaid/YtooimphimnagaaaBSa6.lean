/- Laid together: The program's times of a normal form: the trees. The program's times of a normal form: what it answers. The program's normal form of a word. Check of both sides; slices.Equal of rows of arrays. The program's Same and Trivial. The reference's simple braids: trees. The reference's simple braids: what its functions answer. The reference's without and slid: trees. The .. -/
import Derived.ProofKit
import Derived.Test.YtooimphimnagaaaBSa5
set_option linter.unusedSimpArgs false
set_option linter.unusedVariables false
namespace Go.Proofs.Ytooimphimnagaaa.Ev
open Go.Proofs
namespace PTim
noncomputable def ct : Tr ZCC := ((Tr.nil.put 93 (some (dC spPln))).put 95 (some (mC spInv))).put 112 (some (mC spDel))
theorem ct_ok : ZCtsOk Try.prog ct := (((ZCtsOk.nil _).add rfl spPln_ok).addM rfl spInv_ok).addM rfl spDel_ok
noncomputable def RT (s : ES) : ZF := RMs 1 126 ct [(atS 0 126 3, [[(0,none),(4,none)]]), (atS 0 126 8, [[(0,none),(4,none),(5,none),(6,none),(7,none),(8,none)]]), (atS 0 126 17, [[(0,none),(9,none),(10,none)]]), (atS 0 126 19, [[(0,none),(10,none)]])] [] [] s

noncomputable def sA (n pw : Int) (L : List Int) (len : Nat) (k : Int) : NS := ⟨[⟨126, 187, [(0, (EV.ptr 0 0)), (4, iv k)], [.it (.code (nav [1, 0, 1, 1, 0, 1, 0, 0, 0] (bodyOf Try.f126))), .it (.code (nav [1, 0, 1, 1, 0, 1, 0, 0, 1] (bodyOf Try.f126))), .it (.inLoop (nav [1, 0, 1, 1, 0, 1, 0, 0] (bodyOf Try.f126))), .it (.inBlock 0), .it (.code (nav [1, 0, 1, 1, 1] (bodyOf Try.f126))), .it (.inScope (nav [1, 0] (bodyOf Try.f126)))], [], Option.none⟩], [(0, EK.cells 89 [iv n, iv pw, .slO 1 12 len true] true), (1, EK.seq 92 (.ints .u8 L) true)], 2⟩
noncomputable def sB (n pw : Int) (L q : List Int) (len : Nat) (k : Int) (m : Nat) (tk : Bool) (i : Int) : NS := ⟨[⟨126, 187, [(0, (EV.ptr 0 0)), (4, iv k), (5, (EV.ptr 1 0)), (6, EV.ptrE 2 12 m 0), (7, bv tk), (8, iv i)], [.it (.code (nav [1, 0, 1, 1, 0, 1, 0, 0, 1, 0, 0, 1, 1, 0, 1, 0, 0, 0] (bodyOf Try.f126))), .it (.code (nav [1, 0, 1, 1, 0, 1, 0, 0, 1, 0, 0, 1, 1, 0, 1, 0, 0, 1] (bodyOf Try.f126))), .it (.inLoop (nav [1, 0, 1, 1, 0, 1, 0, 0, 1, 0, 0, 1, 1, 0, 1, 0, 0] (bodyOf Try.f126))), .it (.inBlock 2), .it (.code (nav [1, 0, 1, 1, 0, 1, 0, 0, 1, 0, 0, 1, 1, 1] (bodyOf Try.f126))), .it (.inBlock 1), .it (.code (nav [1, 0, 1, 1, 0, 1, 0, 0, 1, 1] (bodyOf Try.f126))), .it (.inLoop (nav [1, 0, 1, 1, 0, 1, 0, 0] (bodyOf Try.f126))), .it (.inBlock 0), .it (.code (nav [1, 0, 1, 1, 1] (bodyOf Try.f126))), .it (.inScope (nav [1, 0] (bodyOf Try.f126)))], [], Option.none⟩], [(0, (EK.cells 89 [(EV.v (Value.int IntKind.i64 (n))), (EV.v (Value.int IntKind.i64 (pw))), (EV.slO 2 12 (len) true)] true)), (1, EK.seq 92 (.ints .u8 q) true), (2, (EK.seq 92 (SyC.ints IntKind.u8 (L)) true))], 3⟩
noncomputable def sC (n pw : Int) (L D : List Int) (len : Nat) : NS := ⟨[⟨126, 187, [(0, (EV.ptr 0 0)), (9, (EV.ptr 1 0)), (10, (EV.ptr 2 0))], [.it (.code (nav [1, 0, 1, 1, 1, 1, 0, 0, 0, 0] (bodyOf Try.f126))), .it (.code (nav [1, 0, 1, 1, 1, 1, 0, 0, 0, 1] (bodyOf Try.f126))), .it (.inLoop (nav [1, 0, 1, 1, 1, 1, 0, 0, 0] (bodyOf Try.f126))), .it (.inBlock 4), .it (.code (nav [1, 0, 1, 1, 1, 1, 1] (bodyOf Try.f126))), .it (.inScope (nav [1, 0] (bodyOf Try.f126)))], [], Option.none⟩], [(0, (EK.cells 89 [(EV.v (Value.int IntKind.i64 (n))), (EV.v (Value.int IntKind.i64 (pw))), (EV.slO 3 12 (len) true)] true)), (1, (EK.seq 92 (SyC.ints IntKind.u8 [(0), (1), (2), (3), (4), (5), (6), (7), (8), (9), (10), (11)]) true)), (2, EK.seq 92 (.ints .u8 D) true), (3, (EK.seq 92 (SyC.ints IntKind.u8 (L)) true))], 4⟩
noncomputable def sD (n pw : Int) (L D : List Int) (len : Nat) : NS := ⟨[⟨126, 187, [(0, (EV.ptr 0 0)), (10, (EV.ptr 1 0))], [.it (.code (nav [1, 0, 1, 1, 1, 1, 1, 0, 0, 0] (bodyOf Try.f126))), .it (.code (nav [1, 0, 1, 1, 1, 1, 1, 0, 0, 1] (bodyOf Try.f126))), .it (.inLoop (nav [1, 0, 1, 1, 1, 1, 1, 0, 0] (bodyOf Try.f126))), .it (.inBlock 6), .it (.inScope (nav [1, 0] (bodyOf Try.f126)))], [], Option.none⟩], [(0, EK.cells 89 [iv n, iv pw, .slO 2 12 len true] true), (1, (EK.seq 92 (SyC.ints IntKind.u8 (D)) true)), (2, EK.seq 92 (.ints .u8 L) true)], 3⟩
theorem in_t (n pw : Int) (L e : List Int) (len : Nat) (nn : Bool) : RT (st0m 126 [.ptr 0 0, .arr (.ints .u8 e)] (PDel.K0 n pw L len nn) 2) = (bc (bc (bc (bc (Nat.beq (12 : Nat) (List.length e)) true false) (bc (Nat.beq (List.length e) (12 : Nat)) (bc (bc (Nat.beq (Nat.mul len (12 : Nat)) (List.length L)) (bc (Nat.beq (Nat.mul (1 : Nat) (12 : Nat)) (List.length e)) (bc (Nat.ble (len + (1 : Nat)) (65536 : Nat)) (bc nn true (bc nn false true)) false) false) false) true false) false) false) true false) (.at (sA (n) (pw) (L ++ e) (len + (1 : Nat)) (IntKind.wrap IntKind.i64 (Int.ofNat (len + (1 : Nat)) - (1 : Int))))) .bad) := by kernel_rfl
theorem a_t (n pw : Int) (L : List Int) (len : Nat) (k : Int) : RT (stOf (sA n pw L len k)) = (bc (decide ((0 : Int) < k)) (bc (bc (bc (bc (bc (decide ((0 : Int) ≤ IntKind.wrap IntKind.i64 (k - (1 : Int)))) (Nat.blt (Int.toNat (IntKind.wrap IntKind.i64 (k - (1 : Int)))) len) false) true false) (bc (bc (decide (Int.toNat (IntKind.wrap IntKind.i64 (k - (1 : Int))) * (12 : Nat) + (12 : Nat) ≤ List.length L ∧ In12 (List.take (12 : Nat) (List.drop (Int.toNat (IntKind.wrap IntKind.i64 (k - (1 : Int))) * (12 : Nat)) L)))) true false) (bc (bc (bc (decide ((0 : Int) ≤ k)) (Nat.blt (Int.toNat k) len) false) true false) (bc (bc (Nat.beq (List.length (invS (List.take (12 : Nat) (List.drop (Int.toNat (IntKind.wrap IntKind.i64 (k - (1 : Int))) * (12 : Nat)) L)) (12 : Nat))) (12 : Nat)) (Nat.beq (List.length (zerosL (12 : Nat))) (12 : Nat)) false) true false) false) false) false) (bc (bc (bc (bc (Nat.beq len len) (eqN true true) false) true false) true false) true false) false) (.at (sB (n) (pw) (L) (invS (List.take (12 : Nat) (List.drop (Int.toNat (IntKind.wrap IntKind.i64 (k - (1 : Int))) * (12 : Nat)) L)) (12 : Nat)) (len) (k) (Int.toNat k) (false) ((1 : Int)))) .bad) (bc (bc (decide ((0 : Int) ≤ n ∧ n ≤ (12 : Int))) true false) (.at (sC (n) (pw) (L) (pA (Pm.del (Int.toNat n))) (len))) .bad)) := by kernel_rfl
theorem b_t (n pw : Int) (L q : List Int) (len : Nat) (k : Int) (m : Nat) (tk : Bool) (i : Int) : RT (stOf (sB n pw L q len k m tk i)) = (bc (decide (i < n)) (bc (decide (List.getD L (Nat.add (Nat.mul m (12 : Nat)) (Nat.add (0 : Nat) (Nat.mul (Int.toNat i) (1 : Nat)))) (0 : Int) < List.getD L (Nat.add (Nat.mul m (12 : Nat)) (Nat.add (0 : Nat) (Nat.mul (Int.toNat (IntKind.wrap IntKind.i64 (i - (1 : Int)))) (1 : Nat)))) (0 : Int))) (bc (bc (bc (bc (bc (decide ((0 : Int) ≤ IntKind.wrap IntKind.i64 (i - (1 : Int)))) (Nat.blt (Int.toNat (IntKind.wrap IntKind.i64 (i - (1 : Int)))) (12 : Nat)) false) true false) (bc (bc (Nat.blt (Nat.add (Nat.mul m (12 : Nat)) (Nat.add (0 : Nat) (Nat.mul (Int.toNat (IntKind.wrap IntKind.i64 (i - (1 : Int)))) (1 : Nat)))) (List.length L)) true false) (bc (bc (bc (decide ((0 : Int) ≤ i)) (Nat.blt (Int.toNat i) (12 : Nat)) false) true false) (bc (bc (Nat.blt (Nat.add (Nat.mul m (12 : Nat)) (Nat.add (0 : Nat) (Nat.mul (Int.toNat i) (1 : Nat)))) (List.length L)) true false) (bc (eqB (decide (List.getD L (Nat.add (Nat.mul m (12 : Nat)) (Nat.add (0 : Nat) (Nat.mul (Int.toNat i) (1 : Nat)))) (0 : Int) < List.getD L (Nat.add (Nat.mul m (12 : Nat)) (Nat.add (0 : Nat) (Nat.mul (Int.toNat (IntKind.wrap IntKind.i64 (i - (1 : Int)))) (1 : Nat)))) (0 : Int))) true) (bc (bc (bc (decide ((0 : Int) ≤ IntKind.wrap IntKind.i64 (i - (1 : Int)))) (Nat.blt (Int.toNat (IntKind.wrap IntKind.i64 (i - (1 : Int)))) (12 : Nat)) false) true false) (bc (bc (Nat.blt (Int.toNat (IntKind.wrap IntKind.i64 (i - (1 : Int)))) (List.length q)) true false) (bc (bc (bc (decide ((0 : Int) ≤ i)) (Nat.blt (Int.toNat i) (12 : Nat)) false) true false) (bc (bc (Nat.blt (Int.toNat i) (List.length q)) true false) true false) false) false) false) false) false) false) false) false) true false) (bc (decide (List.getD q (Int.toNat (IntKind.wrap IntKind.i64 (i - (1 : Int)))) (0 : Int) < List.getD q (Int.toNat i) (0 : Int))) (bc (bc (bc (bc (bc (decide ((0 : Int) ≤ i)) (Nat.blt (Int.toNat i) (12 : Nat)) false) true false) (bc (bc (Nat.blt (Int.toNat i) (List.length q)) true false) (bc (bc (bc (decide ((0 : Int) ≤ IntKind.wrap IntKind.i64 (i - (1 : Int)))) (Nat.blt (Int.toNat (IntKind.wrap IntKind.i64 (i - (1 : Int)))) (12 : Nat)) false) true false) (bc (bc (Nat.blt (Int.toNat (IntKind.wrap IntKind.i64 (i - (1 : Int)))) (List.length q)) true false) (bc (bc (bc (decide ((0 : Int) ≤ IntKind.wrap IntKind.i64 (i - (1 : Int)))) (Nat.blt (Int.toNat (IntKind.wrap IntKind.i64 (i - (1 : Int)))) (12 : Nat)) false) true false) (bc (Nat.blt (Int.toNat (IntKind.wrap IntKind.i64 (i - (1 : Int)))) (List.length q)) (bc (bc (bc (decide ((0 : Int) ≤ i)) (Nat.blt (Int.toNat i) (12 : Nat)) false) true false) (bc (Nat.blt (Int.toNat i) (List.length (List.set q (Int.toNat (IntKind.wrap IntKind.i64 (i - (1 : Int)))) (List.getD q (Int.toNat i) (0 : Int))))) true false) false) false) false) false) false) false) false) true false) (bc (bc (bc (bc (bc (decide ((0 : Int) ≤ i)) (Nat.blt (Int.toNat i) (12 : Nat)) false) true false) (bc (bc (Nat.blt (Nat.add (Nat.mul m (12 : Nat)) (Nat.add (0 : Nat) (Nat.mul (Int.toNat i) (1 : Nat)))) (List.length L)) true false) (bc (bc (bc (decide ((0 : Int) ≤ IntKind.wrap IntKind.i64 (i - (1 : Int)))) (Nat.blt (Int.toNat (IntKind.wrap IntKind.i64 (i - (1 : Int)))) (12 : Nat)) false) true false) (bc (bc (Nat.blt (Nat.add (Nat.mul m (12 : Nat)) (Nat.add (0 : Nat) (Nat.mul (Int.toNat (IntKind.wrap IntKind.i64 (i - (1 : Int)))) (1 : Nat)))) (List.length L)) true false) (bc (bc (bc (decide ((0 : Int) ≤ IntKind.wrap IntKind.i64 (i - (1 : Int)))) (Nat.blt (Int.toNat (IntKind.wrap IntKind.i64 (i - (1 : Int)))) (12 : Nat)) false) true false) (bc (Nat.blt (Nat.add (Nat.mul m (12 : Nat)) (Nat.add (0 : Nat) (Nat.mul (Int.toNat (IntKind.wrap IntKind.i64 (i - (1 : Int)))) (1 : Nat)))) (List.length L)) (bc (bc (bc (decide ((0 : Int) ≤ i)) (Nat.blt (Int.toNat i) (12 : Nat)) false) true false) (bc (Nat.blt (Nat.add (Nat.mul m (12 : Nat)) (Nat.add (0 : Nat) (Nat.mul (Int.toNat i) (1 : Nat)))) (List.length (List.set L (Nat.add (Nat.mul m (12 : Nat)) (Nat.add (0 : Nat) (Nat.mul (Int.toNat (IntKind.wrap IntKind.i64 (i - (1 : Int)))) (1 : Nat)))) (List.getD L (Nat.add (Nat.mul m (12 : Nat)) (Nat.add (0 : Nat) (Nat.mul (Int.toNat i) (1 : Nat)))) (0 : Int))))) true false) false) false) false) false) false) false) false) true false) (.at (sB (n) (pw) (List.set (List.set L (Nat.add (Nat.mul m (12 : Nat)) (Nat.add (0 : Nat) (Nat.mul (Int.toNat (IntKind.wrap IntKind.i64 (i - (1 : Int)))) (1 : Nat)))) (List.getD L (Nat.add (Nat.mul m (12 : Nat)) (Nat.add (0 : Nat) (Nat.mul (Int.toNat i) (1 : Nat)))) (0 : Int))) (Nat.add (Nat.mul m (12 : Nat)) (Nat.add (0 : Nat) (Nat.mul (Int.toNat i) (1 : Nat)))) (List.getD L (Nat.add (Nat.mul m (12 : Nat)) (Nat.add (0 : Nat) (Nat.mul (Int.toNat (IntKind.wrap IntKind.i64 (i - (1 : Int)))) (1 : Nat)))) (0 : Int))) (List.set (List.set q (Int.toNat (IntKind.wrap IntKind.i64 (i - (1 : Int)))) (List.getD q (Int.toNat i) (0 : Int))) (Int.toNat i) (List.getD q (Int.toNat (IntKind.wrap IntKind.i64 (i - (1 : Int)))) (0 : Int))) (len) (k) (m) (true) (IntKind.wrap IntKind.i64 ((0 : Int) + (1 : Int))))) .bad) .bad) (.at (sB (n) (pw) (L) (q) (len) (k) (m) (tk) (IntKind.wrap IntKind.i64 (i + (1 : Int)))))) .bad) (bc (bc (bc (bc (bc (decide ((0 : Int) ≤ IntKind.wrap IntKind.i64 (i - (1 : Int)))) (Nat.blt (Int.toNat (IntKind.wrap IntKind.i64 (i - (1 : Int)))) (12 : Nat)) false) true false) (bc (bc (Nat.blt (Nat.add (Nat.mul m (12 : Nat)) (Nat.add (0 : Nat) (Nat.mul (Int.toNat (IntKind.wrap IntKind.i64 (i - (1 : Int)))) (1 : Nat)))) (List.length L)) true false) (bc (bc (bc (decide ((0 : Int) ≤ i)) (Nat.blt (Int.toNat i) (12 : Nat)) false) true false) (bc (bc (Nat.blt (Nat.add (Nat.mul m (12 : Nat)) (Nat.add (0 : Nat) (Nat.mul (Int.toNat i) (1 : Nat)))) (List.length L)) true false) (bc (eqB (decide (List.getD L (Nat.add (Nat.mul m (12 : Nat)) (Nat.add (0 : Nat) (Nat.mul (Int.toNat i) (1 : Nat)))) (0 : Int) < List.getD L (Nat.add (Nat.mul m (12 : Nat)) (Nat.add (0 : Nat) (Nat.mul (Int.toNat (IntKind.wrap IntKind.i64 (i - (1 : Int)))) (1 : Nat)))) (0 : Int))) false) true false) false) false) false) false) true false) (.at (sB (n) (pw) (L) (q) (len) (k) (m) (tk) (IntKind.wrap IntKind.i64 (i + (1 : Int))))) .bad)) (bc (!tk) (bc (bc (decide ((0 : Int) ≤ n ∧ n ≤ (12 : Int))) true false) (.at (sC (n) (pw) (L) (pA (Pm.del (Int.toNat n))) (len))) .bad) (bc (bc (bc (bc (decide (In12 q)) true false) (bc (bc (bc (decide ((0 : Int) ≤ IntKind.wrap IntKind.i64 (k - (1 : Int)))) (Nat.blt (Int.toNat (IntKind.wrap IntKind.i64 (k - (1 : Int)))) len) false) true false) (bc (bc (Nat.beq (List.length (invS q (12 : Nat))) (12 : Nat)) (Nat.ble (Nat.add (Nat.add (Nat.mul (Int.toNat (IntKind.wrap IntKind.i64 (k - (1 : Int)))) (12 : Nat)) (0 : Nat)) (12 : Nat)) (List.length L)) false) true false) false) false) (bc (bc (bc (bc (Nat.beq len len) (eqN true true) false) true false) true false) true false) false) (.at (sA (n) (pw) (List.take (Nat.add (Nat.mul (Int.toNat (IntKind.wrap IntKind.i64 (k - (1 : Int)))) (12 : Nat)) (0 : Nat)) (List.drop (0 : Nat) L) ++ invS q (12 : Nat) ++ List.take (List.length L) (List.drop (Nat.add (Nat.add (Nat.mul (Int.toNat (IntKind.wrap IntKind.i64 (k - (1 : Int)))) (12 : Nat)) (0 : Nat)) (List.length (invS q (12 : Nat)))) L)) (len) (IntKind.wrap IntKind.i64 (k - (1 : Int))))) .bad))) := by kernel_rfl
theorem c_t (n pw : Int) (L D : List Int) (len : Nat) : RT (stOf (sC n pw L D len)) = (bc (decide ((0 : Int) < Int.ofNat len)) (bc (bc (bc (eqB (decide ((0 : Int) < Int.ofNat len)) true) (bc (bc (bc (decide ((0 : Int) ≤ IntKind.wrap IntKind.i64 (Int.ofNat len - (1 : Int)))) (Nat.blt (Int.toNat (IntKind.wrap IntKind.i64 (Int.ofNat len - (1 : Int)))) len) false) true false) (bc (bc (Nat.ble (Nat.add (Nat.add (Nat.mul (Int.toNat (IntKind.wrap IntKind.i64 (Int.ofNat len - (1 : Int)))) (12 : Nat)) (0 : Nat)) (12 : Nat)) (List.length L)) true false) (bc (bc (bc (Nat.beq (List.length (List.take (12 : Nat) (List.drop (Nat.add (Nat.mul (Int.toNat (IntKind.wrap IntKind.i64 (Int.ofNat len - (1 : Int)))) (12 : Nat)) (0 : Nat)) L))) (12 : Nat)) (Nat.beq (List.length [(0 : Int), (1 : Int), (2 : Int), (3 : Int), (4 : Int), (5 : Int), (6 : Int), (7 : Int), (8 : Int), (9 : Int), (10 : Int), (11 : Int)]) (12 : Nat)) false) true false) true false) false) false) false) true false) (bc (eqLI (List.take (12 : Nat) (List.drop (Nat.add (Nat.mul (Int.toNat (IntKind.wrap IntKind.i64 (Int.ofNat len - (1 : Int)))) (12 : Nat)) (0 : Nat)) L)) [(0 : Int), (1 : Int), (2 : Int), (3 : Int), (4 : Int), (5 : Int), (6 : Int), (7 : Int), (8 : Int), (9 : Int), (10 : Int), (11 : Int)]) (bc (bc (bc (bc (decide ((0 : Int) ≤ IntKind.wrap IntKind.i64 (Int.ofNat len - (1 : Int)))) (bc (Nat.ble (Int.toNat (IntKind.wrap IntKind.i64 (Int.ofNat len - (1 : Int)))) len) (Nat.beq (Nat.mul len (12 : Nat)) (List.length L)) false) false) true false) true false) (.at (sC (n) (pw) (List.take (Int.toNat (IntKind.wrap IntKind.i64 (Int.ofNat len - (1 : Int))) * (12 : Nat)) L) (D) (Int.toNat (IntKind.wrap IntKind.i64 (Int.ofNat len - (1 : Int)))))) .bad) (.at (sD (n) (pw) (L) (D) (len)))) .bad) (bc (bc (bc (eqB (decide ((0 : Int) < Int.ofNat len)) false) true false) true false) (.at (sD (n) (pw) (L) (D) (len))) .bad)) := by kernel_rfl
theorem d_t (n pw : Int) (L D : List Int) (len : Nat) : RT (stOf (sD n pw L D len)) = (bc (decide ((0 : Int) < Int.ofNat len)) (bc (bc (bc (eqB (decide ((0 : Int) < Int.ofNat len)) true) (bc (bc (Nat.blt (Int.toNat (0 : Int)) len) true false) (bc (bc (Nat.ble (Nat.add (Nat.add (Nat.mul (Int.toNat (0 : Int)) (12 : Nat)) (0 : Nat)) (12 : Nat)) (List.length L)) true false) (bc (bc (Nat.beq (12 : Nat) (List.length D)) true false) (bc (bc (bc (Nat.beq (List.length (List.take (12 : Nat) (List.drop (Nat.add (Nat.mul (Int.toNat (0 : Int)) (12 : Nat)) (0 : Nat)) L))) (12 : Nat)) (Nat.beq (List.length D) (12 : Nat)) false) true false) true false) false) false) false) false) true false) (bc (eqLI (List.take (12 : Nat) (List.drop (Nat.add (Nat.mul (Int.toNat (0 : Int)) (12 : Nat)) (0 : Nat)) L)) D) (bc (bc (Nat.ble (Int.toNat (1 : Int)) len) (Nat.beq (Nat.mul len (12 : Nat)) (List.length L)) false) (.at (sD (n) (IntKind.wrap IntKind.i64 (pw + (1 : Int))) (List.drop (Int.toNat (1 : Int) * (12 : Nat)) L) (D) (len - Int.toNat (1 : Int)))) .bad) (.done (EV.tup []) [(0, (EK.cells 89 [(EV.v (Value.int IntKind.i64 (n))), (EV.v (Value.int IntKind.i64 (pw))), (EV.slO 1 12 (len) true)] true)), (1, (EK.seq 92 (SyC.ints IntKind.u8 (L)) true))] 2)) .bad) (bc (bc (bc (eqB (decide ((0 : Int) < Int.ofNat len)) false) true false) true false) (.done (EV.tup []) [(0, (EK.cells 89 [(EV.v (Value.int IntKind.i64 (n))), (EV.v (Value.int IntKind.i64 (pw))), (EV.slO 1 12 (len) true)] true)), (1, (EK.seq 92 (SyC.ints IntKind.u8 (L)) true))] 2) .bad)) := by kernel_rfl
end PTim
end Go.Proofs.Ytooimphimnagaaa.Ev
namespace Go.Proofs.Ytooimphimnagaaa.Ev
open Go.Proofs
namespace PTim
variable {n : Nat}
theorem step1 {pw : Int} {A B : List (Pm n)} {a b : Pm n} {len : Nat} {k : Int} {tk : Bool} {i : Nat} (hn : n ≤ 12) (hi : 0 < i ∧ i < n) (hb : b.beg i) (hf : ¬ a.fin i) : RT (stOf (sB n pw (encF (A ++ b :: B)) (pA a.inv) len k A.length tk i)) = .at (sB n pw (encF (A ++ b.L i hi :: B)) (pA (a.R i hi).inv) len k A.length true (1 : Nat)) := by
  obtain ⟨j, rfl⟩ : ∃ j, i = j + 1 := ⟨i - 1, by omega⟩; rw [b_t]; have w : IntKind.i64.wrap (((j + 1 : Nat) : Int) - 1) = (j : Int) := by rw [wrap_in _ (by omega) (by omega)]; omega
  have e1 : ((j : Int)).toNat = j := rfl; have e2 : (((j + 1 : Nat) : Int)).toNat = j + 1 := rfl; rw [w, e1, e2]; have i1 : Nat.add (Nat.mul A.length 12) (Nat.add 0 (Nat.mul j 1)) = A.length * 12 + j := by show A.length * 12 + (0 + j * 1) = _; omega
  have i2 : Nat.add (Nat.mul A.length 12) (Nat.add 0 (Nat.mul (j + 1) 1)) = A.length * 12 + (j + 1) := by show A.length * 12 + (0 + (j + 1) * 1) = _; omega
  rw [i1, i2, encF_get A B b (show j < 12 by omega), encF_get A B b (show j + 1 < 12 by omega), pA_get a.inv (show j < 12 by omega), pA_get a.inv (show j + 1 < 12 by omega)]; have l1 := pA_L b hi hn; have l2 := pA_L a.inv hi hn; rw [show j + 1 - 1 = j by omega] at l1 l2; rw [encF_set2 A B b (b.L (j + 1) hi) j (j + 1) _ _ (by omega) (by omega) l1, l2, ← inv_R a hi]; have f1 : (b.f (j + 1) : Int) < (b.f j : Int) := by
    unfold Pm.beg at hb; rw [show j + 1 - 1 = j by omega] at hb; omega
  have f2 : (a.inv.f j : Int) < (a.inv.f (j + 1) : Int) := by
    have := (Pm.nfin hi.1).1 hf; rw [show j + 1 - 1 = j by omega] at this; show (a.g j : Int) < (a.g (j + 1) : Int); omega
  have hlen : (encF (A ++ b :: B)).length = A.length * 12 + 12 + B.length * 12 := by rw [encF_len, List.length_append, List.length_cons]; omega
  have z1 : (Int.ofNat 0 + 1 : Int) = ((1 : Nat) : Int) := rfl; rw [List.length_set, List.length_set, hlen, pA_len]; simp (disch := omega) only [Nat.add_eq, eqSy_self, eqN_self, bc_same, List.length_cons, ofn, wrap_in, dt, df, bltD, bltN, ble_of, bleN, beqD, bc_t, bc_f, nn_ok, Nat.zero_add, to_nat, Int.zero_add, Int.sub_zero, Int.sub_self, Int.cast_ofNat_Int, Int.natCast_zero, Int.toNat_zero, List.take_zero, List.nil_append, List.length_append, List.length_nil, eqB]
theorem step2 {pw : Int} {A B : List (Pm n)} {a b : Pm n} {len : Nat} {k : Int} {tk : Bool} {i : Nat} (hn : n ≤ 12) (hi : 0 < i ∧ i < n) (h : ¬ (b.beg i ∧ ¬ a.fin i)) : RT (stOf (sB n pw (encF (A ++ b :: B)) (pA a.inv) len k A.length tk i)) = .at (sB n pw (encF (A ++ b :: B)) (pA a.inv) len k A.length tk (i + 1 : Nat)) := by
  obtain ⟨j, rfl⟩ : ∃ j, i = j + 1 := ⟨i - 1, by omega⟩; rw [b_t]; have w : IntKind.i64.wrap (((j + 1 : Nat) : Int) - 1) = (j : Int) := by rw [wrap_in _ (by omega) (by omega)]; omega
  have e1 : ((j : Int)).toNat = j := rfl; have e2 : (((j + 1 : Nat) : Int)).toNat = j + 1 := rfl; rw [w, e1, e2]; have i1 : Nat.add (Nat.mul A.length 12) (Nat.add 0 (Nat.mul j 1)) = A.length * 12 + j := by show A.length * 12 + (0 + j * 1) = _; omega
  have i2 : Nat.add (Nat.mul A.length 12) (Nat.add 0 (Nat.mul (j + 1) 1)) = A.length * 12 + (j + 1) := by show A.length * 12 + (0 + (j + 1) * 1) = _; omega
  rw [i1, i2, encF_get A B b (show j < 12 by omega), encF_get A B b (show j + 1 < 12 by omega), pA_get a.inv (show j < 12 by omega), pA_get a.inv (show j + 1 < 12 by omega)]; have hlen : (encF (A ++ b :: B)).length = A.length * 12 + 12 + B.length * 12 := by rw [encF_len, List.length_append, List.length_cons]; omega
  rw [List.length_set, List.length_set, hlen, pA_len]
  by_cases hb : b.beg (j + 1)
  · have hf : a.fin (j + 1) := Classical.byContradiction fun hf => h ⟨hb, hf⟩; have f1 : (b.f (j + 1) : Int) < (b.f j : Int) := by
      unfold Pm.beg at hb; rw [show j + 1 - 1 = j by omega] at hb; omega
    have f2 : ¬ (a.inv.f j : Int) < (a.inv.f (j + 1) : Int) := by
      unfold Pm.fin at hf; rw [show j + 1 - 1 = j by omega] at hf; show ¬ (a.g j : Int) < (a.g (j + 1) : Int); omega
    simp (disch := omega) only [Nat.add_eq, eqSy_self, eqN_self, bc_same, List.length_cons, ofn, wrap_in, dt, df, bltD, bltN, ble_of, bleN, beqD, bc_t, bc_f, nn_ok, Nat.zero_add, to_nat, Int.zero_add, Int.sub_zero, Int.sub_self, Int.cast_ofNat_Int, Int.natCast_zero, Int.toNat_zero, List.take_zero, List.nil_append, List.length_append, List.length_nil, eqB]; rfl
  · have f1 : ¬ (b.f (j + 1) : Int) < (b.f j : Int) := by
      unfold Pm.beg at hb; rw [show j + 1 - 1 = j by omega] at hb; omega
    simp (disch := omega) only [Nat.add_eq, eqSy_self, eqN_self, bc_same, List.length_cons, ofn, wrap_in, dt, df, bltD, bltN, ble_of, bleN, beqD, bc_t, bc_f, nn_ok, Nat.zero_add, to_nat, Int.zero_add, Int.sub_zero, Int.sub_self, Int.cast_ofNat_Int, Int.natCast_zero, Int.toNat_zero, List.take_zero, List.nil_append, List.length_append, List.length_nil, eqB]; rfl

theorem loopB {pw : Int} {A B : List (Pm n)} {len : Nat} {k : Int} (hn : n ≤ 12) : ∀ (μ : Nat) (a b : Pm n) (i : Nat) (tk : Bool), a.W * (n + 1) + (n - i) ≤ μ → 1 ≤ i → i ≤ n → (∀ j, 0 < j → j < i → ¬ (b.beg j ∧ ¬ a.fin j)) →
    ∃ a' b' tk', Mvs [a, b] [a', b'] ∧ Lw a' b' ∧ (tk' = false → tk = false ∧ a' = a ∧ b' = b) ∧ (tk' = true → tk = true ∨ a'.W < a.W) ∧ LeadsM Try.prog 1 (stOf (sB n pw (encF (A ++ b :: B)) (pA a.inv) len k A.length tk i)) (stOf (sB n pw (encF (A ++ b' :: B)) (pA a'.inv) len k A.length tk' n))
  | μ, a, b, i, tk, hμ, h1, h2, hj => by
    by_cases hi : i = n
    · subst hi; exact ⟨a, b, tk, .refl _, fun j g1 g2 hb => Classical.byContradiction fun hf => hj j g1 g2 ⟨hb, hf⟩, fun h => ⟨h, rfl, rfl⟩, fun h => .inl h, LeadsM.refl _ _⟩
    · have hin : 0 < i ∧ i < n := ⟨h1, by omega⟩
      by_cases hs : b.beg i ∧ ¬ a.fin i
      · obtain ⟨hb, hf⟩ := hs; have hW := a.W_R hin hf
        match μ with
        | 0 => omega
        | μ + 1 =>
          have hm : (a.R i hin).W * (n + 1) + (n + 1) ≤ a.W * (n + 1) := by rw [← Nat.succ_mul]; exact Nat.mul_le_mul_right _ hW
          obtain ⟨a', b', tk', g1, g2, g3, g4, g5⟩ := loopB (pw := pw) (A := A) (B := B) (len := len) (k := k) hn μ (a.R i hin) (b.L i hin) 1 true (by omega) (Nat.le_refl _) (by omega) (fun j q1 q2 => by omega); refine ⟨a', b', tk', .step (.here a b [] i hin hb hf) g1, g2, fun h => absurd (g3 h).1 (by decide), fun h => .inr ?_, (leadsMZ ct_ok (step1 hn hin hb hf)).trans g5⟩; have hle : a'.W ≤ (a.R i hin).W := by
            rcases Bool.eq_false_or_eq_true tk' with e | e
            · have hmv : ∀ {s t : List (Pm n)}, Mvs s t → ∀ {x y x' y' : Pm n}, s = [x, y] → t = [x', y'] → x'.W ≤ x.W := by
                intro s t h
                induction h with
                | refl s => intro x y x' y' e1 e2; rw [e1] at e2; injection e2 with e2; rw [e2]; exact Nat.le_refl _
                | step h1 h2 ih =>
                  intro x y x' y' e1 e2; subst e1
                  cases h1 with
                  | here _ _ _ q hq hb2 hf2 =>
                    have := ih rfl e2; have := x.W_R hq hf2; omega
                  | there _ h3 => cases h3 with
                    | there _ h4 => cases h4
              exact hmv g1 rfl rfl
            · exact absurd (g3 e).1 (by decide)
          omega
      · match μ with
        | 0 => omega
        | μ + 1 =>
          obtain ⟨a', b', tk', g1, g2, g3, g4, g5⟩ := loopB (pw := pw) (A := A) (B := B) (len := len) (k := k) hn μ a b (i + 1) tk (by omega) (by omega) (by omega) (fun j q1 q2 => by
            by_cases e : j = i
            · rw [e]; exact hs
            · exact hj j q1 (by omega))
          exact ⟨a', b', tk', g1, g2, g3, g4, (leadsMZ ct_ok (step2 hn hin hs)).trans g5⟩

theorem pair {pw : Int} {A B : List (Pm n)} {a b : Pm n} {len : Nat} {k : Int} (hn1 : 1 ≤ n) (hn : n ≤ 12) :
    (nf1 a b = a ∧ LeadsM Try.prog 1 (stOf (sB n pw (encF (A ++ b :: B)) (pA a.inv) len k A.length false (1 : Nat))) (stOf (sB n pw (encF (A ++ b :: B)) (pA a.inv) len k A.length false n))) ∨
    (nf1 a b ≠ a ∧ LeadsM Try.prog 1 (stOf (sB n pw (encF (A ++ b :: B)) (pA a.inv) len k A.length false (1 : Nat))) (stOf (sB n pw (encF (A ++ nf2 a b :: B)) (pA (nf1 a b).inv) len k A.length true n))) := by
  obtain ⟨a', b', tk', g1, g2, g3, g4, g5⟩ := loopB (pw := pw) (A := A) (B := B) (len := len) (k := k) hn _ a b 1 false (Nat.le_refl _) (Nat.le_refl _) hn1 (fun j q1 q2 => by omega); have hN : NF [a, b] = [a', b'] := NF_of g1 (nrm_cons.2 ⟨g2, nrm_single _⟩); have e1 : nf1 a b = a' := by unfold nf1; rw [hN]; rfl
  have e2 : nf2 a b = b' := by unfold nf2; rw [hN]; rfl
  cases tk' with
  | false =>
    obtain ⟨_, h1, h2⟩ := g3 rfl; subst h1; subst h2; exact .inl ⟨e1, g5⟩
  | true =>
    rcases g4 rfl with h | h
    · cases h
    · right; rw [e1, e2]; exact ⟨fun e => by rw [e] at h; omega, g5⟩
theorem lastB0 {pw : Int} {L q : List Int} {len : Nat} {k : Int} {m : Nat} (hn : n ≤ 12) : RT (stOf (sB n pw L q len k m false n)) = .at (sC n pw L (pA (Pm.del n)) len) := by
  rw [b_t, df (show ¬ (n : Int) < n by omega), bc_f]; have e1 : ((n : Int)).toNat = n := rfl; rw [e1, dt (show 0 ≤ (n : Int) ∧ (n : Int) ≤ 12 from ⟨by omega, by omega⟩)]
  rfl
theorem lastB1 {pw : Int} {A B : List (Pm n)} {x a' : Pm n} {len : Nat} {m : Nat} (hn : n ≤ 12) (hl : len = A.length + 1 + B.length) (hz : len ≤ 6000) : RT (stOf (sB n pw (encF (A ++ x :: B)) (pA a'.inv) len (A.length + 1 : Nat) m true n)) = .at (sA n pw (encF (A ++ a' :: B)) len A.length) := by
  rw [b_t, df (show ¬ (n : Int) < n by omega), bc_f]; have w : IntKind.i64.wrap (((A.length + 1 : Nat) : Int) - 1) = (A.length : Int) := by rw [wrap_in _ (by omega) (by omega)]; omega
  have e1 : ((A.length : Int)).toNat = A.length := rfl; rw [w, e1, dt (In12.pA hn a'.inv), invS_pA hn a'.inv, pA_len]; have e2 : Nat.add (Nat.mul A.length 12) 0 = A.length * 12 := rfl; have e3 : Nat.add (A.length * 12) 12 = (A ++ [x]).length * 12 := by rw [List.length_append, List.length_singleton]; show A.length * 12 + 12 = _; omega
  rw [e2, e3, List.drop_zero, encF_take]; have hB : encF (A ++ x :: B) = encF ((A ++ [x]) ++ B) := by rw [List.append_assoc]; rfl
  rw [hB, encF_drop, List.take_of_length_le (by rw [encF_len, encF_len, List.length_append]; omega)]; have hd : (pA a'.inv.inv : List Int) = pA a' := pA_same fun _ _ => rfl; have e8 : encF A ++ pA a' ++ encF B = encF (A ++ a' :: B) := by rw [encF_app, encF_cons, List.append_assoc]
  rw [hd, e8]; have hlen : (encF ((A ++ [x]) ++ B)).length = A.length * 12 + 12 + B.length * 12 := by rw [encF_len, List.length_append, List.length_append, List.length_singleton]; omega
  rw [hlen, List.length_append, List.length_singleton]; simp (disch := omega) only [Nat.add_eq, eqSy_self, eqN_self, bc_same, List.length_cons, ofn, wrap_in, dt, df, bltD, bltN, ble_of, bleN, beqD, bc_t, bc_f, nn_ok, Nat.zero_add, to_nat, Int.zero_add, Int.sub_zero, Int.sub_self, Int.cast_ofNat_Int, Int.natCast_zero, Int.toNat_zero, List.take_zero, List.nil_append, List.length_append, List.length_nil]; rfl
theorem stepA {pw : Int} {A B : List (Pm n)} {a b : Pm n} {len : Nat} (hn : n ≤ 12) (hl : len = A.length + 2 + B.length) (hz : len ≤ 6000) : RT (stOf (sA n pw (encF (A ++ a :: b :: B)) len (A.length + 1 : Nat))) = .at (sB n pw (encF ((A ++ [a]) ++ b :: B)) (pA a.inv) len (A.length + 1 : Nat) (A ++ [a]).length false (1 : Nat)) := by
  rw [a_t]; have w : IntKind.i64.wrap (((A.length + 1 : Nat) : Int) - 1) = (A.length : Int) := by rw [wrap_in _ (by omega) (by omega)]; omega
  have e1 : ((A.length : Int)).toNat = A.length := rfl; have e2 : (((A.length + 1 : Nat) : Int)).toNat = A.length + 1 := rfl; have e3 : (A ++ [a]).length = A.length + 1 := by rw [List.length_append]; rfl
  rw [w, e1, e2, e3, encF_win, invS_pA hn, pA_len]; have hlen : (encF (A ++ a :: b :: B)).length = A.length * 12 + 24 + B.length * 12 := by rw [encF_len, List.length_append, List.length_cons, List.length_cons]; omega
  have hin : A.length * 12 + 12 ≤ (encF (A ++ a :: b :: B)).length ∧ In12 (pA a) := ⟨by omega, In12.pA hn a⟩; rw [dt hin]; have e6 : (zerosL 12).length = 12 := rfl; have e7 : encF ((A ++ [a]) ++ b :: B) = encF (A ++ a :: b :: B) := by rw [List.append_assoc]; rfl
  rw [e6, e7]; simp (disch := omega) only [Nat.add_eq, eqSy_self, eqN_self, bc_same, List.length_cons, ofn, wrap_in, dt, df, bltD, bltN, ble_of, bleN, beqD, bc_t, bc_f, nn_ok, Nat.zero_add, to_nat, Int.zero_add, Int.sub_zero, Int.sub_self, Int.cast_ofNat_Int, Int.natCast_zero, Int.toNat_zero, List.take_zero, List.nil_append, List.length_append, List.length_nil]
theorem lastA {pw : Int} {L : List Int} {len : Nat} (hn : n ≤ 12) : RT (stOf (sA n pw L len (0 : Nat))) = .at (sC n pw L (pA (Pm.del n)) len) := by
  rw [a_t, df (show ¬ (0 : Int) < ((0 : Nat) : Int) by omega), bc_f]; have e1 : ((n : Int)).toNat = n := rfl; rw [e1, dt (show 0 ≤ (n : Int) ∧ (n : Int) ≤ 12 from ⟨by omega, by omega⟩)]
  rfl

theorem loopA {pw : Int} {len : Nat} (hn1 : 1 ≤ n) (hn : n ≤ 12) (hz : len ≤ 6000) : ∀ (r : List (Pm n)) (p : Pm n) (D : List (Pm n)), len = r.length + 1 + D.length → LeadsM Try.prog 1 (stOf (sA n pw (encF (r.reverse ++ p :: D)) len r.length)) (stOf (sC n pw (encF ((pasR r p).reverse ++ D)) (pA (Pm.del n)) len))
  | [], p, D, h => leadsMZ ct_ok (lastA hn)
  | x :: r, p, D, h => by
    rw [List.length_cons] at h; have hA : r.reverse.length = r.length := List.length_reverse; have h1 := stepA (pw := pw) (A := r.reverse) (B := D) (a := x) (b := p) (len := len) hn (by omega) hz; have e1 : (x :: r).reverse ++ p :: D = r.reverse ++ x :: p :: D := by rw [List.reverse_cons, List.append_assoc]; rfl
    rw [e1]; rw [hA] at h1; refine LeadsM.trans (leadsMZ ct_ok h1) ?_; rcases pair (pw := pw) (A := r.reverse ++ [x]) (B := D) (a := x) (b := p) (len := len) (k := (r.length + 1 : Nat)) hn1 hn with ⟨g1, g2⟩ | ⟨g1, g2⟩
    · refine g2.trans ?_; unfold pasR; rw [if_pos g1]; have e2 : (p :: x :: r).reverse ++ D = (r.reverse ++ [x]) ++ p :: D := by rw [List.reverse_cons, List.reverse_cons, List.append_assoc]; rfl
      rw [e2]; exact leadsMZ ct_ok (lastB0 hn)
    · refine g2.trans ?_; unfold pasR; rw [if_neg g1]; have h2 := lastB1 (pw := pw) (A := r.reverse) (B := nf2 x p :: D) (x := x) (a' := nf1 x p) (len := len) (m := (r.reverse ++ [x]).length) hn (by rw [List.length_cons]; omega) hz; rw [hA] at h2; have e3 : r.reverse ++ x :: nf2 x p :: D = (r.reverse ++ [x]) ++ nf2 x p :: D := by rw [List.append_assoc]; rfl
      rw [e3] at h2; have e4 : (nf2 x p :: pasR r (nf1 x p)).reverse ++ D = (pasR r (nf1 x p)).reverse ++ nf2 x p :: D := by rw [List.reverse_cons, List.append_assoc]; rfl
      rw [e4]; exact (leadsMZ ct_ok h2).trans (loopA hn1 hn hz r (nf1 x p) (nf2 x p :: D) (by rw [List.length_cons]; omega))
theorem ofPA (p : Pm n) (hn : n ≤ 12) : eqLI (pA p) e12 = true ↔ p = Pm.one n := by
  rw [eqLI_iff, e12_one n]; exact ⟨fun h => pA_inj hn h, fun h => by rw [h]⟩
theorem stepC1 {pw : Int} {F : List (Pm n)} {D : List Int} (hn : n ≤ 12) (hz : F.length ≤ 6000) : RT (stOf (sC n pw (encF (F ++ [Pm.one n])) D (F.length + 1))) = .at (sC n pw (encF F) D F.length) := by
  rw [c_t]; have w : IntKind.i64.wrap (Int.ofNat (F.length + 1) - 1) = (F.length : Int) := by
    rw [ofn, wrap_in _ (by omega) (by omega)]; omega
  have e1 : ((F.length : Int)).toNat = F.length := rfl; have e2 : Nat.add (Nat.mul F.length 12) 0 = F.length * 12 := rfl; rw [w, e1, e2, encF_win F [], encF_take, (ofPA (Pm.one n) hn).2 rfl, pA_len]; have hlen : (encF (F ++ [Pm.one n])).length = F.length * 12 + 12 := by rw [encF_len, List.length_append, List.length_singleton]; omega
  have e3 : ([0, 1, 2, 3, 4, 5, 6, 7, 8, 9, 10, 11] : List Int).length = 12 := rfl; have m12 : Nat.mul (F.length + 1) 12 = F.length * 12 + 12 := by show (F.length + 1) * 12 = _; omega
  rw [hlen, e3, m12]; simp (disch := omega) only [Nat.add_eq, eqSy_self, eqN_self, bc_same, List.length_cons, ofn, wrap_in, dt, df, bltD, bltN, ble_of, bleN, beqD, bc_t, bc_f, nn_ok, Nat.zero_add, to_nat, Int.zero_add, Int.sub_zero, Int.sub_self, Int.cast_ofNat_Int, Int.natCast_zero, Int.toNat_zero, List.take_zero, List.nil_append, List.length_append, List.length_nil, eqB]
theorem stepC2 {pw : Int} {F : List (Pm n)} {D : List Int} {p : Pm n} (hn : n ≤ 12) (hz : F.length ≤ 6000) (hp : p ≠ Pm.one n) : RT (stOf (sC n pw (encF (F ++ [p])) D (F.length + 1))) = .at (sD n pw (encF (F ++ [p])) D (F.length + 1)) := by
  rw [c_t]; have w : IntKind.i64.wrap (Int.ofNat (F.length + 1) - 1) = (F.length : Int) := by
    rw [ofn, wrap_in _ (by omega) (by omega)]; omega
  have e1 : ((F.length : Int)).toNat = F.length := rfl; have e2 : Nat.add (Nat.mul F.length 12) 0 = F.length * 12 := rfl; have hb : eqLI (pA p) e12 = false := by
    cases h : eqLI (pA p) e12 with
    | false => rfl
    | true => exact absurd ((ofPA p hn).1 h) hp
  rw [w, e1, e2, encF_win F [], hb, pA_len]; have hlen : (encF (F ++ [p])).length = F.length * 12 + 12 := by rw [encF_len, List.length_append, List.length_singleton]; omega
  have e3 : ([0, 1, 2, 3, 4, 5, 6, 7, 8, 9, 10, 11] : List Int).length = 12 := rfl; rw [hlen, e3]; simp (disch := omega) only [Nat.add_eq, eqSy_self, eqN_self, bc_same, List.length_cons, ofn, wrap_in, dt, df, bltD, bltN, ble_of, bleN, beqD, bc_t, bc_f, nn_ok, Nat.zero_add, to_nat, Int.zero_add, Int.sub_zero, Int.sub_self, Int.cast_ofNat_Int, Int.natCast_zero, Int.toNat_zero, List.take_zero, List.nil_append, List.length_append, List.length_nil, eqB]
theorem stepC0 {pw : Int} {D : List Int} : RT (stOf (sC n pw [] D 0)) = .at (sD n pw [] D 0) := by
  rw [c_t]; rfl
theorem loopC {pw : Int} {D : List Int} {T : List (Pm n)} (hn : n ≤ 12) (hT : T = [] ∨ ∃ F p, T = F ++ [p] ∧ p ≠ Pm.one n) : ∀ r : Nat, T.length + r ≤ 6000 → LeadsM Try.prog 1 (stOf (sC n pw (encF (T ++ List.replicate r (Pm.one n))) D (T.length + r))) (stOf (sD n pw (encF T) D T.length))
  | 0, hr => by
    rw [List.replicate_zero, List.append_nil]; rcases hT with rfl | ⟨F, p, rfl, hp⟩
    · exact leadsMZ ct_ok stepC0
    · rw [List.length_append, List.length_singleton] at hr ⊢; exact leadsMZ ct_ok (stepC2 hn (by omega) hp)
  | r + 1, hr => by
    rw [List.replicate_succ', ← List.append_assoc]; have h := stepC1 (pw := pw) (F := T ++ List.replicate r (Pm.one n)) (D := D) hn (by rw [List.length_append, List.length_replicate]; omega); rw [List.length_append, List.length_replicate] at h; exact (leadsMZ ct_ok h).trans (loopC hn hT r (by omega))
theorem stepD1 {pw : Int} {F : List (Pm n)} (hz : F.length ≤ 6000) (h1 : -100000 ≤ pw) (h2 : pw ≤ 100000) : RT (stOf (sD n pw (encF (Pm.del n :: F)) (pA (Pm.del n)) (F.length + 1))) = .at (sD n (pw + 1) (encF F) (pA (Pm.del n)) F.length) := by
  rw [d_t]; have e2 : Nat.add (Nat.mul (Int.toNat 0) 12) 0 = ([] : List (Pm n)).length * 12 := rfl; have e3 : Int.toNat 1 * 12 = [Pm.del n].length * 12 := rfl; have e4 : encF (Pm.del n :: F) = encF ([] ++ Pm.del n :: F) := rfl; have e5 : encF (Pm.del n :: F) = encF ([Pm.del n] ++ F) := rfl; have hlen : (encF (Pm.del n :: F)).length = F.length * 12 + 12 := by rw [encF_len, List.length_cons]; omega
  have d1 : (encF (Pm.del n :: F)).drop ([Pm.del n].length * 12) = encF F := by rw [e5]; exact encF_drop _ _
  have t1 : ((encF (Pm.del n :: F)).drop (([] : List (Pm n)).length * 12)).take 12 = pA (Pm.del n) := by rw [e4]; exact encF_win _ _ _
  rw [e2, e3, d1, t1, pA_len, hlen, eqLI_iff.2 rfl]; have e6 : Int.toNat 1 = 1 := rfl; have e7 : Int.toNat 0 = 0 := rfl; have e8 : ([] : List (Pm n)).length * 12 = 0 := rfl; have m12 : Nat.mul (F.length + 1) 12 = F.length * 12 + 12 := by show (F.length + 1) * 12 = _; omega
  rw [e6, e7, e8, Nat.add_sub_cancel, m12]; simp (disch := omega) only [Nat.add_eq, eqSy_self, eqN_self, bc_same, List.length_cons, ofn, wrap_in, dt, df, bltD, bltN, ble_of, bleN, beqD, bc_t, bc_f, nn_ok, Nat.zero_add, to_nat, Int.zero_add, Int.sub_zero, Int.sub_self, Int.cast_ofNat_Int, Int.natCast_zero, Int.toNat_zero, List.take_zero, List.nil_append, List.length_append, List.length_nil, eqB]
noncomputable def K1 (n : Nat) (pw : Int) (F : List (Pm n)) : List (Nat × EK) := PDel.K0 n pw (encF F) F.length true
theorem stepD2 {pw : Int} {F : List (Pm n)} (hn : n ≤ 12) (hz : F.length ≤ 6000) (hF : ∀ p, p ∈ F → p ≠ Pm.del n) : RT (stOf (sD n pw (encF F) (pA (Pm.del n)) F.length)) = .done (.tup []) (K1 n pw F) 2 := by
  rw [d_t]
  cases F with
  | nil => rfl
  | cons p F =>
    have e2 : Nat.add (Nat.mul (Int.toNat 0) 12) 0 = ([] : List (Pm n)).length * 12 := rfl; have t1 : ((encF (p :: F)).drop (([] : List (Pm n)).length * 12)).take 12 = pA p := encF_win [] F p; have hlen : (encF (p :: F)).length = F.length * 12 + 12 := by rw [encF_len, List.length_cons]; omega
    have hb : eqLI (pA p) (pA (Pm.del n)) = false := by
      cases h : eqLI (pA p) (pA (Pm.del n)) with
      | false => rfl
      | true => exact absurd (pA_inj hn (eqLI_iff.1 h)) (hF p List.mem_cons_self)
    rw [e2, t1, pA_len, pA_len, hlen, hb]; have e7 : Int.toNat 0 = 0 := rfl; have e8 : ([] : List (Pm n)).length * 12 = 0 := rfl; rw [List.length_cons] at hz; rw [e7, e8, List.length_cons]; simp (disch := omega) only [Nat.add_eq, eqSy_self, eqN_self, bc_same, List.length_cons, ofn, wrap_in, dt, df, bltD, bltN, ble_of, bleN, beqD, bc_t, bc_f, nn_ok, Nat.zero_add, to_nat, Int.zero_add, Int.sub_zero, Int.sub_self, Int.cast_ofNat_Int, Int.natCast_zero, Int.toNat_zero, List.take_zero, List.nil_append, List.length_append, List.length_nil, eqB]; rfl
theorem loopD {F : List (Pm n)} (hn : n ≤ 12) (hF : ∀ p, p ∈ F → p ≠ Pm.del n) : ∀ (m : Nat) (pw : Int), F.length + m ≤ 6000 → -90000 ≤ pw → pw + m ≤ 90000 → EndM 1 126 ct (stOf (sD n pw (encF (List.replicate m (Pm.del n) ++ F)) (pA (Pm.del n)) (m + F.length))) (.tup []) (K1 n (pw + m) F) 2
  | 0, pw, h, h1, h2 => by
    rw [List.replicate_zero, List.nil_append, Nat.zero_add, show pw + ((0 : Nat) : Int) = pw by omega]; exact .done (stepD2 hn (by omega) hF)
  | m + 1, pw, h, h1, h2 => by
    have h3 := stepD1 (pw := pw) (F := List.replicate m (Pm.del n) ++ F) (by rw [List.length_append, List.length_replicate]; omega) (by omega) (by omega); rw [List.length_append, List.length_replicate, show m + F.length + 1 = m + 1 + F.length by omega] at h3; rw [List.replicate_succ, List.cons_append]; have h4 := loopD hn hF m (pw + 1) (by omega) (by omega) (by omega); rw [show pw + 1 + (m : Int) = pw + ((m + 1 : Nat) : Int) by omega] at h4; exact .at ct_ok h3 h4
theorem ends {pw : Int} {F : List (Pm n)} {p : Pm n} {nn : Bool} (hn2 : 2 ≤ n) (hn : n ≤ 12) (hN : Nrm F) (hz : F.length ≤ 5000) (hnn : nn = true ∨ F = []) (h1 : -60000 ≤ pw) (h2 : pw ≤ 60000) : EndM 1 126 ct (st0m 126 [.ptr 0 0, .arr (.ints .u8 (pA p))] (PDel.K0 n pw (encF F) F.length nn) 2) (.tup []) (K1 n (pw + tmD F p) (tmF F p)) 2 := by
  have h := in_t n pw (encF F) (pA p) F.length nn; have e1 : encF F ++ pA p = encF (F ++ [p]) := by rw [encF_app, encF_one]
  rw [e1, pA_len, encF_len, nn_ok] at h; have w : IntKind.i64.wrap (Int.ofNat (F.length + 1) - 1) = (F.length : Int) := by rw [ofn, wrap_in _ (by omega) (by omega)]; omega
  have m1 : Nat.mul F.length 12 = F.length * 12 := rfl; have m2 : Nat.mul 1 12 = 12 := rfl; rw [w, m1, m2] at h; simp (disch := omega) only [Nat.add_eq, eqSy_self, eqN_self, bc_same, List.length_cons, ofn, wrap_in, dt, df, bltD, bltN, ble_of, bleN, beqD, bc_t, bc_f, nn_ok, Nat.zero_add, to_nat, Int.zero_add, Int.sub_zero, Int.sub_self, Int.cast_ofNat_Int, Int.natCast_zero, Int.toNat_zero, List.take_zero, List.nil_append, List.length_append, List.length_nil] at h; obtain ⟨r, g1, g2, g3⟩ := tm_ok F p; have hl := congrArg List.length g1
  rw [NF_len, List.length_append, List.length_append, List.length_append, List.length_replicate, List.length_replicate, List.length_singleton] at hl; have hP := loopA (pw := pw) (len := F.length + 1) (by omega) hn (by omega) F.reverse p [] (by rw [List.length_reverse]; rfl); rw [List.reverse_reverse, List.length_reverse, List.append_nil, ← pasR_NF hN p, g1, ← List.append_assoc] at hP; refine .at ct_ok h (.lead hP ?_); have hT : (List.replicate (tmD F p) (Pm.del n) ++ tmF F p = []) ∨ ∃ G q, List.replicate (tmD F p) (Pm.del n) ++ tmF F p = G ++ [q] ∧ q ≠ Pm.one n := by
    rcases List.eq_nil_or_concat (tmF F p) with e | ⟨G, q, e⟩
    · rw [e, List.append_nil]
      cases hd : tmD F p with
      | zero => exact .inl rfl
      | succ k => exact .inr ⟨_, _, List.replicate_succ', del_ne hn2⟩
    · exact .inr ⟨List.replicate (tmD F p) (Pm.del n) ++ G, q, by rw [e, List.concat_eq_append, List.append_assoc], g2 q (by rw [e]; simp)⟩
  have hC := loopC (pw := pw) (D := pA (Pm.del n)) hn hT r (by rw [List.length_append, List.length_replicate]; omega); have e2 : (List.replicate (tmD F p) (Pm.del n) ++ tmF F p).length = tmD F p + (tmF F p).length := by rw [List.length_append, List.length_replicate]
  rw [e2, show tmD F p + (tmF F p).length + r = F.length + 1 by omega] at hC; exact .lead hC (loopD hn g3 (tmD F p) pw (by omega) (by omega) (by omega))
end PTim

def TimOk (n pw : Int) (L : List Int) (len : Nat) (nn : Bool) (e : List Int) : Prop := 2 ≤ n ∧ n ≤ 12 ∧ -60000 ≤ pw ∧ pw ≤ 60000 ∧ ∃ (F : List (Pm n.toNat)) (p : Pm n.toNat), L = encF F ∧ e = pA p ∧ len = F.length ∧ len ≤ 5000 ∧ Nrm F ∧ (nn = true ∨ F = [])
noncomputable instance (n pw : Int) (L : List Int) (len : Nat) (nn : Bool) (e : List Int) : Decidable (TimOk n pw L len nn e) := Classical.propDecidable _
noncomputable def timD (n : Int) (L e : List Int) : Nat := tmD (decF n.toNat L) (decP n.toNat e)
noncomputable def timF (n : Int) (L e : List Int) : List (Pm n.toNat) := tmF (decF n.toNat L) (decP n.toNat e)
theorem timOk_ends {n pw : Int} {L e : List Int} {len : Nat} {nn : Bool} (h : TimOk n pw L len nn e) : EndM 1 126 PTim.ct (st0m 126 [.ptr 0 0, .arr (.ints .u8 e)] (PDel.K0 n pw L len nn) 2) (.tup []) (PDel.K0 n (pw + timD n L e) (encF (timF n L e)) (timF n L e).length true) 2 := by
  obtain ⟨h1, h2, h3, h4, F, p, rfl, rfl, rfl, h5, h6, h7⟩ := h; obtain ⟨n, rfl⟩ := Int.eq_ofNat_of_zero_le (show 0 ≤ n by omega); have hn : n ≤ 12 := by omega
  have e1 : decF ((n : Int)).toNat (encF F) = F := decF_enc hn F; have e2 : decP ((n : Int)).toNat (pA p) = p := decP_enc hn p; unfold timD timF; rw [e1, e2]; exact PTim.ends (n := n) (by omega) hn h6 h5 h7 h3 h4
noncomputable def spTim : ZMT := fun ax K0 m => match ax, K0 with
  | [.ptr 0 0, .arr (.ints .u8 e)], [(0, .cells 89 [.v (.int .i64 n), .v (.int .i64 pw), .slO 1 12 len nn] v_0), (1, .seq 92 (.ints .u8 L) v_1)] => bc (Nat.beq m (2)) (some ⟨bc (eqN v_0 (true)) (bc (eqN v_1 (nn)) (decide (TimOk n pw L len nn e)) false) false, .tup [], PDel.K0 n (pw + timD n L e) (encF (timF n L e)) (timF n L e).length true, 2, 1⟩) none
  | _, _ => none
theorem spTim_ok : ZMtOk Try.prog 126 spTim := fun γ w0 w us ax K0 m r hs hc hres hax hH => by
  unfold spTim at hs; split at hs
  case h_2 => cases hs
  rename_i e n pw len nn v_0 L v_1; obtain ⟨hm, rfl⟩ := noN hs; have hm := Nat.eq_of_beq_eq_true hm; subst hm; have hc_0 : bc (eqN v_0 (true)) (bc (eqN v_1 (nn)) (decide (TimOk n pw L len nn e)) false) false = true := hc; obtain ⟨q_0, hc_1⟩ := bcT hc_0; have p_0 := (eqN_ok q_0).symm; subst p_0; obtain ⟨q_1, hc_2⟩ := bcT hc_1; have p_1 := (eqN_ok q_1).symm; subst p_1; have hc := of_decide_eq_true hc_2; exact EndM.calls (timOk_ends hc) PTim.ct_ok (by kernel_rfl) hres hax hH
end Go.Proofs.Ytooimphimnagaaa.Ev
namespace Go.Proofs.Ytooimphimnagaaa.Ev
open Go.Proofs
namespace PNrm
noncomputable def ct : Tr ZCC := (PTim.ct.put 125 (some (mC spTrn))).put 126 (some (mC spTim))
theorem ct_ok : ZCtsOk Try.prog ct := (PTim.ct_ok.addM rfl spTrn_ok).addM rfl spTim_ok
noncomputable def RN (s : ES) : ZF := RMs 0 84 ct [(atS 0 84 3, [[(5,some (12, 92, .ints .u8 [])),(15,none),(16,none),(17,none)]])] [] [] s

noncomputable def sN (n : Int) (w : List Int) (pw : Int) (L : List Int) (len : Nat) (nn : Bool) (z i : Int) : NS := ⟨[⟨84, 58, [(5, (EV.ptr 0 0)), (15, (EV.lst (SyC.ints IntKind.i64 (w)))), (16, iv z), (17, iv i)], [.it (.code (nav [1, 1, 0, 1, 0, 0] (bodyOf Try.f84))), .it (.inLoop (nav [1, 1, 0, 1, 0, 0] (bodyOf Try.f84))), .it (.inBlock 0), .it (.code (nav [1, 1, 1] (bodyOf Try.f84)))], [], Option.none⟩], [(0, EK.cells 89 [iv n, iv pw, .slO 1 12 len nn] true), (1, EK.seq 92 (.ints .u8 L) nn)], 2⟩
theorem in_t (n : Int) (w : List Int) : RN (st0m 84 [iv n, il w] [] 0) = (.at (sN (n) (w) ((0 : Int)) ([]) ((0 : Nat)) (false) (Int.ofNat (List.length w)) ((0 : Int)))) := by kernel_rfl
theorem nil_t (n : Int) : RMs 0 84 ct [] [] [(0, 12, 92, .ints .u8 [])] (st0m 84 [iv n, .v (.slice none 0 0)] [] 0) = (.done (EV.ptr 0 0) [(0, (EK.cells 89 [(EV.v (Value.int IntKind.i64 (n))), (EV.v (Value.int IntKind.i64 (0))), (EV.slO 1 12 0 false)] true)), (1, (EK.seq 92 (SyC.ints IntKind.u8 []) false))] 2) := by kernel_rfl
theorem step_t (n : Int) (w : List Int) (pw : Int) (L : List Int) (len : Nat) (nn : Bool) (z i : Int) : RN (stOf (sN n w pw L len nn z i)) = (bc (decide (i < z)) (bc (bc (bc (decide ((0 : Int) ≤ i)) (Nat.blt (Int.toNat i) (List.length w)) false) true false) (bc (bc (Nat.blt (Int.toNat i) (List.length w)) true false) (bc (decide (List.getD w (Int.toNat i) (0 : Int) < (0 : Int))) (bc (bc (bc (eqN nn nn) (decide (FormOk n L len)) false) true false) (bc (bc (bc (eqN nn nn) (decide ((0 : Int) ≤ n ∧ n ≤ (12 : Int))) false) true false) (bc (bc (decide (In12 (pA (Pm.del (Int.toNat n))))) true false) (bc (bc (Nat.beq (List.length (invS (pA (Pm.del (Int.toNat n))) (12 : Nat))) (12 : Nat)) (Nat.beq (List.length e12) (12 : Nat)) false) (bc (bc (bc (bc (bc (decide ((0 : Int) ≤ IntKind.wrap IntKind.i64 ((0 : Int) - List.getD w (Int.toNat i) (0 : Int)))) (Nat.blt (Int.toNat (IntKind.wrap IntKind.i64 ((0 : Int) - List.getD w (Int.toNat i) (0 : Int)))) (12 : Nat)) false) true false) (bc (bc (Nat.blt (Int.toNat (IntKind.wrap IntKind.i64 ((0 : Int) - List.getD w (Int.toNat i) (0 : Int)))) (List.length (invS (pA (Pm.del (Int.toNat n))) (12 : Nat)))) true false) (bc (bc (bc (decide ((0 : Int) ≤ IntKind.wrap IntKind.i64 (IntKind.wrap IntKind.i64 ((0 : Int) - List.getD w (Int.toNat i) (0 : Int)) - (1 : Int)))) (Nat.blt (Int.toNat (IntKind.wrap IntKind.i64 (IntKind.wrap IntKind.i64 ((0 : Int) - List.getD w (Int.toNat i) (0 : Int)) - (1 : Int)))) (12 : Nat)) false) true false) (bc (bc (Nat.blt (Int.toNat (IntKind.wrap IntKind.i64 (IntKind.wrap IntKind.i64 ((0 : Int) - List.getD w (Int.toNat i) (0 : Int)) - (1 : Int)))) (List.length (invS (pA (Pm.del (Int.toNat n))) (12 : Nat)))) true false) (bc (bc (bc (decide ((0 : Int) ≤ IntKind.wrap IntKind.i64 (IntKind.wrap IntKind.i64 ((0 : Int) - List.getD w (Int.toNat i) (0 : Int)) - (1 : Int)))) (Nat.blt (Int.toNat (IntKind.wrap IntKind.i64 (IntKind.wrap IntKind.i64 ((0 : Int) - List.getD w (Int.toNat i) (0 : Int)) - (1 : Int)))) (12 : Nat)) false) true false) (bc (Nat.blt (Int.toNat (IntKind.wrap IntKind.i64 (IntKind.wrap IntKind.i64 ((0 : Int) - List.getD w (Int.toNat i) (0 : Int)) - (1 : Int)))) (List.length (invS (pA (Pm.del (Int.toNat n))) (12 : Nat)))) (bc (bc (bc (decide ((0 : Int) ≤ IntKind.wrap IntKind.i64 ((0 : Int) - List.getD w (Int.toNat i) (0 : Int)))) (Nat.blt (Int.toNat (IntKind.wrap IntKind.i64 ((0 : Int) - List.getD w (Int.toNat i) (0 : Int)))) (12 : Nat)) false) true false) (bc (Nat.blt (Int.toNat (IntKind.wrap IntKind.i64 ((0 : Int) - List.getD w (Int.toNat i) (0 : Int)))) (List.length (List.set (invS (pA (Pm.del (Int.toNat n))) (12 : Nat)) (Int.toNat (IntKind.wrap IntKind.i64 (IntKind.wrap IntKind.i64 ((0 : Int) - List.getD w (Int.toNat i) (0 : Int)) - (1 : Int)))) (List.getD (invS (pA (Pm.del (Int.toNat n))) (12 : Nat)) (Int.toNat (IntKind.wrap IntKind.i64 ((0 : Int) - List.getD w (Int.toNat i) (0 : Int)))) (0 : Int))))) true false) false) false) false) false) false) false) false) true false) (bc (bc (decide (In12 (List.set (List.set (invS (pA (Pm.del (Int.toNat n))) (12 : Nat)) (Int.toNat (IntKind.wrap IntKind.i64 (IntKind.wrap IntKind.i64 ((0 : Int) - List.getD w (Int.toNat i) (0 : Int)) - (1 : Int)))) (List.getD (invS (pA (Pm.del (Int.toNat n))) (12 : Nat)) (Int.toNat (IntKind.wrap IntKind.i64 ((0 : Int) - List.getD w (Int.toNat i) (0 : Int)))) (0 : Int))) (Int.toNat (IntKind.wrap IntKind.i64 ((0 : Int) - List.getD w (Int.toNat i) (0 : Int)))) (List.getD (invS (pA (Pm.del (Int.toNat n))) (12 : Nat)) (Int.toNat (IntKind.wrap IntKind.i64 (IntKind.wrap IntKind.i64 ((0 : Int) - List.getD w (Int.toNat i) (0 : Int)) - (1 : Int)))) (0 : Int))))) true false) (bc (bc (bc (eqN nn nn) (decide (TimOk n (IntKind.wrap IntKind.i64 (pw - (1 : Int))) (PTrn.turL n L) len nn (invS (List.set (List.set (invS (pA (Pm.del (Int.toNat n))) (12 : Nat)) (Int.toNat (IntKind.wrap IntKind.i64 (IntKind.wrap IntKind.i64 ((0 : Int) - List.getD w (Int.toNat i) (0 : Int)) - (1 : Int)))) (List.getD (invS (pA (Pm.del (Int.toNat n))) (12 : Nat)) (Int.toNat (IntKind.wrap IntKind.i64 ((0 : Int) - List.getD w (Int.toNat i) (0 : Int)))) (0 : Int))) (Int.toNat (IntKind.wrap IntKind.i64 ((0 : Int) - List.getD w (Int.toNat i) (0 : Int)))) (List.getD (invS (pA (Pm.del (Int.toNat n))) (12 : Nat)) (Int.toNat (IntKind.wrap IntKind.i64 (IntKind.wrap IntKind.i64 ((0 : Int) - List.getD w (Int.toNat i) (0 : Int)) - (1 : Int)))) (0 : Int))) (12 : Nat)))) false) true false) (.at (sN (n) (w) (IntKind.wrap IntKind.i64 (pw - (1 : Int)) + (Nat.cast (timD n (PTrn.turL n L) (invS (List.set (List.set (invS (pA (Pm.del (Int.toNat n))) (12 : Nat)) (Int.toNat (IntKind.wrap IntKind.i64 (IntKind.wrap IntKind.i64 ((0 : Int) - List.getD w (Int.toNat i) (0 : Int)) - (1 : Int)))) (List.getD (invS (pA (Pm.del (Int.toNat n))) (12 : Nat)) (Int.toNat (IntKind.wrap IntKind.i64 ((0 : Int) - List.getD w (Int.toNat i) (0 : Int)))) (0 : Int))) (Int.toNat (IntKind.wrap IntKind.i64 ((0 : Int) - List.getD w (Int.toNat i) (0 : Int)))) (List.getD (invS (pA (Pm.del (Int.toNat n))) (12 : Nat)) (Int.toNat (IntKind.wrap IntKind.i64 (IntKind.wrap IntKind.i64 ((0 : Int) - List.getD w (Int.toNat i) (0 : Int)) - (1 : Int)))) (0 : Int))) (12 : Nat))) : Int)) (encF (timF n (PTrn.turL n L) (invS (List.set (List.set (invS (pA (Pm.del (Int.toNat n))) (12 : Nat)) (Int.toNat (IntKind.wrap IntKind.i64 (IntKind.wrap IntKind.i64 ((0 : Int) - List.getD w (Int.toNat i) (0 : Int)) - (1 : Int)))) (List.getD (invS (pA (Pm.del (Int.toNat n))) (12 : Nat)) (Int.toNat (IntKind.wrap IntKind.i64 ((0 : Int) - List.getD w (Int.toNat i) (0 : Int)))) (0 : Int))) (Int.toNat (IntKind.wrap IntKind.i64 ((0 : Int) - List.getD w (Int.toNat i) (0 : Int)))) (List.getD (invS (pA (Pm.del (Int.toNat n))) (12 : Nat)) (Int.toNat (IntKind.wrap IntKind.i64 (IntKind.wrap IntKind.i64 ((0 : Int) - List.getD w (Int.toNat i) (0 : Int)) - (1 : Int)))) (0 : Int))) (12 : Nat)))) (List.length (timF n (PTrn.turL n L) (invS (List.set (List.set (invS (pA (Pm.del (Int.toNat n))) (12 : Nat)) (Int.toNat (IntKind.wrap IntKind.i64 (IntKind.wrap IntKind.i64 ((0 : Int) - List.getD w (Int.toNat i) (0 : Int)) - (1 : Int)))) (List.getD (invS (pA (Pm.del (Int.toNat n))) (12 : Nat)) (Int.toNat (IntKind.wrap IntKind.i64 ((0 : Int) - List.getD w (Int.toNat i) (0 : Int)))) (0 : Int))) (Int.toNat (IntKind.wrap IntKind.i64 ((0 : Int) - List.getD w (Int.toNat i) (0 : Int)))) (List.getD (invS (pA (Pm.del (Int.toNat n))) (12 : Nat)) (Int.toNat (IntKind.wrap IntKind.i64 (IntKind.wrap IntKind.i64 ((0 : Int) - List.getD w (Int.toNat i) (0 : Int)) - (1 : Int)))) (0 : Int))) (12 : Nat)))) (true) (z) (IntKind.wrap IntKind.i64 (i + (1 : Int))))) .bad) .bad) .bad) .bad) .bad) .bad) .bad) (bc (bc (bc (bc (bc (decide ((0 : Int) ≤ List.getD w (Int.toNat i) (0 : Int))) (Nat.blt (Int.toNat (List.getD w (Int.toNat i) (0 : Int))) (12 : Nat)) false) true false) (bc (bc (Nat.blt (Int.toNat (List.getD w (Int.toNat i) (0 : Int))) (List.length e12)) true false) (bc (bc (bc (decide ((0 : Int) ≤ IntKind.wrap IntKind.i64 (List.getD w (Int.toNat i) (0 : Int) - (1 : Int)))) (Nat.blt (Int.toNat (IntKind.wrap IntKind.i64 (List.getD w (Int.toNat i) (0 : Int) - (1 : Int)))) (12 : Nat)) false) true false) (bc (bc (Nat.blt (Int.toNat (IntKind.wrap IntKind.i64 (List.getD w (Int.toNat i) (0 : Int) - (1 : Int)))) (List.length e12)) true false) (bc (bc (bc (decide ((0 : Int) ≤ IntKind.wrap IntKind.i64 (List.getD w (Int.toNat i) (0 : Int) - (1 : Int)))) (Nat.blt (Int.toNat (IntKind.wrap IntKind.i64 (List.getD w (Int.toNat i) (0 : Int) - (1 : Int)))) (12 : Nat)) false) true false) (bc (Nat.blt (Int.toNat (IntKind.wrap IntKind.i64 (List.getD w (Int.toNat i) (0 : Int) - (1 : Int)))) (List.length e12)) (bc (bc (bc (decide ((0 : Int) ≤ List.getD w (Int.toNat i) (0 : Int))) (Nat.blt (Int.toNat (List.getD w (Int.toNat i) (0 : Int))) (12 : Nat)) false) true false) (bc (Nat.blt (Int.toNat (List.getD w (Int.toNat i) (0 : Int))) (List.length (List.set e12 (Int.toNat (IntKind.wrap IntKind.i64 (List.getD w (Int.toNat i) (0 : Int) - (1 : Int)))) (List.getD e12 (Int.toNat (List.getD w (Int.toNat i) (0 : Int))) (0 : Int))))) true false) false) false) false) false) false) false) false) true false) (bc (bc (decide (In12 (List.set (List.set e12 (Int.toNat (IntKind.wrap IntKind.i64 (List.getD w (Int.toNat i) (0 : Int) - (1 : Int)))) (List.getD e12 (Int.toNat (List.getD w (Int.toNat i) (0 : Int))) (0 : Int))) (Int.toNat (List.getD w (Int.toNat i) (0 : Int))) (List.getD e12 (Int.toNat (IntKind.wrap IntKind.i64 (List.getD w (Int.toNat i) (0 : Int) - (1 : Int)))) (0 : Int))))) true false) (bc (bc (bc (eqN nn nn) (decide (TimOk n pw L len nn (invS (List.set (List.set e12 (Int.toNat (IntKind.wrap IntKind.i64 (List.getD w (Int.toNat i) (0 : Int) - (1 : Int)))) (List.getD e12 (Int.toNat (List.getD w (Int.toNat i) (0 : Int))) (0 : Int))) (Int.toNat (List.getD w (Int.toNat i) (0 : Int))) (List.getD e12 (Int.toNat (IntKind.wrap IntKind.i64 (List.getD w (Int.toNat i) (0 : Int) - (1 : Int)))) (0 : Int))) (12 : Nat)))) false) true false) (.at (sN (n) (w) (pw + (Nat.cast (timD n L (invS (List.set (List.set e12 (Int.toNat (IntKind.wrap IntKind.i64 (List.getD w (Int.toNat i) (0 : Int) - (1 : Int)))) (List.getD e12 (Int.toNat (List.getD w (Int.toNat i) (0 : Int))) (0 : Int))) (Int.toNat (List.getD w (Int.toNat i) (0 : Int))) (List.getD e12 (Int.toNat (IntKind.wrap IntKind.i64 (List.getD w (Int.toNat i) (0 : Int) - (1 : Int)))) (0 : Int))) (12 : Nat))) : Int)) (encF (timF n L (invS (List.set (List.set e12 (Int.toNat (IntKind.wrap IntKind.i64 (List.getD w (Int.toNat i) (0 : Int) - (1 : Int)))) (List.getD e12 (Int.toNat (List.getD w (Int.toNat i) (0 : Int))) (0 : Int))) (Int.toNat (List.getD w (Int.toNat i) (0 : Int))) (List.getD e12 (Int.toNat (IntKind.wrap IntKind.i64 (List.getD w (Int.toNat i) (0 : Int) - (1 : Int)))) (0 : Int))) (12 : Nat)))) (List.length (timF n L (invS (List.set (List.set e12 (Int.toNat (IntKind.wrap IntKind.i64 (List.getD w (Int.toNat i) (0 : Int) - (1 : Int)))) (List.getD e12 (Int.toNat (List.getD w (Int.toNat i) (0 : Int))) (0 : Int))) (Int.toNat (List.getD w (Int.toNat i) (0 : Int))) (List.getD e12 (Int.toNat (IntKind.wrap IntKind.i64 (List.getD w (Int.toNat i) (0 : Int) - (1 : Int)))) (0 : Int))) (12 : Nat)))) (true) (z) (IntKind.wrap IntKind.i64 (i + (1 : Int))))) .bad) .bad) .bad)) .bad) .bad) (.done (EV.ptr 0 0) [(0, (EK.cells 89 [(EV.v (Value.int IntKind.i64 (n))), (EV.v (Value.int IntKind.i64 (pw))), (EV.slO 1 12 (len) (nn))] true)), (1, (EK.seq 92 (SyC.ints IntKind.u8 (L)) (nn)))] 2)) := by kernel_rfl
variable {n : Nat}
theorem invL_ltr (hn : n ≤ 12) {k : Nat} (hk : 0 < k ∧ k < n) : invS (((pA (Pm.one n)).set (k - 1) ((Pm.one n).f k : Int)).set k ((Pm.one n).f (k - 1) : Int)) 12 = pA (ltr k hk) := by
  rw [pA_L _ hk hn, invS_pA hn]; exact pA_same fun _ _ => rfl
theorem invL_ctr (hn : n ≤ 12) {k : Nat} (hk : 0 < k ∧ k < n) : invS (((pA (Pm.del n).inv).set (k - 1) ((Pm.del n).inv.f k : Int)).set k ((Pm.del n).inv.f (k - 1) : Int)) 12 = pA (ctr k hk) := by
  rw [pA_L _ hk hn, invS_pA hn]; exact pA_same fun _ _ => rfl
theorem in12_L (hn : n ≤ 12) (p : Pm n) {k : Nat} (hk : 0 < k ∧ k < n) : In12 (((pA p).set (k - 1) (p.f k : Int)).set k (p.f (k - 1) : Int)) := by
  rw [pA_L _ hk hn]; exact In12.pA hn _
theorem stepP {w : List Int} {s : Frm n} {nn : Bool} {z : Int} {i k : Nat} (hn : n ≤ 12) (hk : 0 < k ∧ k < n) (hi : i < w.length) (hz : z = w.length) (hw : w.length ≤ 2000) (hx : w.getD i 0 = (k : Int)) (hN : Nrm s.F) (hl : s.F.length ≤ 2000) (h1 : -2000 ≤ s.pw) (h2 : s.pw ≤ 2000) (hnn : nn = true ∨ s.F = []) : RN (stOf (sN n w s.pw (encF s.F) s.F.length nn z i)) = .at (sN n w (s.tim (ltr k hk)).pw (encF (s.tim (ltr k hk)).F) (s.tim (ltr k hk)).F.length true z (i + 1 : Nat)) := by
  obtain ⟨j, rfl⟩ : ∃ j, k = j + 1 := ⟨k - 1, by omega⟩; rw [step_t, dt (show (i : Int) < z by omega), bc_t]; have e0 : ((i : Int)).toNat = i := rfl; rw [e0, hx, df (show ¬ ((j + 1 : Nat) : Int) < 0 by omega), bc_f]; have w1 : IntKind.i64.wrap (((j + 1 : Nat) : Int) - 1) = (j : Int) := by rw [wrap_in _ (by omega) (by omega)]; omega
  have e1 : ((j : Int)).toNat = j := rfl; have e2 : (((j + 1 : Nat) : Int)).toNat = j + 1 := rfl; rw [w1, e1, e2, e12_one n, pA_get (Pm.one n) (show j + 1 < 12 by omega), pA_get (Pm.one n) (show j < 12 by omega)]; have g1 := invL_ltr hn hk; have g2 := in12_L hn (Pm.one n) hk; rw [show j + 1 - 1 = j by omega] at g1 g2; rw [g1, dt g2, List.length_set, pA_len]; have g3 : TimOk n s.pw (encF s.F) s.F.length nn (pA (ltr (j + 1) hk)) := ⟨by omega, by omega, by omega, by omega, s.F, ltr (j + 1) hk, rfl, rfl, rfl, by omega, hN, hnn⟩
  have g4 : timD n (encF s.F) (pA (ltr (j + 1) hk)) = tmD s.F (ltr (j + 1) hk) := by
    unfold timD; have e1 : decF ((n : Int)).toNat (encF s.F) = s.F := decF_enc hn s.F; have e2 : decP ((n : Int)).toNat (pA (ltr (j + 1) hk)) = ltr (j + 1) hk := decP_enc hn _; rw [e1, e2]
  have g5 : timF n (encF s.F) (pA (ltr (j + 1) hk)) = tmF s.F (ltr (j + 1) hk) := by
    unfold timF; have e1 : decF ((n : Int)).toNat (encF s.F) = s.F := decF_enc hn s.F; have e2 : decP ((n : Int)).toNat (pA (ltr (j + 1) hk)) = ltr (j + 1) hk := decP_enc hn _; rw [e1, e2]
  rw [dt g3, g4, g5]; simp (disch := omega) only [Nat.add_eq, eqSy_self, eqN_self, bc_same, List.length_cons, ofn, wrap_in, dt, df, bltD, bltN, ble_of, bleN, beqD, bc_t, bc_f, nn_ok, Nat.zero_add, to_nat, Int.zero_add, Int.sub_zero, Int.sub_self, Int.cast_ofNat_Int, Int.natCast_zero, Int.toNat_zero, List.take_zero, List.nil_append, List.length_append, List.length_nil]; rfl
theorem stepM {w : List Int} {s : Frm n} {nn : Bool} {z : Int} {i k : Nat} (hn : n ≤ 12) (hk : 0 < k ∧ k < n) (hi : i < w.length) (hz : z = w.length) (hw : w.length ≤ 2000) (hx : w.getD i 0 = -(k : Int)) (hN : Nrm s.F) (hl : s.F.length ≤ 2000) (h1 : -2000 ≤ s.pw) (h2 : s.pw ≤ 2000) (hnn : nn = true ∨ s.F = []) : RN (stOf (sN n w s.pw (encF s.F) s.F.length nn z i)) = .at (sN n w ((⟨s.pw - 1, s.F.map Pm.trn⟩ : Frm n).tim (ctr k hk)).pw (encF ((⟨s.pw - 1, s.F.map Pm.trn⟩ : Frm n).tim (ctr k hk)).F) ((⟨s.pw - 1, s.F.map Pm.trn⟩ : Frm n).tim (ctr k hk)).F.length true z (i + 1 : Nat)) := by
  obtain ⟨j, rfl⟩ : ∃ j, k = j + 1 := ⟨k - 1, by omega⟩; rw [step_t, dt (show (i : Int) < z by omega), bc_t]; have e0 : ((i : Int)).toNat = i := rfl; rw [e0, hx, dt (show -((j + 1 : Nat) : Int) < 0 by omega), bc_t]; have w0 : IntKind.i64.wrap (0 - -((j + 1 : Nat) : Int)) = ((j + 1 : Nat) : Int) := by rw [wrap_in _ (by omega) (by omega)]; omega
  have w1 : IntKind.i64.wrap (((j + 1 : Nat) : Int) - 1) = (j : Int) := by rw [wrap_in _ (by omega) (by omega)]; omega
  have w2 : IntKind.i64.wrap (s.pw - 1) = s.pw - 1 := wrap_in _ (by omega) (by omega); have e1 : ((j : Int)).toNat = j := rfl; have e2 : (((j + 1 : Nat) : Int)).toNat = j + 1 := rfl; have e3 : invS (pA (Pm.del ((n : Int)).toNat)) 12 = pA (Pm.del n).inv := invS_pA hn (Pm.del n); rw [w0, w1, w2, e1, e2, e3, pA_get (Pm.del n).inv (show j + 1 < 12 by omega), pA_get (Pm.del n).inv (show j < 12 by omega)]; have g1 := invL_ctr hn hk; have g2 := in12_L hn (Pm.del n).inv hk; have g0 : In12 (pA (Pm.del ((n : Int)).toNat)) := In12.pA hn (Pm.del n); rw [show j + 1 - 1 = j by omega] at g1 g2
  rw [g1, dt g2, List.length_set, pA_len, dt g0]; have g6 : FormOk n (encF s.F) s.F.length := formOk hn (by omega); have g7 : PTrn.turL n (encF s.F) = encF (s.F.map Pm.trn) := by
    unfold PTrn.turL; have e1 : decF ((n : Int)).toNat (encF s.F) = s.F := decF_enc hn s.F; rw [e1]
  rw [dt g6, g7]; have g3 : TimOk n (s.pw - 1) (encF (s.F.map Pm.trn)) s.F.length nn (pA (ctr (j + 1) hk)) := ⟨by omega, by omega, by omega, by omega, s.F.map Pm.trn, ctr (j + 1) hk, rfl, rfl, (by rw [List.length_map]), by omega, hN.trn, hnn.imp id fun e => by rw [e]; rfl⟩; have g4 : timD n (encF (s.F.map Pm.trn)) (pA (ctr (j + 1) hk)) = tmD (s.F.map Pm.trn) (ctr (j + 1) hk) := by
    unfold timD; have e1 : decF ((n : Int)).toNat (encF (s.F.map Pm.trn)) = s.F.map Pm.trn := decF_enc hn _; have e2 : decP ((n : Int)).toNat (pA (ctr (j + 1) hk)) = ctr (j + 1) hk := decP_enc hn _; rw [e1, e2]
  have g5 : timF n (encF (s.F.map Pm.trn)) (pA (ctr (j + 1) hk)) = tmF (s.F.map Pm.trn) (ctr (j + 1) hk) := by
    unfold timF; have e1 : decF ((n : Int)).toNat (encF (s.F.map Pm.trn)) = s.F.map Pm.trn := decF_enc hn _; have e2 : decP ((n : Int)).toNat (pA (ctr (j + 1) hk)) = ctr (j + 1) hk := decP_enc hn _; rw [e1, e2]
  rw [dt g3, g4, g5]; have n12 : (12 : Nat) = 12 := rfl; have g8 : 0 ≤ (n : Int) ∧ (n : Int) ≤ 12 := ⟨by omega, by omega⟩; have n2 : bc nn true false = nn := bc_b nn; simp (disch := omega) only [Nat.add_eq, eqSy_self, eqN_self, bc_same, List.length_cons, ofn, wrap_in, dt, df, bltD, bltN, ble_of, bleN, beqD, bc_t, bc_f, nn_ok, Nat.zero_add, to_nat, Int.zero_add, Int.sub_zero, Int.sub_self, Int.cast_ofNat_Int, Int.natCast_zero, Int.toNat_zero, List.take_zero, List.nil_append, List.length_append, List.length_nil, n2]; rfl
theorem last {w : List Int} {s : Frm n} {nn : Bool} {z : Int} {i : Nat} (hi : z ≤ i) : RN (stOf (sN n w s.pw (encF s.F) s.F.length nn z i)) = .done (.ptr 0 0) (PDel.K0 n s.pw (encF s.F) s.F.length nn) 2 := by
  rw [step_t, df (show ¬ (i : Int) < z by omega)]; rfl
theorem loop {w : List Int} (hn : n ≤ 12) (hw : w.length ≤ 2000) (hv : Vld n w) : ∀ (k i : Nat) (s : Frm n) (nn : Bool), i + k = w.length → Nrm s.F → s.pw + (s.F.length : Int) ≤ i → -(i : Int) ≤ s.pw → s.F.length ≤ i → (nn = true ∨ s.F = []) →
    EndM 0 84 ct (stOf (sN n w s.pw (encF s.F) s.F.length nn w.length i)) (.ptr 0 0) (PDel.K0 n ((w.drop i).foldl Frm.step s).pw (encF ((w.drop i).foldl Frm.step s).F) ((w.drop i).foldl Frm.step s).F.length (bc nn true (Nat.blt 0 k))) 2
  | 0, i, s, nn, h, h1, h2, h3, h4, h5 => by
    rw [List.drop_eq_nil_of_le (by omega), show bc nn true (Nat.blt 0 0) = nn by cases nn <;> rfl]; exact .done (last (by omega))
  | k + 1, i, s, nn, h, h1, h2, h3, h4, h5 => by
    have hi : i < w.length := by omega
    rw [List.drop_eq_getElem_cons hi, List.foldl_cons, show bc nn true (Nat.blt 0 (k + 1)) = bc true true (Nat.blt 0 k) by cases nn <;> rfl]; obtain ⟨v1, v2, v3⟩ := hv _ (List.getElem_mem hi); have hg : w.getD i 0 = w[i] := getD_at hi; generalize w[i] = x at *; rcases Int.lt_or_lt_of_ne v1 with hx | hx
    · obtain ⟨q, hq⟩ := Int.eq_ofNat_of_zero_le (show 0 ≤ -x by omega); have hq : x = -(q : Int) := by omega
      subst hq; have hk : 0 < q ∧ q < n := by omega
      have hs := stepM (w := w) (s := s) (nn := nn) (z := w.length) hn hk hi rfl hw hg h1 (by omega) (by omega) (by omega) h5; rw [step_neg s hk]; have q1 := tim_sum (⟨s.pw - 1, s.F.map Pm.trn⟩ : Frm n) (ctr q hk); have q2 := tim_pw (⟨s.pw - 1, s.F.map Pm.trn⟩ : Frm n) (ctr q hk); have q3 := tim_len (⟨s.pw - 1, s.F.map Pm.trn⟩ : Frm n) (ctr q hk); simp only [List.length_map] at q1 q2 q3; exact .at ct_ok hs (loop hn hw hv k (i + 1) _ true (by omega) (tim_nrm _ _) (by omega) (by omega) (by omega) (.inl rfl))
    · obtain ⟨q, rfl⟩ := Int.eq_ofNat_of_zero_le (show 0 ≤ x by omega); have hk : 0 < q ∧ q < n := by omega
      have hs := stepP (w := w) (s := s) (nn := nn) (z := w.length) hn hk hi rfl hw hg h1 (by omega) (by omega) (by omega) h5; rw [step_pos s hk]; have q1 := tim_sum s (ltr q hk); have q2 := tim_pw s (ltr q hk); have q3 := tim_len s (ltr q hk); exact .at ct_ok hs (loop hn hw hv k (i + 1) _ true (by omega) (tim_nrm _ _) (by omega) (by omega) (by omega) (.inl rfl))
theorem ends {w : List Int} (hn : n ≤ 12) (hw : w.length ≤ 2000) (hv : Vld n w) : EndM 0 84 ct (st0m 84 [iv n, il w] [] 0) (.ptr 0 0) (PDel.K0 n (nfW n w).pw (encF (nfW n w).F) (nfW n w).F.length (Nat.blt 0 w.length)) 2 := by
  refine .at ct_ok (in_t n w) ?_; have := loop hn hw hv w.length 0 ⟨0, []⟩ false (by omega) nrm_nil (by simp) (by simp) (Nat.zero_le _) (.inr rfl); rw [List.drop_zero] at this; exact this
end PNrm

def WOk (n : Int) (w : List Int) : Prop := 1 ≤ n ∧ n ≤ 12 ∧ w.length ≤ 2000 ∧ Vld n.toNat w
noncomputable instance (n : Int) (w : List Int) : Decidable (WOk n w) := Classical.propDecidable _
theorem wOk_ends {n : Int} {w : List Int} (h : WOk n w) : EndM 0 84 PNrm.ct (st0m 84 [iv n, il w] [] 0) (.ptr 0 0) (PDel.K0 n (nfW n.toNat w).pw (encF (nfW n.toNat w).F) (nfW n.toNat w).F.length (Nat.blt 0 w.length)) 2 := by
  obtain ⟨h1, h2, h3, h4⟩ := h; obtain ⟨n, rfl⟩ := Int.eq_ofNat_of_zero_le (show 0 ≤ n by omega); exact PNrm.ends (by omega) h3 h4
noncomputable def spNrm_0 : ZMT := fun ax K0 m => match ax, K0 with
  | [.v (.int .i64 n), .lst (.ints .i64 w)], [] => bc (Nat.beq m (0)) (some ⟨decide (WOk n w), .ptr 0 0, PDel.K0 n (nfW n.toNat w).pw (encF (nfW n.toNat w).F) (nfW n.toNat w).F.length (Nat.blt 0 w.length), 2, 0⟩) none
  | _, _ => none
theorem spNrm_0_ok : ZMtOk Try.prog 84 spNrm_0 := fun γ w0 w us ax K0 m r hs hc hres hax hH => by
  unfold spNrm_0 at hs; split at hs
  case h_2 => cases hs
  rename_i n w; obtain ⟨hm, rfl⟩ := noN hs; have hm := Nat.eq_of_beq_eq_true hm; subst hm; have hc_0 : decide (WOk n w) = true := hc; have hc := of_decide_eq_true hc_0; exact EndM.calls (wOk_ends hc) PNrm.ct_ok (by kernel_rfl) hres hax hH
noncomputable def spNrm_1 : ZMT := fun ax K0 m => match ax, K0 with
  | [.v (.int .i64 n), .v (.slice none 0 0)], [] => bc (Nat.beq m (0)) (some ⟨decide (True), .ptr 0 0, PDel.K0 n 0 (zerosL 0) 0 false, 2, 0⟩) none
  | _, _ => none
theorem spNrm_1_ok : ZMtOk Try.prog 84 spNrm_1 := fun γ w0 w us ax K0 m r hs hc hres hax hH => by
  unfold spNrm_1 at hs; split at hs
  case h_2 => cases hs
  rename_i n; obtain ⟨hm, rfl⟩ := noN hs; have hm := Nat.eq_of_beq_eq_true hm; subst hm; have hc_0 : decide (True) = true := hc; have hc := of_decide_eq_true hc_0; exact EndM.calls (.done (PNrm.nil_t n)) PNrm.ct_ok (by kernel_rfl) hres hax hH
noncomputable def spNrm : ZMT := ZMT.or spNrm_0 (spNrm_1)
theorem spNrm_ok : ZMtOk Try.prog 84 spNrm := spNrm_0_ok.or (spNrm_1_ok)
end Go.Proofs.Ytooimphimnagaaa.Ev
namespace Go.Proofs.Ytooimphimnagaaa.Ev
open Go.Proofs

noncomputable def badL (n x : Int) : Bool := bc (x == 0) true (bc (decide (x ≤ IntKind.i64.wrap (0 - n))) true (decide (n ≤ x)))
noncomputable def chk (n : Int) (l : List Int) : Int := bc (decide (n < 1)) 2 (bc (decide (12 < n)) 2 (bc (decide (400 < Int.ofNat l.length)) 3 (bc (l.any (badL n)) 7 0)))
theorem chk_nil {f : FuncId} {s : ES} (n : Int) (h : RZ f .nil (fun _ => false) [] [] false s = bc (decide (n < 1)) (.done (iv 2) [] 0) (bc (decide (12 < n)) (.done (iv 2) [] 0) (.done (iv 0) [] 0))) : EndZ f .nil false s (iv (chk n [])) [] 0 := by
  unfold chk
  by_cases h1 : n < 1
  · rw [dt h1, bc_t] at h ⊢; exact .done h
  by_cases h2 : 12 < n
  · rw [df h1, dt h2, bc_f, bc_t] at h ⊢; exact .done h
  · rw [df h1, df h2, bc_f, bc_f] at h ⊢; exact .done h
namespace RChk
noncomputable def RUN (s : ES) : ZF := RZ 42 .nil (atS 0 42 6) [] [[(0,none),(1,none),(5,none)]] false s

noncomputable def sL (n : Int) (l : List Int) (i : Int) : NS := ⟨[⟨42, 43, [(0, (EV.v (Value.int IntKind.i64 (n)))), (1, (EV.lst (SyC.ints IntKind.i64 (l)))), (5, iv i)], [.it (.code (nav [1, 1, 1, 0, 1, 0, 0, 0] (bodyOf Try.f42))), .it (.code (nav [1, 1, 1, 0, 1, 0, 0, 1] (bodyOf Try.f42))), .it (.inLoop (nav [1, 1, 1, 0, 1, 0, 0] (bodyOf Try.f42))), .it (.inBlock 0), .it (.code (nav [1, 1, 1, 1] (bodyOf Try.f42)))], [], Option.none⟩], [], 0⟩
theorem in_t (n : Int) (l : List Int) : RUN (st0 42 [iv n, il l]) = (bc (decide (n < (1 : Int))) (.done (EV.v (Value.int IntKind.i64 (2))) [] 0) (bc (decide ((12 : Int) < n)) (.done (EV.v (Value.int IntKind.i64 (2))) [] 0) (bc (decide ((400 : Int) < Int.ofNat (List.length l))) (.done (EV.v (Value.int IntKind.i64 (3))) [] 0) (.at (sL (n) (l) ((0 : Int))))))) := by kernel_rfl
theorem nil_t (n : Int) : RZ 42 .nil (fun _ => false) [] [] false (st0 42 [iv n, .v (.slice none 0 0)]) = (bc (decide (n < (1 : Int))) (.done (EV.v (Value.int IntKind.i64 (2))) [] 0) (bc (decide ((12 : Int) < n)) (.done (EV.v (Value.int IntKind.i64 (2))) [] 0) (.done (EV.v (Value.int IntKind.i64 (0))) [] 0))) := by kernel_rfl
theorem step_t (n : Int) (l : List Int) (i : Int) : RUN (stOf (sL n l i)) = (bc (decide (i < Int.ofNat (List.length l))) (bc (bc (bc (decide ((0 : Int) ≤ i)) (Nat.blt (Int.toNat i) (List.length l)) false) true false) (bc (bc (Nat.blt (Int.toNat i) (List.length l)) true false) (bc (List.getD l (Int.toNat i) (0 : Int) == (0 : Int)) (.done (EV.v (Value.int IntKind.i64 (7))) [] 0) (bc (bc (bc (decide ((0 : Int) ≤ i)) (Nat.blt (Int.toNat i) (List.length l)) false) true false) (bc (bc (Nat.blt (Int.toNat i) (List.length l)) true false) (bc (decide (List.getD l (Int.toNat i) (0 : Int) ≤ IntKind.wrap IntKind.i64 ((0 : Int) - n))) (.done (EV.v (Value.int IntKind.i64 (7))) [] 0) (bc (bc (bc (decide ((0 : Int) ≤ i)) (Nat.blt (Int.toNat i) (List.length l)) false) true false) (bc (bc (Nat.blt (Int.toNat i) (List.length l)) true false) (bc (decide (n ≤ List.getD l (Int.toNat i) (0 : Int))) (.done (EV.v (Value.int IntKind.i64 (7))) [] 0) (.at (sL (n) (l) (IntKind.wrap IntKind.i64 (i + (1 : Int)))))) .bad) .bad)) .bad) .bad)) .bad) .bad) (.done (EV.v (Value.int IntKind.i64 (0))) [] 0)) := by kernel_rfl
theorem step {n : Int} {l : List Int} {i : Nat} (hi : i < l.length) (hl : l.length ≤ 400) : RUN (stOf (sL n l i)) = bc (badL n l[i]) (.done (iv 7) [] 0) (.at (sL n l (i + 1 : Nat))) := by
  rw [step_t]; have e : l.getD i 0 = l[i] := getD_at hi; simp (disch := omega) only [Nat.add_eq, eqSy_self, eqN_self, bc_same, List.length_cons, ofn, wrap_in, dt, df, bltD, bltN, ble_of, bleN, beqD, bc_t, bc_f, nn_ok, Nat.zero_add, to_nat, Int.zero_add, Int.sub_zero, Int.sub_self, Int.cast_ofNat_Int, Int.natCast_zero, Int.toNat_zero, List.take_zero, List.nil_append, List.length_append, List.length_nil, e]; unfold badL; cases (l[i] == 0) <;> cases decide (l[i] ≤ IntKind.i64.wrap (0 - n)) <;> cases decide (n ≤ l[i]) <;> rfl
theorem last {n : Int} {l : List Int} {i : Nat} (hi : l.length ≤ i) : RUN (stOf (sL n l i)) = .done (iv 0) [] 0 := by
  rw [step_t]; simp (disch := omega) only [Nat.add_eq, eqSy_self, eqN_self, bc_same, List.length_cons, ofn, wrap_in, dt, df, bltD, bltN, ble_of, bleN, beqD, bc_t, bc_f, nn_ok, Nat.zero_add, to_nat, Int.zero_add, Int.sub_zero, Int.sub_self, Int.cast_ofNat_Int, Int.natCast_zero, Int.toNat_zero, List.take_zero, List.nil_append, List.length_append, List.length_nil]
theorem loop {n : Int} {l : List Int} (hl : l.length ≤ 400) : ∀ (k i : Nat), i + k = l.length → EndZ 42 .nil false (stOf (sL n l i)) (iv (bc ((l.drop i).any (badL n)) 7 0)) [] 0
  | 0, i, h => by
    rw [List.drop_eq_nil_of_le (by omega)]; exact .done (last (by omega))
  | k + 1, i, h => by
    have hi : i < l.length := by omega
    have hs := step (n := n) hi hl; rw [List.drop_eq_getElem_cons hi, List.any_cons]; cases hb : badL n l[i] <;> rw [hb] at hs
    · exact .at (.nil _) hs (loop hl k (i + 1) (by omega))
    · exact .done hs
theorem ends (n : Int) (l : List Int) : EndZ 42 .nil false (st0 42 [iv n, il l]) (iv (chk n l)) [] 0 := by
  have h := in_t n l; unfold chk
  by_cases h1 : n < 1
  · simp only [Nat.add_eq, eqSy_self, eqN_self, bc_same, List.length_cons, ofn, wrap_in, dt, df, bltD, bltN, ble_of, bleN, beqD, bc_t, bc_f, nn_ok, Nat.zero_add, to_nat, Int.zero_add, Int.sub_zero, Int.sub_self, Int.cast_ofNat_Int, Int.natCast_zero, Int.toNat_zero, List.take_zero, List.nil_append, List.length_append, List.length_nil, dt h1] at h ⊢; exact .done h
  by_cases h2 : 12 < n
  · simp only [Nat.add_eq, eqSy_self, eqN_self, bc_same, List.length_cons, ofn, wrap_in, dt, df, bltD, bltN, ble_of, bleN, beqD, bc_t, bc_f, nn_ok, Nat.zero_add, to_nat, Int.zero_add, Int.sub_zero, Int.sub_self, Int.cast_ofNat_Int, Int.natCast_zero, Int.toNat_zero, List.take_zero, List.nil_append, List.length_append, List.length_nil, df h1, dt h2] at h ⊢; exact .done h
  by_cases h3 : (400 : Int) < (l.length : Int)
  · simp only [Nat.add_eq, eqSy_self, eqN_self, bc_same, List.length_cons, ofn, wrap_in, dt, df, bltD, bltN, ble_of, bleN, beqD, bc_t, bc_f, nn_ok, Nat.zero_add, to_nat, Int.zero_add, Int.sub_zero, Int.sub_self, Int.cast_ofNat_Int, Int.natCast_zero, Int.toNat_zero, List.take_zero, List.nil_append, List.length_append, List.length_nil, df h1, df h2, dt h3] at h ⊢; exact .done h
  · simp only [Nat.add_eq, eqSy_self, eqN_self, bc_same, List.length_cons, ofn, wrap_in, dt, df, bltD, bltN, ble_of, bleN, beqD, bc_t, bc_f, nn_ok, Nat.zero_add, to_nat, Int.zero_add, Int.sub_zero, Int.sub_self, Int.cast_ofNat_Int, Int.natCast_zero, Int.toNat_zero, List.take_zero, List.nil_append, List.length_append, List.length_nil, df h1, df h2, df h3] at h ⊢; exact .at (.nil _) h (loop (by omega) l.length 0 (by omega))
end RChk
noncomputable def spRChk_0 : ZCT := fun ax => match ax with
  | [.v (.int .i64 n), .lst (.ints .i64 l)] => some ⟨decide (True), iv (chk n l), [], 0⟩
  | _ => none
theorem spRChk_0_ok : ZCtOk Try.prog 42 spRChk_0 := fun γ w us ax r hs hc hax hN hfz => by
  unfold spRChk_0 at hs; split at hs
  case h_2 => cases hs
  rename_i n l; obtain ⟨rfl⟩ := Option.some.inj hs; have hc_0 : decide (True) = true := hc; have hc := of_decide_eq_true hc_0; exact EndZ.calls (RChk.ends n l) (.nil _) (by kernel_rfl) hax hN hfz
noncomputable def spRChk_1 : ZCT := fun ax => match ax with
  | [.v (.int .i64 n), .v (.slice none 0 0)] => some ⟨decide (True), iv (chk n []), [], 0⟩
  | _ => none
theorem spRChk_1_ok : ZCtOk Try.prog 42 spRChk_1 := fun γ w us ax r hs hc hax hN hfz => by
  unfold spRChk_1 at hs; split at hs
  case h_2 => cases hs
  rename_i n; obtain ⟨rfl⟩ := Option.some.inj hs; have hc_0 : decide (True) = true := hc; have hc := of_decide_eq_true hc_0; exact EndZ.calls (chk_nil n (RChk.nil_t n)) (.nil _) (by kernel_rfl) hax hN hfz
noncomputable def spRChk : ZCT := ZCT.or spRChk_0 (spRChk_1)
theorem spRChk_ok : ZCtOk Try.prog 42 spRChk := spRChk_0_ok.or (spRChk_1_ok)
namespace PChk
noncomputable def RUN (s : ES) : ZF := RZs 83 .nil [(atS 2 135 2, [[(0,none),(1,none),(7,none),(8,none)],[],[]])] [] false s

noncomputable def sL (n : Int) (l : List Int) (z i : Int) : NS := ⟨[⟨135, 19, [(0, (EV.lst (SyC.ints IntKind.i64 (l)))), (1, (EV.fn 124 [(EV.ptr 0 0)])), (7, iv z), (8, iv i)], [.it (.code (nav [1, 0, 1, 0, 0] (bodyOf Try.f135))), .it (.inLoop (nav [1, 0, 1, 0, 0] (bodyOf Try.f135))), .it (.inBlock 0), .it (.code (nav [1, 1] (bodyOf Try.f135)))], [], Option.none⟩, ⟨123, 9, [], [.ops (opsOf (nav [1, 0] (bodyOf Try.f123))) ((opsOf (nav [1, 0] (bodyOf Try.f123))).toList.drop 2), .it (.code (nav [1, 1] (bodyOf Try.f123)))], [], Option.none⟩, ⟨83, 20, [], [.ops (opsOf (nav [1, 0, 0, 1, 1, 1, 1, 0] (bodyOf Try.f83))) ((opsOf (nav [1, 0, 0, 1, 1, 1, 1, 0] (bodyOf Try.f83))).toList.drop 2), .it (.code (nav [1, 0, 0, 1, 1, 1, 1, 1] (bodyOf Try.f83))), .it (.inBlock 0), .it (.code (nav [1, 1] (bodyOf Try.f83)))], [], Option.none⟩], [(0, (EK.cells 3 [(EV.v (Value.int IntKind.i64 (n)))] true))], 1⟩
theorem in_t (n : Int) (l : List Int) : RUN (st0 83 [iv n, il l]) = (bc (decide (n < (1 : Int))) (.done (EV.v (Value.int IntKind.i64 (2))) [] 0) (bc (decide ((12 : Int) < n)) (.done (EV.v (Value.int IntKind.i64 (2))) [] 0) (bc (decide ((400 : Int) < Int.ofNat (List.length l))) (.done (EV.v (Value.int IntKind.i64 (3))) [] 0) (.at (sL (n) (l) (Int.ofNat (List.length l)) ((0 : Int))))))) := by kernel_rfl
theorem nil_t (n : Int) : RZ 83 .nil (fun _ => false) [] [] false (st0 83 [iv n, .v (.slice none 0 0)]) = (bc (decide (n < (1 : Int))) (.done (EV.v (Value.int IntKind.i64 (2))) [] 0) (bc (decide ((12 : Int) < n)) (.done (EV.v (Value.int IntKind.i64 (2))) [] 0) (.done (EV.v (Value.int IntKind.i64 (0))) [] 0))) := by kernel_rfl
theorem step_t (n : Int) (l : List Int) (z i : Int) : RUN (stOf (sL n l z i)) = (bc (decide (i < z)) (bc (bc (bc (decide ((0 : Int) ≤ i)) (Nat.blt (Int.toNat i) (List.length l)) false) true false) (bc (bc (Nat.blt (Int.toNat i) (List.length l)) true false) (bc (List.getD l (Int.toNat i) (0 : Int) == (0 : Int)) (bc (decide ((0 : Int) ≤ i)) (.done (EV.v (Value.int IntKind.i64 (7))) [] 0) (.done (EV.v (Value.int IntKind.i64 (0))) [] 0)) (bc (decide (List.getD l (Int.toNat i) (0 : Int) ≤ IntKind.wrap IntKind.i64 ((0 : Int) - n))) (bc (decide ((0 : Int) ≤ i)) (.done (EV.v (Value.int IntKind.i64 (7))) [] 0) (.done (EV.v (Value.int IntKind.i64 (0))) [] 0)) (bc (decide (n ≤ List.getD l (Int.toNat i) (0 : Int))) (bc (decide ((0 : Int) ≤ i)) (.done (EV.v (Value.int IntKind.i64 (7))) [] 0) (.done (EV.v (Value.int IntKind.i64 (0))) [] 0)) (.at (sL (n) (l) (z) (IntKind.wrap IntKind.i64 (i + (1 : Int)))))))) .bad) .bad) (.done (EV.v (Value.int IntKind.i64 (0))) [] 0)) := by kernel_rfl
theorem step {n : Int} {l : List Int} {i : Nat} (hi : i < l.length) (hl : l.length ≤ 400) : RUN (stOf (sL n l l.length i)) = bc (badL n l[i]) (.done (iv 7) [] 0) (.at (sL n l l.length (i + 1 : Nat))) := by
  rw [step_t]; have e : l.getD i 0 = l[i] := getD_at hi; simp (disch := omega) only [Nat.add_eq, eqSy_self, eqN_self, bc_same, List.length_cons, ofn, wrap_in, dt, df, bltD, bltN, ble_of, bleN, beqD, bc_t, bc_f, nn_ok, Nat.zero_add, to_nat, Int.zero_add, Int.sub_zero, Int.sub_self, Int.cast_ofNat_Int, Int.natCast_zero, Int.toNat_zero, List.take_zero, List.nil_append, List.length_append, List.length_nil, e]; unfold badL; cases (l[i] == 0) <;> cases decide (l[i] ≤ IntKind.i64.wrap (0 - n)) <;> cases decide (n ≤ l[i]) <;> rfl
theorem last {n : Int} {l : List Int} {i : Nat} (hi : l.length ≤ i) : RUN (stOf (sL n l l.length i)) = .done (iv 0) [] 0 := by
  rw [step_t]; simp (disch := omega) only [Nat.add_eq, eqSy_self, eqN_self, bc_same, List.length_cons, ofn, wrap_in, dt, df, bltD, bltN, ble_of, bleN, beqD, bc_t, bc_f, nn_ok, Nat.zero_add, to_nat, Int.zero_add, Int.sub_zero, Int.sub_self, Int.cast_ofNat_Int, Int.natCast_zero, Int.toNat_zero, List.take_zero, List.nil_append, List.length_append, List.length_nil]
theorem loop {n : Int} {l : List Int} (hl : l.length ≤ 400) : ∀ (k i : Nat), i + k = l.length → EndZ 83 .nil false (stOf (sL n l l.length i)) (iv (bc ((l.drop i).any (badL n)) 7 0)) [] 0
  | 0, i, h => by
    rw [List.drop_eq_nil_of_le (by omega)]; exact .done (last (by omega))
  | k + 1, i, h => by
    have hi : i < l.length := by omega
    have hs := step (n := n) hi hl; rw [List.drop_eq_getElem_cons hi, List.any_cons]; cases hb : badL n l[i] <;> rw [hb] at hs
    · exact .at (.nil _) hs (loop hl k (i + 1) (by omega))
    · exact .done hs
theorem ends (n : Int) (l : List Int) : EndZ 83 .nil false (st0 83 [iv n, il l]) (iv (chk n l)) [] 0 := by
  have h := in_t n l; unfold chk
  by_cases h1 : n < 1
  · simp only [Nat.add_eq, eqSy_self, eqN_self, bc_same, List.length_cons, ofn, wrap_in, dt, df, bltD, bltN, ble_of, bleN, beqD, bc_t, bc_f, nn_ok, Nat.zero_add, to_nat, Int.zero_add, Int.sub_zero, Int.sub_self, Int.cast_ofNat_Int, Int.natCast_zero, Int.toNat_zero, List.take_zero, List.nil_append, List.length_append, List.length_nil, dt h1] at h ⊢; exact .done h
  by_cases h2 : 12 < n
  · simp only [Nat.add_eq, eqSy_self, eqN_self, bc_same, List.length_cons, ofn, wrap_in, dt, df, bltD, bltN, ble_of, bleN, beqD, bc_t, bc_f, nn_ok, Nat.zero_add, to_nat, Int.zero_add, Int.sub_zero, Int.sub_self, Int.cast_ofNat_Int, Int.natCast_zero, Int.toNat_zero, List.take_zero, List.nil_append, List.length_append, List.length_nil, df h1, dt h2] at h ⊢; exact .done h
  by_cases h3 : (400 : Int) < (l.length : Int)
  · simp only [Nat.add_eq, eqSy_self, eqN_self, bc_same, List.length_cons, ofn, wrap_in, dt, df, bltD, bltN, ble_of, bleN, beqD, bc_t, bc_f, nn_ok, Nat.zero_add, to_nat, Int.zero_add, Int.sub_zero, Int.sub_self, Int.cast_ofNat_Int, Int.natCast_zero, Int.toNat_zero, List.take_zero, List.nil_append, List.length_append, List.length_nil, df h1, df h2, dt h3] at h ⊢; exact .done h
  · simp only [Nat.add_eq, eqSy_self, eqN_self, bc_same, List.length_cons, ofn, wrap_in, dt, df, bltD, bltN, ble_of, bleN, beqD, bc_t, bc_f, nn_ok, Nat.zero_add, to_nat, Int.zero_add, Int.sub_zero, Int.sub_self, Int.cast_ofNat_Int, Int.natCast_zero, Int.toNat_zero, List.take_zero, List.nil_append, List.length_append, List.length_nil, df h1, df h2, df h3] at h ⊢; exact .at (.nil _) h (loop (by omega) l.length 0 (by omega))
end PChk
noncomputable def spPChk_0 : ZCT := fun ax => match ax with
  | [.v (.int .i64 n), .lst (.ints .i64 l)] => some ⟨decide (True), iv (chk n l), [], 0⟩
  | _ => none
theorem spPChk_0_ok : ZCtOk Try.prog 83 spPChk_0 := fun γ w us ax r hs hc hax hN hfz => by
  unfold spPChk_0 at hs; split at hs
  case h_2 => cases hs
  rename_i n l; obtain ⟨rfl⟩ := Option.some.inj hs; have hc_0 : decide (True) = true := hc; have hc := of_decide_eq_true hc_0; exact EndZ.calls (PChk.ends n l) (.nil _) (by kernel_rfl) hax hN hfz
noncomputable def spPChk_1 : ZCT := fun ax => match ax with
  | [.v (.int .i64 n), .v (.slice none 0 0)] => some ⟨decide (True), iv (chk n []), [], 0⟩
  | _ => none
theorem spPChk_1_ok : ZCtOk Try.prog 83 spPChk_1 := fun γ w us ax r hs hc hax hN hfz => by
  unfold spPChk_1 at hs; split at hs
  case h_2 => cases hs
  rename_i n; obtain ⟨rfl⟩ := Option.some.inj hs; have hc_0 : decide (True) = true := hc; have hc := of_decide_eq_true hc_0; exact EndZ.calls (chk_nil n (PChk.nil_t n)) (.nil _) (by kernel_rfl) hax hN hfz
noncomputable def spPChk : ZCT := ZCT.or spPChk_0 (spPChk_1)
theorem spPChk_ok : ZCtOk Try.prog 83 spPChk := spPChk_0_ok.or (spPChk_1_ok)
namespace PEqP
noncomputable def K0 (L M : List Int) (nn nn2 : Bool) : List (Nat × EK) := [(0, .seq 92 (.ints .u8 L) nn), (1, .seq 92 (.ints .u8 M) nn2)]
noncomputable def RUN (s : ES) : ZF := RMs 0 85 .nil [(atS 0 85 4, [[(0,none),(1,none),(12,none),(13,none)]])] [] [] s

noncomputable def sL (L M : List Int) (len len2 : Nat) (nn nn2 : Bool) (z i : Int) : NS := ⟨[⟨85, 26, [(0, (EV.slO 0 12 (len) (nn))), (1, (EV.slO 1 12 (len2) (nn2))), (12, iv z), (13, iv i)], [.it (.code (nav [1, 1, 0, 1, 0, 0] (bodyOf Try.f85))), .it (.inLoop (nav [1, 1, 0, 1, 0, 0] (bodyOf Try.f85))), .it (.inBlock 0), .it (.code (nav [1, 1, 1] (bodyOf Try.f85)))], [], Option.none⟩], [(0, (EK.seq 92 (SyC.ints IntKind.u8 (L)) (nn))), (1, (EK.seq 92 (SyC.ints IntKind.u8 (M)) (nn2)))], 2⟩
theorem in_t (L M : List Int) (len len2 : Nat) (nn nn2 : Bool) : RUN (st0m 85 [.slO 0 12 len nn, .slO 1 12 len2 nn2] (K0 L M nn nn2) 2) = (bc (Int.ofNat len != Int.ofNat len2) (.done (EV.v (Value.bool false)) [] 0) (.at (sL (L) (M) (len) (len2) (nn) (nn2) (Int.ofNat len) ((0 : Int))))) := by kernel_rfl
theorem step_t (L M : List Int) (len len2 : Nat) (nn nn2 : Bool) (z i : Int) : RUN (stOf (sL L M len len2 nn nn2 z i)) = (bc (decide (i < z)) (bc (bc (bc (bc (bc (decide ((0 : Int) ≤ i)) (Nat.blt (Int.toNat i) len) false) true false) (bc (bc (Nat.ble (Nat.add (Nat.add (Nat.mul (Int.toNat i) (12 : Nat)) (0 : Nat)) (12 : Nat)) (List.length L)) true false) (bc (bc (bc (decide ((0 : Int) ≤ i)) (Nat.blt (Int.toNat i) len2) false) true false) (bc (bc (Nat.ble (Nat.add (Nat.add (Nat.mul (Int.toNat i) (12 : Nat)) (0 : Nat)) (12 : Nat)) (List.length M)) true false) (bc (bc (bc (Nat.beq (List.length (List.take (12 : Nat) (List.drop (Nat.add (Nat.mul (Int.toNat i) (12 : Nat)) (0 : Nat)) L))) (12 : Nat)) (Nat.beq (List.length (List.take (12 : Nat) (List.drop (Nat.add (Nat.mul (Int.toNat i) (12 : Nat)) (0 : Nat)) M))) (12 : Nat)) false) true false) true false) false) false) false) false) true false) (bc (bnot (eqLI (List.take (12 : Nat) (List.drop (Nat.add (Nat.mul (Int.toNat i) (12 : Nat)) (0 : Nat)) L)) (List.take (12 : Nat) (List.drop (Nat.add (Nat.mul (Int.toNat i) (12 : Nat)) (0 : Nat)) M)))) (.done (EV.v (Value.bool false)) [] 0) (.at (sL (L) (M) (len) (len2) (nn) (nn2) (z) (IntKind.wrap IntKind.i64 (i + (1 : Int)))))) .bad) (.done (EV.v (Value.bool true)) [] 0)) := by kernel_rfl
theorem take_win {L M : List Int} {i : Nat} (hL : i * 12 + 12 ≤ L.length) (hM : i * 12 + 12 ≤ M.length) (h : L.take (i * 12) = M.take (i * 12)) (hw : (L.drop (i * 12)).take 12 = (M.drop (i * 12)).take 12) : L.take ((i + 1) * 12) = M.take ((i + 1) * 12) := by
  rw [show (i + 1) * 12 = i * 12 + 12 by omega, List.take_add, List.take_add, h, hw]
theorem win_of {L M : List Int} (h : L = M) (i : Nat) : (L.drop (i * 12)).take 12 = (M.drop (i * 12)).take 12 := by rw [h]
theorem loop {L M : List Int} {len : Nat} {nn nn2 : Bool} (hL : len * 12 = L.length) (hM : len * 12 = M.length) (hz : len ≤ 5000) : ∀ (k i : Nat), i + k = len → L.take (i * 12) = M.take (i * 12) → EndM 0 85 .nil (stOf (sL L M len len nn nn2 len i)) (bv (eqLI L M)) [] 0
  | 0, i, h, he => by
    obtain rfl : i = len := by omega
    have h1 := step_t L M i i nn nn2 i i; rw [df (show ¬ (i : Int) < (i : Int) by omega), bc_f] at h1; rw [hL] at he; rw [List.take_length, ← hL, hM, List.take_length] at he; rw [eqLI_iff.2 he]; exact .done h1
  | k + 1, i, h, he => by
    have h1 := step_t L M len len nn nn2 len i; have e0 : ((i : Int)).toNat = i := rfl; have e1 : Nat.add (Nat.mul i 12) 0 = i * 12 := rfl; have e2 : Nat.add (i * 12) 12 = i * 12 + 12 := rfl; have l1 : ((L.drop (i * 12)).take 12).length = 12 := by rw [List.length_take, List.length_drop]; omega
    have l2 : ((M.drop (i * 12)).take 12).length = 12 := by rw [List.length_take, List.length_drop]; omega
    rw [e0, e1, e2, l1, l2] at h1; simp (disch := omega) only [Nat.add_eq, eqSy_self, eqN_self, bc_same, List.length_cons, ofn, wrap_in, dt, df, bltD, bltN, ble_of, bleN, beqD, bc_t, bc_f, nn_ok, Nat.zero_add, to_nat, Int.zero_add, Int.sub_zero, Int.sub_self, Int.cast_ofNat_Int, Int.natCast_zero, Int.toNat_zero, List.take_zero, List.nil_append, List.length_append, List.length_nil] at h1
    cases hq : eqLI ((L.drop (i * 12)).take 12) ((M.drop (i * 12)).take 12) with
    | true =>
      rw [hq] at h1; exact .at (.nil _) h1 (loop hL hM hz k (i + 1) (by omega) (take_win (by omega) (by omega) he (eqLI_iff.1 hq)))
    | false =>
      rw [hq] at h1; have hne : eqLI L M = false := by
        cases hx : eqLI L M with
        | false => rfl
        | true => rw [eqLI_iff.2 (win_of (eqLI_iff.1 hx) i)] at hq; cases hq
      rw [hne]; exact .done h1
theorem ends {L M : List Int} {len len2 : Nat} {nn nn2 : Bool} (hL : len * 12 = L.length) (hM : len2 * 12 = M.length) (hz : len ≤ 5000) : EndM 0 85 .nil (st0m 85 [.slO 0 12 len nn, .slO 1 12 len2 nn2] (K0 L M nn nn2) 2) (bv (eqLI L M)) [] 0 := by
  have h := in_t L M len len2 nn nn2
  by_cases e : len = len2
  · subst e; have e1 : (Int.ofNat len != Int.ofNat len) = false := by simp
    rw [e1, bc_f] at h; exact .at (.nil _) h (loop hL hM hz len 0 (by omega) (by simp))
  · have e1 : (Int.ofNat len != Int.ofNat len2) = true := by simp; omega
    rw [e1, bc_t] at h; have hne : eqLI L M = false := by
      cases hx : eqLI L M with
      | false => rfl
      | true => have := congrArg List.length (eqLI_iff.1 hx); omega
    rw [hne]; exact .done h
end PEqP
noncomputable def spEqP : ZMT := fun ax K0 m => match ax, K0 with
  | [.slO 0 12 len nn, .slO 1 12 len2 nn2], [(0, .seq 92 (.ints .u8 L) v_0), (1, .seq 92 (.ints .u8 M) v_1)] => bc (Nat.beq m (2)) (some ⟨bc (eqN v_0 (nn)) (bc (eqN v_1 (nn2)) (decide (len * 12 = L.length ∧ len2 * 12 = M.length ∧ len ≤ 5000)) false) false, bv (eqLI L M), [], 0, 0⟩) none
  | _, _ => none
theorem spEqP_ok : ZMtOk Try.prog 85 spEqP := fun γ w0 w us ax K0 m r hs hc hres hax hH => by
  unfold spEqP at hs; split at hs
  case h_2 => cases hs
  rename_i len nn len2 nn2 L v_0 M v_1; obtain ⟨hm, rfl⟩ := noN hs; have hm := Nat.eq_of_beq_eq_true hm; subst hm; have hc_0 : bc (eqN v_0 (nn)) (bc (eqN v_1 (nn2)) (decide (len * 12 = L.length ∧ len2 * 12 = M.length ∧ len ≤ 5000)) false) false = true := hc; obtain ⟨q_0, hc_1⟩ := bcT hc_0; have p_0 := (eqN_ok q_0).symm; subst p_0; obtain ⟨q_1, hc_2⟩ := bcT hc_1; have p_1 := (eqN_ok q_1).symm; subst p_1; have hc := of_decide_eq_true hc_2; exact EndM.calls (PEqP.ends hc.1 hc.2.1 hc.2.2) (.nil _) (by kernel_rfl) hres hax hH
end Go.Proofs.Ytooimphimnagaaa.Ev
namespace Go.Proofs.Ytooimphimnagaaa.Ev
open Go.Proofs
theorem chk_wok {n : Int} {w : List Int} (h : chk n w = 0) : WOk n w ∧ w.length ≤ 400 := by
  unfold chk at h
  by_cases h1 : n < 1
  · rw [dt h1, bc_t] at h; omega
  by_cases h2 : 12 < n
  · rw [df h1, dt h2, bc_f, bc_t] at h; omega
  by_cases h3 : (400 : Int) < Int.ofNat w.length
  · rw [df h1, df h2, dt h3, bc_f, bc_f, bc_t] at h; omega
  rw [df h1, df h2, df h3, bc_f, bc_f, bc_f] at h; rw [ofn] at h3; refine ⟨⟨by omega, by omega, by omega, fun x hx => ?_⟩, by omega⟩
  cases ha : w.any (badL n) with
  | true => rw [ha, bc_t] at h; omega
  | false =>
    have h4 : badL n x = false := by
      cases hb : badL n x with
      | false => rfl
      | true => rw [List.any_eq_true.2 ⟨x, hx, hb⟩] at ha; cases ha
    unfold badL at h4; rw [wrap_in (0 - n) (by omega) (by omega)] at h4; have e : ((n.toNat : Nat) : Int) = n := Int.toNat_of_nonneg (by omega); rw [e]
    by_cases q1 : x = 0
    · rw [show (x == 0) = true by simp [q1], bc_t] at h4; cases h4
    · rw [show (x == 0) = false by simp [q1], bc_f] at h4
      by_cases q2 : x ≤ 0 - n
      · rw [dt q2, bc_t] at h4; cases h4
      · rw [df q2, bc_f] at h4; have q3 := of_decide_eq_false h4; exact ⟨q1, by omega, by omega⟩
noncomputable def sameN (n : Int) (a b : List Int) : Bool := decide (nfW n.toNat a = nfW n.toNat b)
noncomputable def samE (n : Int) (a b : List Int) : Int := bc (chk n a != 0) (chk n a) (chk n b)
noncomputable def samB (n : Int) (a b : List Int) : Bool := bc (samE n a b != 0) false (sameN n a b)
theorem sameN_of {n : Int} (h2 : n ≤ 12) (a b : List Int) : sameN n a b = bc ((nfW n.toNat a).pw == (nfW n.toNat b).pw) (eqLI (encF (nfW n.toNat a).F) (encF (nfW n.toNat b).F)) false := by
  have hn : n.toNat ≤ 12 := by omega
  unfold sameN
  by_cases h1 : (nfW n.toNat a).pw = (nfW n.toNat b).pw
  · rw [show ((nfW n.toNat a).pw == (nfW n.toNat b).pw) = true by simp [h1], bc_t]
    by_cases h2 : encF (nfW n.toNat a).F = encF (nfW n.toNat b).F
    · rw [eqLI_iff.2 h2]; exact decide_eq_true (Frm.ext h1 (encF_inj hn h2))
    · have : eqLI (encF (nfW n.toNat a).F) (encF (nfW n.toNat b).F) = false := by
        cases h : eqLI (encF (nfW n.toNat a).F) (encF (nfW n.toNat b).F) with
        | false => rfl
        | true => exact absurd (eqLI_iff.1 h) h2
      rw [this]; exact decide_eq_false fun e => h2 (by rw [e])
  · rw [show ((nfW n.toNat a).pw == (nfW n.toNat b).pw) = false by simp [h1], bc_f]; exact decide_eq_false fun e => h1 (by rw [e])
theorem nf_small {n : Int} {w : List Int} (h : WOk n w) : (nfW n.toNat w).F.length ≤ 5000 := by
  obtain ⟨_, _, h3, _⟩ := h; have : ∀ (w : List Int) (s : Frm n.toNat), (w.foldl Frm.step s).F.length ≤ s.F.length + w.length := by
    intro w
    induction w with
    | nil => intro s; exact Nat.le_refl _
    | cons x w ih =>
      intro s; have h1 := ih (s.step x); have h2 := (step_len s x).1; rw [List.foldl_cons, List.length_cons]; omega
  have := this w ⟨0, []⟩; have e : nfW n.toNat w = w.foldl Frm.step ⟨0, []⟩ := rfl; rw [e]; simp at this; omega
namespace PSam
noncomputable def ct : Tr ZCC := ((Tr.nil.put 83 (some (dC spPChk))).put 84 (some (mC spNrm))).put 85 (some (mC spEqP))
theorem ct_ok : ZCtsOk Try.prog ct := (((ZCtsOk.nil _).add rfl spPChk_ok).addM rfl spNrm_ok).addM rfl spEqP_ok
noncomputable def RUN (s : ES) : ZF := RZ 27 ct (fun _ => false) [] [] false s
theorem in_t (n : Int) (a b : List Int) : RUN (st0 27 [iv n, il a, il b]) = (bc (List.getD (List.map (fun r => U.int (List.headD r (U.i (0 : Int)))) [[U.i (chk n a)], [U.i (chk n b)]]) (Int.toNat (0 : Int)) (0 : Int) != (0 : Int)) (bc (List.getD (List.map (fun r => U.int (List.headD r (U.i (0 : Int)))) [[U.i (chk n a)], [U.i (chk n b)]]) (Int.toNat (0 : Int)) (0 : Int) != (0 : Int)) (.done (EV.tup [(EV.v (Value.bool false)), (EV.v (Value.int IntKind.i64 (List.getD (List.map (fun r => U.int (List.headD r (U.i (0 : Int)))) [[U.i (chk n a)], [U.i (chk n b)]]) (Int.toNat (0 : Int)) (0 : Int))))]) [] 0) (bc (bc (decide (WOk n a)) true false) (bc (bc (decide (WOk n b)) true false) (bc (Frm.pw (nfW (Int.toNat n) a) == Frm.pw (nfW (Int.toNat n) b)) (bc (bc (bc (eqB (Frm.pw (nfW (Int.toNat n) a) == Frm.pw (nfW (Int.toNat n) b)) true) (bc (bc (bc (eqN (Nat.blt (0 : Nat) (List.length a)) (Nat.blt (0 : Nat) (List.length a))) (bc (eqN (Nat.blt (0 : Nat) (List.length b)) (Nat.blt (0 : Nat) (List.length b))) (decide (List.length (Frm.F (nfW (Int.toNat n) a)) * (12 : Nat) = List.length (encF (Frm.F (nfW (Int.toNat n) a))) ∧ List.length (Frm.F (nfW (Int.toNat n) b)) * (12 : Nat) = List.length (encF (Frm.F (nfW (Int.toNat n) b))) ∧ List.length (Frm.F (nfW (Int.toNat n) a)) ≤ (5000 : Nat))) false) false) true false) true false) false) true false) (.done (EV.tup [(EV.v (Value.bool (eqLI (encF (Frm.F (nfW (Int.toNat n) a))) (encF (Frm.F (nfW (Int.toNat n) b)))))), (EV.v (Value.int IntKind.i64 (0)))]) [] 0) .bad) (bc (bc (bc (eqB (Frm.pw (nfW (Int.toNat n) a) == Frm.pw (nfW (Int.toNat n) b)) false) true false) true false) (.done (EV.tup [(EV.v (Value.bool false)), (EV.v (Value.int IntKind.i64 (0)))]) [] 0) .bad)) .bad) .bad)) (bc (List.getD (List.map (fun r => U.int (List.headD r (U.i (0 : Int)))) [[U.i (chk n a)], [U.i (chk n b)]]) (Int.toNat (IntKind.wrap IntKind.i64 ((0 : Int) + (1 : Int)))) (0 : Int) != (0 : Int)) (bc (List.getD (List.map (fun r => U.int (List.headD r (U.i (0 : Int)))) [[U.i (chk n a)], [U.i (chk n b)]]) (Int.toNat (IntKind.wrap IntKind.i64 ((0 : Int) + (1 : Int)))) (0 : Int) != (0 : Int)) (.done (EV.tup [(EV.v (Value.bool false)), (EV.v (Value.int IntKind.i64 (List.getD (List.map (fun r => U.int (List.headD r (U.i (0 : Int)))) [[U.i (chk n a)], [U.i (chk n b)]]) (Int.toNat (IntKind.wrap IntKind.i64 ((0 : Int) + (1 : Int)))) (0 : Int))))]) [] 0) (bc (bc (decide (WOk n a)) true false) (bc (bc (decide (WOk n b)) true false) (bc (Frm.pw (nfW (Int.toNat n) a) == Frm.pw (nfW (Int.toNat n) b)) (bc (bc (bc (eqB (Frm.pw (nfW (Int.toNat n) a) == Frm.pw (nfW (Int.toNat n) b)) true) (bc (bc (bc (eqN (Nat.blt (0 : Nat) (List.length a)) (Nat.blt (0 : Nat) (List.length a))) (bc (eqN (Nat.blt (0 : Nat) (List.length b)) (Nat.blt (0 : Nat) (List.length b))) (decide (List.length (Frm.F (nfW (Int.toNat n) a)) * (12 : Nat) = List.length (encF (Frm.F (nfW (Int.toNat n) a))) ∧ List.length (Frm.F (nfW (Int.toNat n) b)) * (12 : Nat) = List.length (encF (Frm.F (nfW (Int.toNat n) b))) ∧ List.length (Frm.F (nfW (Int.toNat n) a)) ≤ (5000 : Nat))) false) false) true false) true false) false) true false) (.done (EV.tup [(EV.v (Value.bool (eqLI (encF (Frm.F (nfW (Int.toNat n) a))) (encF (Frm.F (nfW (Int.toNat n) b)))))), (EV.v (Value.int IntKind.i64 (0)))]) [] 0) .bad) (bc (bc (bc (eqB (Frm.pw (nfW (Int.toNat n) a) == Frm.pw (nfW (Int.toNat n) b)) false) true false) true false) (.done (EV.tup [(EV.v (Value.bool false)), (EV.v (Value.int IntKind.i64 (0)))]) [] 0) .bad)) .bad) .bad)) (bc (bc (decide (WOk n a)) true false) (bc (bc (decide (WOk n b)) true false) (bc (Frm.pw (nfW (Int.toNat n) a) == Frm.pw (nfW (Int.toNat n) b)) (bc (bc (bc (eqB (Frm.pw (nfW (Int.toNat n) a) == Frm.pw (nfW (Int.toNat n) b)) true) (bc (bc (bc (eqN (Nat.blt (0 : Nat) (List.length a)) (Nat.blt (0 : Nat) (List.length a))) (bc (eqN (Nat.blt (0 : Nat) (List.length b)) (Nat.blt (0 : Nat) (List.length b))) (decide (List.length (Frm.F (nfW (Int.toNat n) a)) * (12 : Nat) = List.length (encF (Frm.F (nfW (Int.toNat n) a))) ∧ List.length (Frm.F (nfW (Int.toNat n) b)) * (12 : Nat) = List.length (encF (Frm.F (nfW (Int.toNat n) b))) ∧ List.length (Frm.F (nfW (Int.toNat n) a)) ≤ (5000 : Nat))) false) false) true false) true false) false) true false) (.done (EV.tup [(EV.v (Value.bool (eqLI (encF (Frm.F (nfW (Int.toNat n) a))) (encF (Frm.F (nfW (Int.toNat n) b)))))), (EV.v (Value.int IntKind.i64 (0)))]) [] 0) .bad) (bc (bc (bc (eqB (Frm.pw (nfW (Int.toNat n) a) == Frm.pw (nfW (Int.toNat n) b)) false) true false) true false) (.done (EV.tup [(EV.v (Value.bool false)), (EV.v (Value.int IntKind.i64 (0)))]) [] 0) .bad)) .bad) .bad))) := by kernel_rfl
theorem nil_t (n : Int) (a : List Int) : RUN (st0 27 [iv n, il a, .v (.slice none 0 0)]) = (bc (List.getD (List.map (fun r => U.int (List.headD r (U.i (0 : Int)))) [[U.i (chk n a)], [U.i (chk n [])]]) (Int.toNat (0 : Int)) (0 : Int) != (0 : Int)) (bc (List.getD (List.map (fun r => U.int (List.headD r (U.i (0 : Int)))) [[U.i (chk n a)], [U.i (chk n [])]]) (Int.toNat (0 : Int)) (0 : Int) != (0 : Int)) (.done (EV.tup [(EV.v (Value.bool false)), (EV.v (Value.int IntKind.i64 (List.getD (List.map (fun r => U.int (List.headD r (U.i (0 : Int)))) [[U.i (chk n a)], [U.i (chk n [])]]) (Int.toNat (0 : Int)) (0 : Int))))]) [] 0) (bc (bc (decide (WOk n a)) true false) (bc (Frm.pw (nfW (Int.toNat n) a) == (0 : Int)) (bc (bc (bc (eqB (Frm.pw (nfW (Int.toNat n) a) == (0 : Int)) true) (bc (bc (bc (eqN (Nat.blt (0 : Nat) (List.length a)) (Nat.blt (0 : Nat) (List.length a))) (decide (List.length (Frm.F (nfW (Int.toNat n) a)) * (12 : Nat) = List.length (encF (Frm.F (nfW (Int.toNat n) a))) ∧ (0 : Nat) * (12 : Nat) = List.length (zerosL (0 : Nat)) ∧ List.length (Frm.F (nfW (Int.toNat n) a)) ≤ (5000 : Nat))) false) true false) true false) false) true false) (.done (EV.tup [(EV.v (Value.bool (eqLI (encF (Frm.F (nfW (Int.toNat n) a))) (zerosL (0 : Nat))))), (EV.v (Value.int IntKind.i64 (0)))]) [] 0) .bad) (bc (bc (bc (eqB (Frm.pw (nfW (Int.toNat n) a) == (0 : Int)) false) true false) true false) (.done (EV.tup [(EV.v (Value.bool false)), (EV.v (Value.int IntKind.i64 (0)))]) [] 0) .bad)) .bad)) (bc (List.getD (List.map (fun r => U.int (List.headD r (U.i (0 : Int)))) [[U.i (chk n a)], [U.i (chk n [])]]) (Int.toNat (IntKind.wrap IntKind.i64 ((0 : Int) + (1 : Int)))) (0 : Int) != (0 : Int)) (bc (List.getD (List.map (fun r => U.int (List.headD r (U.i (0 : Int)))) [[U.i (chk n a)], [U.i (chk n [])]]) (Int.toNat (IntKind.wrap IntKind.i64 ((0 : Int) + (1 : Int)))) (0 : Int) != (0 : Int)) (.done (EV.tup [(EV.v (Value.bool false)), (EV.v (Value.int IntKind.i64 (List.getD (List.map (fun r => U.int (List.headD r (U.i (0 : Int)))) [[U.i (chk n a)], [U.i (chk n [])]]) (Int.toNat (IntKind.wrap IntKind.i64 ((0 : Int) + (1 : Int)))) (0 : Int))))]) [] 0) (bc (bc (decide (WOk n a)) true false) (bc (Frm.pw (nfW (Int.toNat n) a) == (0 : Int)) (bc (bc (bc (eqB (Frm.pw (nfW (Int.toNat n) a) == (0 : Int)) true) (bc (bc (bc (eqN (Nat.blt (0 : Nat) (List.length a)) (Nat.blt (0 : Nat) (List.length a))) (decide (List.length (Frm.F (nfW (Int.toNat n) a)) * (12 : Nat) = List.length (encF (Frm.F (nfW (Int.toNat n) a))) ∧ (0 : Nat) * (12 : Nat) = List.length (zerosL (0 : Nat)) ∧ List.length (Frm.F (nfW (Int.toNat n) a)) ≤ (5000 : Nat))) false) true false) true false) false) true false) (.done (EV.tup [(EV.v (Value.bool (eqLI (encF (Frm.F (nfW (Int.toNat n) a))) (zerosL (0 : Nat))))), (EV.v (Value.int IntKind.i64 (0)))]) [] 0) .bad) (bc (bc (bc (eqB (Frm.pw (nfW (Int.toNat n) a) == (0 : Int)) false) true false) true false) (.done (EV.tup [(EV.v (Value.bool false)), (EV.v (Value.int IntKind.i64 (0)))]) [] 0) .bad)) .bad)) (bc (bc (decide (WOk n a)) true false) (bc (Frm.pw (nfW (Int.toNat n) a) == (0 : Int)) (bc (bc (bc (eqB (Frm.pw (nfW (Int.toNat n) a) == (0 : Int)) true) (bc (bc (bc (eqN (Nat.blt (0 : Nat) (List.length a)) (Nat.blt (0 : Nat) (List.length a))) (decide (List.length (Frm.F (nfW (Int.toNat n) a)) * (12 : Nat) = List.length (encF (Frm.F (nfW (Int.toNat n) a))) ∧ (0 : Nat) * (12 : Nat) = List.length (zerosL (0 : Nat)) ∧ List.length (Frm.F (nfW (Int.toNat n) a)) ≤ (5000 : Nat))) false) true false) true false) false) true false) (.done (EV.tup [(EV.v (Value.bool (eqLI (encF (Frm.F (nfW (Int.toNat n) a))) (zerosL (0 : Nat))))), (EV.v (Value.int IntKind.i64 (0)))]) [] 0) .bad) (bc (bc (bc (eqB (Frm.pw (nfW (Int.toNat n) a) == (0 : Int)) false) true false) true false) (.done (EV.tup [(EV.v (Value.bool false)), (EV.v (Value.int IntKind.i64 (0)))]) [] 0) .bad)) .bad))) := by kernel_rfl
theorem fin {n : Int} {a b : List Int} {s : ES} (z1 : chk n a = 0) (z2 : chk n b = 0) (h : RUN s = bc ((nfW n.toNat a).pw == (nfW n.toNat b).pw) (.done (.tup [bv (eqLI (encF (nfW n.toNat a).F) (encF (nfW n.toNat b).F)), iv 0]) [] 0) (.done (.tup [bv false, iv 0]) [] 0)) : EndZ 27 ct false s (.tup [bv (samB n a b), iv (samE n a b)]) [] 0 := by
  have e1 : samE n a b = 0 := by unfold samE; rw [z1, z2]; rfl
  obtain ⟨⟨_, h2, _⟩, _⟩ := chk_wok z1; unfold samB; rw [e1, show ((0 : Int) != 0) = false from rfl, bc_f, sameN_of h2]
  cases hq : ((nfW n.toNat a).pw == (nfW n.toNat b).pw) with
  | true => rw [hq, bc_t] at h; rw [bc_t]; exact .done h
  | false => rw [hq, bc_f] at h; rw [bc_f]; exact .done h
theorem bad {n : Int} {a b : List Int} {s : ES} {e : Int} (h0 : e ≠ 0) (he : samE n a b = e) (h : RUN s = .done (.tup [bv false, iv e]) [] 0) : EndZ 27 ct false s (.tup [bv (samB n a b), iv (samE n a b)]) [] 0 := by
  unfold samB; rw [he, show (e != 0) = true by simp [h0], bc_t]; exact .done h
theorem ends (n : Int) (a b : List Int) : EndZ 27 ct false (st0 27 [iv n, il a, il b]) (.tup [bv (samB n a b), iv (samE n a b)]) [] 0 := by
  have h := in_t n a b; have g0 : List.getD (List.map (fun r => U.int (List.headD r (U.i 0))) [[U.i (chk n a)], [U.i (chk n b)]]) (Int.toNat 0) 0 = chk n a := rfl; have g1 : List.getD (List.map (fun r => U.int (List.headD r (U.i 0))) [[U.i (chk n a)], [U.i (chk n b)]]) (Int.toNat (IntKind.wrap IntKind.i64 (0 + 1))) 0 = chk n b := rfl; rw [g0, g1] at h
  by_cases z1 : chk n a = 0
  · rw [z1, show ((0 : Int) != 0) = false from rfl, bc_f] at h
    by_cases z2 : chk n b = 0
    · rw [z2, show ((0 : Int) != 0) = false from rfl, bc_f] at h
      have w1 := (chk_wok z1).1; have w2 := (chk_wok z2).1; rw [dt w1, dt w2, encF_len, encF_len, dt ⟨rfl, rfl, nf_small w1⟩] at h; refine fin z1 z2 (h.trans ?_); cases (nfW n.toNat a).pw == (nfW n.toNat b).pw <;> simp only [Nat.add_eq, eqSy_self, eqN_self, bc_same, List.length_cons, ofn, wrap_in, dt, df, bltD, bltN, ble_of, bleN, beqD, bc_t, bc_f, nn_ok, Nat.zero_add, to_nat, Int.zero_add, Int.sub_zero, Int.sub_self, Int.cast_ofNat_Int, Int.natCast_zero, Int.toNat_zero, List.take_zero, List.nil_append, List.length_append, List.length_nil, eqB] <;> rfl
    · rw [show (chk n b != 0) = true by simp [z2], bc_t, bc_t] at h; exact bad z2 (by unfold samE; rw [z1]; rfl) h
  · rw [show (chk n a != 0) = true by simp [z1], bc_t, bc_t] at h; exact bad z1 (by unfold samE; rw [show (chk n a != 0) = true by simp [z1], bc_t]) h
theorem endsN (n : Int) (a : List Int) : EndZ 27 ct false (st0 27 [iv n, il a, .v (.slice none 0 0)]) (.tup [bv (samB n a []), iv (samE n a [])]) [] 0 := by
  have h := nil_t n a; have g0 : List.getD (List.map (fun r => U.int (List.headD r (U.i 0))) [[U.i (chk n a)], [U.i (chk n [])]]) (Int.toNat 0) 0 = chk n a := rfl; have g1 : List.getD (List.map (fun r => U.int (List.headD r (U.i 0))) [[U.i (chk n a)], [U.i (chk n [])]]) (Int.toNat (IntKind.wrap IntKind.i64 (0 + 1))) 0 = chk n [] := rfl; rw [g0, g1] at h
  by_cases z1 : chk n a = 0
  · rw [z1, show ((0 : Int) != 0) = false from rfl, bc_f] at h
    by_cases z2 : chk n [] = 0
    · rw [z2, show ((0 : Int) != 0) = false from rfl, bc_f] at h
      have w1 := (chk_wok z1).1; rw [dt w1, encF_len, dt ⟨rfl, rfl, nf_small w1⟩] at h; refine fin z1 z2 (h.trans ?_); show bc ((nfW n.toNat a).pw == 0) _ _ = bc ((nfW n.toNat a).pw == 0) _ _; cases (nfW n.toNat a).pw == 0 <;> simp only [Nat.add_eq, eqSy_self, eqN_self, bc_same, List.length_cons, ofn, wrap_in, dt, df, bltD, bltN, ble_of, bleN, beqD, bc_t, bc_f, nn_ok, Nat.zero_add, to_nat, Int.zero_add, Int.sub_zero, Int.sub_self, Int.cast_ofNat_Int, Int.natCast_zero, Int.toNat_zero, List.take_zero, List.nil_append, List.length_append, List.length_nil, eqB] <;> rfl
    · rw [show (chk n [] != 0) = true by simp [z2], bc_t, bc_t] at h; exact bad z2 (by unfold samE; rw [z1]; rfl) h
  · rw [show (chk n a != 0) = true by simp [z1], bc_t, bc_t] at h; exact bad z1 (by unfold samE; rw [show (chk n a != 0) = true by simp [z1], bc_t]) h
end PSam
noncomputable def spPSam_0 : ZCT := fun ax => match ax with
  | [.v (.int .i64 n), .lst (.ints .i64 a), .lst (.ints .i64 b)] => some ⟨decide (True), .tup [bv (samB n a b), iv (samE n a b)], [], 0⟩
  | _ => none
theorem spPSam_0_ok : ZCtOk Try.prog 27 spPSam_0 := fun γ w us ax r hs hc hax hN hfz => by
  unfold spPSam_0 at hs; split at hs
  case h_2 => cases hs
  rename_i n a b; obtain ⟨rfl⟩ := Option.some.inj hs; have hc_0 : decide (True) = true := hc; have hc := of_decide_eq_true hc_0; exact EndZ.calls (PSam.ends n a b) PSam.ct_ok (by kernel_rfl) hax hN hfz
noncomputable def spPSam_1 : ZCT := fun ax => match ax with
  | [.v (.int .i64 n), .lst (.ints .i64 a), .v (.slice none 0 0)] => some ⟨decide (True), .tup [bv (samB n a []), iv (samE n a [])], [], 0⟩
  | _ => none
theorem spPSam_1_ok : ZCtOk Try.prog 27 spPSam_1 := fun γ w us ax r hs hc hax hN hfz => by
  unfold spPSam_1 at hs; split at hs
  case h_2 => cases hs
  rename_i n a; obtain ⟨rfl⟩ := Option.some.inj hs; have hc_0 : decide (True) = true := hc; have hc := of_decide_eq_true hc_0; exact EndZ.calls (PSam.endsN n a) PSam.ct_ok (by kernel_rfl) hax hN hfz
noncomputable def spPSam : ZCT := ZCT.or spPSam_0 (spPSam_1)
theorem spPSam_ok : ZCtOk Try.prog 27 spPSam := spPSam_0_ok.or (spPSam_1_ok)
namespace PTri
noncomputable def ct : Tr ZCC := Tr.nil.put 27 (some (dC spPSam))
theorem ct_ok : ZCtsOk Try.prog ct := (ZCtsOk.nil _).add rfl spPSam_ok
noncomputable def RUN (s : ES) : ZF := RZ 33 ct (fun _ => false) [] [] false s
theorem in_t (n : Int) (a : List Int) : RUN (st0 33 [iv n, il a]) = (.done (EV.tup [(EV.v (Value.bool (samB n a []))), (EV.v (Value.int IntKind.i64 (samE n a [])))]) [] 0) := by kernel_rfl
end PTri
noncomputable def spPTri : ZCT := fun ax => match ax with
  | [.v (.int .i64 n), .lst (.ints .i64 a)] => some ⟨decide (True), .tup [bv (samB n a []), iv (samE n a [])], [], 0⟩
  | _ => none
theorem spPTri_ok : ZCtOk Try.prog 33 spPTri := fun γ w us ax r hs hc hax hN hfz => by
  unfold spPTri at hs; split at hs
  case h_2 => cases hs
  rename_i n a; obtain ⟨rfl⟩ := Option.some.inj hs; have hc_0 : decide (True) = true := hc; have hc := of_decide_eq_true hc_0; exact EndZ.calls (.done (PTri.in_t n a)) PTri.ct_ok (by kernel_rfl) hax hN hfz
end Go.Proofs.Ytooimphimnagaaa.Ev
namespace Go.Proofs.Ytooimphimnagaaa.Ev
open Go.Proofs
namespace RLin
noncomputable def RUN (s : ES) : ZF := RZ 87 .nil (atS 0 87 3) [] [[(0,none),(3,some (1, 3, .ints .i64 [])),(4,none)]] false s

noncomputable def sL (n : Int) (q : List Int) (nn : Bool) (i : Int) : NS := ⟨[⟨87, 15, [(0, (EV.v (Value.int IntKind.i64 (n)))), (3, EV.slO 0 1 q.length nn), (4, iv i)], [.it (.code (nav [1, 1, 0, 1, 0, 0, 0] (bodyOf Try.f87))), .it (.code (nav [1, 1, 0, 1, 0, 0, 1] (bodyOf Try.f87))), .it (.inLoop (nav [1, 1, 0, 1, 0, 0] (bodyOf Try.f87))), .it (.inBlock 0), .it (.code (nav [1, 1, 1] (bodyOf Try.f87)))], [], Option.none⟩], [(0, EK.seq 3 (.ints .i64 q) nn)], 1⟩
theorem in_t (n : Int) : RUN (st0 87 [iv n]) = (.at (sL (n) ([]) (false) ((0 : Int)))) := by kernel_rfl
theorem step_t (n : Int) (q : List Int) (nn : Bool) (i : Int) : RUN (stOf (sL n q nn i)) = (bc (decide (i < n)) (bc (bc (Nat.beq (List.length q) (List.length q)) (bc (Nat.ble (List.length q + List.length (List.map (fun r => U.int (List.headD r (U.i (0 : Int)))) [[U.i i]])) (65536 : Nat)) (bc nn true (bc nn false true)) false) false) (.at (sL (n) (q ++ List.map (fun r => U.int (List.headD r (U.i (0 : Int)))) [[U.i i]]) (bc nn true (Nat.blt (0 : Nat) (List.length (List.map (fun r => U.int (List.headD r (U.i (0 : Int)))) [[U.i i]])))) (IntKind.wrap IntKind.i64 (i + (1 : Int))))) .bad) (bc (Nat.beq (List.length q) (List.length q)) (.done (EV.lst (SyC.ints IntKind.i64 (q))) [] 0) .bad)) := by kernel_rfl
end RLin
namespace RAft
noncomputable def RUN (s : ES) : ZF := RZ 128 .nil (atS 0 128 3) [] [[(0,none),(1,none),(5,none),(6,none)]] false s

noncomputable def sL (p : List Int) (k : Int) (q : List Int) (m : Nat) (i : Int) : NS := ⟨[⟨128, 39, [(0, (EV.lst (SyC.ints IntKind.i64 (p)))), (1, (EV.v (Value.int IntKind.i64 (k)))), (5, EV.slO 0 1 m true), (6, iv i)], [.it (.code (nav [1, 1, 0, 1, 0, 0, 0] (bodyOf Try.f128))), .it (.code (nav [1, 1, 0, 1, 0, 0, 1] (bodyOf Try.f128))), .it (.inLoop (nav [1, 1, 0, 1, 0, 0] (bodyOf Try.f128))), .it (.inBlock 0), .it (.code (nav [1, 1, 1] (bodyOf Try.f128)))], [], Option.none⟩], [(0, EK.seq 3 (.ints .i64 q) true)], 1⟩
theorem in_t (p : List Int) (k : Int) : RUN (st0 128 [il p, iv k]) = (bc (bc (Nat.ble ((0 : Nat) + List.length p) (65536 : Nat)) true false) (.at (sL (p) (k) ([] ++ p) (List.length ([] ++ p)) ((0 : Int)))) .bad) := by kernel_rfl
theorem step_t (p : List Int) (k : Int) (q : List Int) (m : Nat) (i : Int) : RUN (stOf (sL p k q m i)) = (bc (decide (i < Int.ofNat (List.length p))) (bc (bc (bc (decide ((0 : Int) ≤ i)) (Nat.blt (Int.toNat i) (List.length p)) false) true false) (bc (bc (Nat.blt (Int.toNat i) (List.length p)) true false) (bc (List.getD p (Int.toNat i) (0 : Int) == k) (bc (bc (bc (decide ((0 : Int) ≤ i)) (Nat.blt (Int.toNat i) m) false) true false) (bc (Nat.blt (Int.toNat i) (List.length q)) (bc (bc (bc (decide ((0 : Int) ≤ i)) (Nat.blt (Int.toNat i) (List.length p)) false) true false) (bc (bc (Nat.blt (Int.toNat i) (List.length p)) true false) (bc (List.getD p (Int.toNat i) (0 : Int) == IntKind.wrap IntKind.i64 (k - (1 : Int))) (bc (bc (bc (decide ((0 : Int) ≤ i)) (Nat.blt (Int.toNat i) m) false) true false) (bc (Nat.blt (Int.toNat i) (List.length (List.set q (Int.toNat i) (IntKind.wrap IntKind.i64 (k - (1 : Int)))))) (.at (sL (p) (k) (List.set (List.set q (Int.toNat i) (IntKind.wrap IntKind.i64 (k - (1 : Int)))) (Int.toNat i) k) (m) (IntKind.wrap IntKind.i64 (i + (1 : Int))))) .bad) .bad) (.at (sL (p) (k) (List.set q (Int.toNat i) (IntKind.wrap IntKind.i64 (k - (1 : Int)))) (m) (IntKind.wrap IntKind.i64 (i + (1 : Int)))))) .bad) .bad) .bad) .bad) (bc (bc (bc (decide ((0 : Int) ≤ i)) (Nat.blt (Int.toNat i) (List.length p)) false) true false) (bc (bc (Nat.blt (Int.toNat i) (List.length p)) true false) (bc (List.getD p (Int.toNat i) (0 : Int) == IntKind.wrap IntKind.i64 (k - (1 : Int))) (bc (bc (bc (decide ((0 : Int) ≤ i)) (Nat.blt (Int.toNat i) m) false) true false) (bc (Nat.blt (Int.toNat i) (List.length q)) (.at (sL (p) (k) (List.set q (Int.toNat i) k) (m) (IntKind.wrap IntKind.i64 (i + (1 : Int))))) .bad) .bad) (.at (sL (p) (k) (q) (m) (IntKind.wrap IntKind.i64 (i + (1 : Int)))))) .bad) .bad)) .bad) .bad) (bc (Nat.beq m (List.length q)) (.done (EV.lst (SyC.ints IntKind.i64 (q))) [] 0) .bad)) := by kernel_rfl
end RAft
namespace RFin
noncomputable def RUN (s : ES) : ZF := RZs 144 .nil [(atS 1 96 3, [[(0,none),(3,none),(4,none)],[(1,none)]])] [] false s

noncomputable def sL (p : List Int) (k : Int) (q : List Int) (m : Nat) (i : Int) : NS := ⟨[⟨96, 22, [(0, (EV.lst (SyC.ints IntKind.i64 (p)))), (3, EV.slO 0 1 m true), (4, iv i)], [.it (.code (nav [1, 1, 0, 1, 0, 0, 0] (bodyOf Try.f96))), .it (.code (nav [1, 1, 0, 1, 0, 0, 1] (bodyOf Try.f96))), .it (.inLoop (nav [1, 1, 0, 1, 0, 0] (bodyOf Try.f96))), .it (.inBlock 0), .it (.code (nav [1, 1, 1] (bodyOf Try.f96)))], [], Option.none⟩, ⟨144, 18, [(1, (EV.v (Value.int IntKind.i64 (k))))], [.ops (opsOf (nav [1, 0] (bodyOf Try.f144))) ((opsOf (nav [1, 0] (bodyOf Try.f144))).toList.drop 1), .it (.code (nav [1, 1] (bodyOf Try.f144)))], [], Option.none⟩], [(0, EK.seq 3 (.ints .i64 q) true)], 1⟩
theorem in_t (p : List Int) (k : Int) : RUN (st0 144 [il p, iv k]) = (bc (bc (decide (Int.ofNat (List.length p) ≤ Int.ofNat (List.length p))) (decide (Int.ofNat (List.length p) ≤ (65536 : Int))) false) (.at (sL (p) (k) (zerosL (Int.toNat (Int.ofNat (List.length p)))) (List.length (zerosL (Int.toNat (Int.ofNat (List.length p))))) ((0 : Int)))) .bad) := by kernel_rfl
theorem step_t (p : List Int) (k : Int) (q : List Int) (m : Nat) (i : Int) : RUN (stOf (sL p k q m i)) = (bc (decide (i < Int.ofNat (List.length p))) (bc (bc (bc (decide ((0 : Int) ≤ i)) (Nat.blt (Int.toNat i) (List.length p)) false) true false) (bc (bc (Nat.blt (Int.toNat i) (List.length p)) true false) (bc (bc (bc (decide ((0 : Int) ≤ List.getD p (Int.toNat i) (0 : Int))) (Nat.blt (Int.toNat (List.getD p (Int.toNat i) (0 : Int))) m) false) true false) (bc (Nat.blt (Int.toNat (List.getD p (Int.toNat i) (0 : Int))) (List.length q)) (.at (sL (p) (k) (List.set q (Int.toNat (List.getD p (Int.toNat i) (0 : Int))) i) (m) (IntKind.wrap IntKind.i64 (i + (1 : Int))))) .bad) .bad) .bad) .bad) (bc (bc (bc (bc (bc (decide ((0 : Int) ≤ IntKind.wrap IntKind.i64 (k - (1 : Int)))) (Nat.blt (Int.toNat (IntKind.wrap IntKind.i64 (k - (1 : Int)))) m) false) true false) (bc (bc (Nat.blt (Int.toNat (IntKind.wrap IntKind.i64 (k - (1 : Int)))) (List.length q)) true false) (bc (bc (bc (decide ((0 : Int) ≤ k)) (Nat.blt (Int.toNat k) m) false) true false) (bc (bc (Nat.blt (Int.toNat k) (List.length q)) true false) true false) false) false) false) true false) (.done (EV.v (Value.bool (decide (List.getD q (Int.toNat k) (0 : Int) < List.getD q (Int.toNat (IntKind.wrap IntKind.i64 (k - (1 : Int)))) (0 : Int))))) [] 0) .bad)) := by kernel_rfl
end RFin
namespace RTrn
noncomputable def RUN (s : ES) : ZF := RZ 129 .nil (atS 0 129 4) [] [[(0,none),(3,none),(4,none),(5,none)]] false s

noncomputable def sL (p : List Int) (q : List Int) (z : Int) (m : Nat) (i : Int) : NS := ⟨[⟨129, 29, [(0, (EV.lst (SyC.ints IntKind.i64 (p)))), (3, iv z), (4, EV.slO 0 1 m true), (5, iv i)], [.it (.code (nav [1, 1, 1, 0, 1, 0, 0, 0] (bodyOf Try.f129))), .it (.code (nav [1, 1, 1, 0, 1, 0, 0, 1] (bodyOf Try.f129))), .it (.inLoop (nav [1, 1, 1, 0, 1, 0, 0] (bodyOf Try.f129))), .it (.inBlock 0), .it (.code (nav [1, 1, 1, 1] (bodyOf Try.f129)))], [], Option.none⟩], [(0, EK.seq 3 (.ints .i64 q) true)], 1⟩
theorem in_t (p : List Int) : RUN (st0 129 [il p]) = (bc (bc (decide (Int.ofNat (List.length p) ≤ Int.ofNat (List.length p))) (decide (Int.ofNat (List.length p) ≤ (65536 : Int))) false) (.at (sL (p) (zerosL (Int.toNat (Int.ofNat (List.length p)))) (Int.ofNat (List.length p)) (List.length (zerosL (Int.toNat (Int.ofNat (List.length p))))) ((0 : Int)))) .bad) := by kernel_rfl
theorem step_t (p : List Int) (q : List Int) (z : Int) (m : Nat) (i : Int) : RUN (stOf (sL p q z m i)) = (bc (decide (i < z)) (bc (bc (bc (decide ((0 : Int) ≤ i)) (Nat.blt (Int.toNat i) (List.length p)) false) true false) (bc (bc (Nat.blt (Int.toNat i) (List.length p)) true false) (bc (bc (bc (decide ((0 : Int) ≤ IntKind.wrap IntKind.i64 (IntKind.wrap IntKind.i64 (z - (1 : Int)) - i))) (Nat.blt (Int.toNat (IntKind.wrap IntKind.i64 (IntKind.wrap IntKind.i64 (z - (1 : Int)) - i))) m) false) true false) (bc (Nat.blt (Int.toNat (IntKind.wrap IntKind.i64 (IntKind.wrap IntKind.i64 (z - (1 : Int)) - i))) (List.length q)) (.at (sL (p) (List.set q (Int.toNat (IntKind.wrap IntKind.i64 (IntKind.wrap IntKind.i64 (z - (1 : Int)) - i))) (IntKind.wrap IntKind.i64 (IntKind.wrap IntKind.i64 (z - (1 : Int)) - List.getD p (Int.toNat i) (0 : Int)))) (z) (m) (IntKind.wrap IntKind.i64 (i + (1 : Int))))) .bad) .bad) .bad) .bad) (bc (Nat.beq m (List.length q)) (.done (EV.lst (SyC.ints IntKind.i64 (q))) [] 0) .bad)) := by kernel_rfl
end RTrn
namespace RFlt
noncomputable def RUN (s : ES) : ZF := RZ 132 .nil (atS 0 132 2) [] [[(0,none),(1,none),(5,none)]] false s

noncomputable def sL (p : List Int) (k : Int) (i : Int) : NS := ⟨[⟨132, 24, [(0, (EV.lst (SyC.ints IntKind.i64 (p)))), (1, (EV.v (Value.int IntKind.i64 (k)))), (5, iv i)], [.it (.code (nav [1, 0, 1, 0, 0, 0] (bodyOf Try.f132))), .it (.code (nav [1, 0, 1, 0, 0, 1] (bodyOf Try.f132))), .it (.inLoop (nav [1, 0, 1, 0, 0] (bodyOf Try.f132))), .it (.inBlock 0), .it (.code (nav [1, 1] (bodyOf Try.f132)))], [], Option.none⟩], [], 0⟩
theorem in_t (p : List Int) (k : Int) : RUN (st0 132 [il p, iv k]) = (.at (sL (p) (k) ((1 : Int)))) := by kernel_rfl
theorem step_t (p : List Int) (k : Int) (i : Int) : RUN (stOf (sL p k i)) = (bc (decide (i < Int.ofNat (List.length p))) (bc (bc (bc (bc (bc (decide ((0 : Int) ≤ i)) (Nat.blt (Int.toNat i) (List.length p)) false) true false) (bc (bc (Nat.blt (Int.toNat i) (List.length p)) true false) (bc (bc (bc (decide ((0 : Int) ≤ IntKind.wrap IntKind.i64 (i - (1 : Int)))) (Nat.blt (Int.toNat (IntKind.wrap IntKind.i64 (i - (1 : Int)))) (List.length p)) false) true false) (bc (bc (Nat.blt (Int.toNat (IntKind.wrap IntKind.i64 (i - (1 : Int)))) (List.length p)) true false) true false) false) false) false) true false) (bc (List.getD p (Int.toNat i) (0 : Int) != IntKind.wrap IntKind.i64 (List.getD p (Int.toNat (IntKind.wrap IntKind.i64 (i - (1 : Int)))) (0 : Int) + k)) (.done (EV.v (Value.bool false)) [] 0) (.at (sL (p) (k) (IntKind.wrap IntKind.i64 (i + (1 : Int)))))) .bad) (.done (EV.v (Value.bool true)) [] 0)) := by kernel_rfl
end RFlt
end Go.Proofs.Ytooimphimnagaaa.Ev
namespace Go.Proofs.Ytooimphimnagaaa.Ev
open Go.Proofs
variable {n : Nat}
namespace RLin
noncomputable def rng (i : Nat) : List Int := (List.range i).map fun x => ((x : Nat) : Int)
theorem rng_len (i : Nat) : (rng i).length = i := by unfold rng; rw [List.length_map, List.length_range]
theorem rng_succ (i : Nat) : rng i ++ [(i : Int)] = rng (i + 1) := by unfold rng; rw [List.range_succ, List.map_append]; rfl
theorem step {nn : Bool} {i : Nat} (hn : n ≤ 100) (hi : i < n) : RUN (stOf (sL n (rng i) nn i)) = .at (sL n (rng (i + 1)) true (i + 1 : Nat)) := by
  rw [step_t]; have m1 : List.map (fun r => U.int (List.headD r (U.i 0))) [[U.i (i : Int)]] = [(i : Int)] := rfl; rw [m1, rng_succ, rng_len, nn_ok, List.length_singleton]; have e1 : bc nn true (Nat.blt 0 1) = true := by cases nn <;> rfl
  simp (disch := omega) only [Nat.add_eq, eqSy_self, eqN_self, bc_same, List.length_cons, ofn, wrap_in, dt, df, bltD, bltN, ble_of, bleN, beqD, bc_t, bc_f, nn_ok, Nat.zero_add, to_nat, Int.zero_add, Int.sub_zero, Int.sub_self, Int.cast_ofNat_Int, Int.natCast_zero, Int.toNat_zero, List.take_zero, List.nil_append, List.length_append, List.length_nil, e1]; rfl
theorem last {nn : Bool} {i : Nat} (hi : n ≤ i) : RUN (stOf (sL n (rng i) nn i)) = .done (il (rng i)) [] 0 := by
  rw [step_t]; simp (disch := omega) only [Nat.add_eq, eqSy_self, eqN_self, bc_same, List.length_cons, ofn, wrap_in, dt, df, bltD, bltN, ble_of, bleN, beqD, bc_t, bc_f, nn_ok, Nat.zero_add, to_nat, Int.zero_add, Int.sub_zero, Int.sub_self, Int.cast_ofNat_Int, Int.natCast_zero, Int.toNat_zero, List.take_zero, List.nil_append, List.length_append, List.length_nil]
theorem loop (hn : n ≤ 100) : ∀ (k i : Nat) (nn : Bool), i + k = n → EndZ 87 .nil false (stOf (sL n (rng i) nn i)) (il (rng n)) [] 0
  | 0, i, nn, h => by
    obtain rfl : i = n := by omega
    exact .done (last (Nat.le_refl _))
  | k + 1, i, nn, h => .at (.nil _) (step hn (by omega)) (loop hn k (i + 1) true (by omega))
theorem ends {n : Int} (h0 : 0 ≤ n) (hn : n ≤ 100) : EndZ 87 .nil false (st0 87 [iv n]) (il (pR (Pm.one n.toNat))) [] 0 := by
  obtain ⟨n, rfl⟩ := Int.eq_ofNat_of_zero_le h0; exact .at (.nil _) (in_t n) (loop (by omega) n 0 false (by omega))
end RLin
noncomputable def spRLin : ZCT := fun ax => match ax with
  | [.v (.int .i64 n)] => some ⟨decide (0 ≤ n ∧ n ≤ 100), il (pR (Pm.one n.toNat)), [], 0⟩
  | _ => none
theorem spRLin_ok : ZCtOk Try.prog 87 spRLin := fun γ w us ax r hs hc hax hN hfz => by
  unfold spRLin at hs; split at hs
  case h_2 => cases hs
  rename_i n; obtain ⟨rfl⟩ := Option.some.inj hs; have hc_0 : decide (0 ≤ n ∧ n ≤ 100) = true := hc; have hc := of_decide_eq_true hc_0; exact EndZ.calls (RLin.ends hc.1 hc.2) (.nil _) (by kernel_rfl) hax hN hfz
namespace RAft
noncomputable def aq (p : List Int) (k : Int) (i : Nat) : List Int := aftL (p.take i) k ++ p.drop i
theorem aq_len (p : List Int) (k : Int) (i : Nat) : (aq p k i).length = p.length := by
  unfold aq aftL; rw [List.length_append, List.length_map, List.length_take, List.length_drop]; omega
noncomputable def av (k x : Int) : Int := bc (decide (x = k)) (k - 1) (bc (decide (x = k - 1)) k x)
theorem aq_set {p : List Int} {k : Int} {i : Nat} (hi : i < p.length) (v : Int) (hv : v = av k p[i]) : (aq p k i).set i v = aq p k (i + 1) := by
  unfold aq; have h1 : (aftL (p.take i) k).length = i := by unfold aftL; rw [List.length_map, List.length_take]; omega
  rw [List.drop_eq_getElem_cons hi]; have h2 := set_mid (aftL (p.take i) k) [p[i]] (p.drop (i + 1)) 0 v (by simp); rw [h1, show i + 0 = i from rfl] at h2
  rw [show aftL (p.take i) k ++ p[i] :: p.drop (i + 1) = aftL (p.take i) k ++ ([p[i]] ++ p.drop (i + 1)) from rfl, h2]
  have h3 : aftL (p.take (i + 1)) k = aftL (p.take i) k ++ [av k p[i]] := by
    rw [List.take_succ_eq_append_getElem hi]; unfold aftL; rw [List.map_append]; rfl
  rw [h3, hv, List.append_assoc]; rfl
theorem aq_keep {p : List Int} {k : Int} {i : Nat} (hi : i < p.length) (hv : av k p[i] = p[i]) : aq p k i = aq p k (i + 1) := by
  have h3 : aftL (p.take (i + 1)) k = aftL (p.take i) k ++ [av k p[i]] := by
    rw [List.take_succ_eq_append_getElem hi]; unfold aftL; rw [List.map_append]; rfl
  unfold aq; rw [h3, hv, List.drop_eq_getElem_cons hi, List.append_assoc]; rfl
theorem step {p : List Int} {k : Int} {i : Nat} (hp : p.length ≤ 1000) (h1 : -1000 ≤ k) (h2 : k ≤ 1000) (hi : i < p.length) : RUN (stOf (sL p k (aq p k i) p.length i)) = .at (sL p k (aq p k (i + 1)) p.length (i + 1 : Nat)) := by
  rw [step_t]; have e : p.getD i 0 = p[i] := getD_at hi; have e0 : ((i : Int)).toNat = i := rfl; have hl := aq_len p k i; rw [e0, e, wrap_in (k - 1) (by omega) (by omega)]
  by_cases g1 : p[i] = k
  · have b1 : (p[i] == k) = true := by simp [g1]
    have b2 : (p[i] == k - 1) = false := by simp [g1]; omega
    rw [b1, b2, aq_set hi (k - 1) (by unfold av; rw [dt g1]; rfl)]; simp (disch := omega) only [Nat.add_eq, eqSy_self, eqN_self, bc_same, List.length_cons, ofn, wrap_in, dt, df, bltD, bltN, ble_of, bleN, beqD, bc_t, bc_f, nn_ok, Nat.zero_add, to_nat, Int.zero_add, Int.sub_zero, Int.sub_self, Int.cast_ofNat_Int, Int.natCast_zero, Int.toNat_zero, List.take_zero, List.nil_append, List.length_append, List.length_nil]; rfl
  · have b1 : (p[i] == k) = false := by simp [g1]
    by_cases g2 : p[i] = k - 1
    · have b2 : (p[i] == k - 1) = true := by simp [g2]
      rw [b1, b2, aq_set hi k (by unfold av; rw [df g1, dt g2]; rfl)]; simp (disch := omega) only [Nat.add_eq, eqSy_self, eqN_self, bc_same, List.length_cons, ofn, wrap_in, dt, df, bltD, bltN, ble_of, bleN, beqD, bc_t, bc_f, nn_ok, Nat.zero_add, to_nat, Int.zero_add, Int.sub_zero, Int.sub_self, Int.cast_ofNat_Int, Int.natCast_zero, Int.toNat_zero, List.take_zero, List.nil_append, List.length_append, List.length_nil]; rfl
    · have b2 : (p[i] == k - 1) = false := by simp [g2]
      rw [b1, b2, ← aq_keep hi (by unfold av; rw [df g1, df g2]; rfl)]; simp (disch := omega) only [Nat.add_eq, eqSy_self, eqN_self, bc_same, List.length_cons, ofn, wrap_in, dt, df, bltD, bltN, ble_of, bleN, beqD, bc_t, bc_f, nn_ok, Nat.zero_add, to_nat, Int.zero_add, Int.sub_zero, Int.sub_self, Int.cast_ofNat_Int, Int.natCast_zero, Int.toNat_zero, List.take_zero, List.nil_append, List.length_append, List.length_nil]; rfl
theorem last {p : List Int} {k : Int} {i : Nat} (hi : p.length ≤ i) : RUN (stOf (sL p k (aq p k i) p.length i)) = .done (il (aftL p k)) [] 0 := by
  rw [step_t, aq_len]; have : aq p k i = aftL p k := by unfold aq; rw [List.take_of_length_le hi, List.drop_of_length_le hi, List.append_nil]
  rw [this]; simp (disch := omega) only [Nat.add_eq, eqSy_self, eqN_self, bc_same, List.length_cons, ofn, wrap_in, dt, df, bltD, bltN, ble_of, bleN, beqD, bc_t, bc_f, nn_ok, Nat.zero_add, to_nat, Int.zero_add, Int.sub_zero, Int.sub_self, Int.cast_ofNat_Int, Int.natCast_zero, Int.toNat_zero, List.take_zero, List.nil_append, List.length_append, List.length_nil]
theorem loop {p : List Int} {k : Int} (hp : p.length ≤ 1000) (h1 : -1000 ≤ k) (h2 : k ≤ 1000) : ∀ (d i : Nat), i + d = p.length → EndZ 128 .nil false (stOf (sL p k (aq p k i) p.length i)) (il (aftL p k)) [] 0
  | 0, i, h => .done (last (by omega))
  | d + 1, i, h => .at (.nil _) (step hp h1 h2 (by omega)) (loop hp h1 h2 d (i + 1) (by omega))
theorem ends {p : List Int} {k : Int} (hp : p.length ≤ 1000) (h1 : -1000 ≤ k) (h2 : k ≤ 1000) : EndZ 128 .nil false (st0 128 [il p, iv k]) (il (aftL p k)) [] 0 := by
  have h := in_t p k; rw [List.nil_append] at h; simp (disch := omega) only [Nat.add_eq, eqSy_self, eqN_self, bc_same, List.length_cons, ofn, wrap_in, dt, df, bltD, bltN, ble_of, bleN, beqD, bc_t, bc_f, nn_ok, Nat.zero_add, to_nat, Int.zero_add, Int.sub_zero, Int.sub_self, Int.cast_ofNat_Int, Int.natCast_zero, Int.toNat_zero, List.take_zero, List.nil_append, List.length_append, List.length_nil] at h; exact .at (.nil _) h (loop hp h1 h2 p.length 0 (by omega))
end RAft
noncomputable def spRAft : ZCT := fun ax => match ax with
  | [.lst (.ints .i64 p), .v (.int .i64 k)] => some ⟨decide (p.length ≤ 1000 ∧ -1000 ≤ k ∧ k ≤ 1000), il (aftL p k), [], 0⟩
  | _ => none
theorem spRAft_ok : ZCtOk Try.prog 128 spRAft := fun γ w us ax r hs hc hax hN hfz => by
  unfold spRAft at hs; split at hs
  case h_2 => cases hs
  rename_i p k; obtain ⟨rfl⟩ := Option.some.inj hs; have hc_0 : decide (p.length ≤ 1000 ∧ -1000 ≤ k ∧ k ≤ 1000) = true := hc; have hc := of_decide_eq_true hc_0; exact EndZ.calls (RAft.ends hc.1 hc.2.1 hc.2.2) (.nil _) (by kernel_rfl) hax hN hfz
namespace RFin
theorem step {p : Pm n} {k : Int} {i : Nat} (hn : n ≤ 1000) (hi : i < n) : RUN (stOf (sL (pR p) k (endS (pR p) i) n i)) = .at (sL (pR p) k (endS (pR p) (i + 1)) n (i + 1 : Nat)) := by
  rw [step_t, endS_len, pR_len]; have e0 : ((i : Int)).toNat = i := rfl; have e1 : ((p.f i : Int)).toNat = p.f i := rfl; have h1 := p.lt hi; have e2 : (endS (pR p) i).set (p.f i) (i : Int) = endS (pR p) (i + 1) := by
    show _ = (endS (pR p) i).set ((pR p).getD i 0).toNat (i : Int); rw [pR_get p hi, e1]
  rw [e0, pR_get p hi, e1, e2]; simp (disch := omega) only [Nat.add_eq, eqSy_self, eqN_self, bc_same, List.length_cons, ofn, wrap_in, dt, df, bltD, bltN, ble_of, bleN, beqD, bc_t, bc_f, nn_ok, Nat.zero_add, to_nat, Int.zero_add, Int.sub_zero, Int.sub_self, Int.cast_ofNat_Int, Int.natCast_zero, Int.toNat_zero, List.take_zero, List.nil_append, List.length_append, List.length_nil]; rfl
theorem last {p : Pm n} {k : Nat} {i : Nat} (hn : n ≤ 1000) (hi : n ≤ i) (hk : 0 < k ∧ k < n) : RUN (stOf (sL (pR p) k (pR p.inv) n i)) = .done (bv (finB (pR p) k)) [] 0 := by
  obtain ⟨j, rfl⟩ : ∃ j, k = j + 1 := ⟨k - 1, by omega⟩; rw [step_t, pR_len, pR_len]; have w1 : IntKind.i64.wrap (((j + 1 : Nat) : Int) - 1) = (j : Int) := by rw [wrap_in _ (by omega) (by omega)]; omega
  have e1 : ((j : Int)).toNat = j := rfl; have e2 : (((j + 1 : Nat) : Int)).toNat = j + 1 := rfl; rw [w1, e1, e2, pR_get p.inv (show j < n by omega), pR_get p.inv (show j + 1 < n by omega), finB_pR]; have e3 : decide ((p.inv.f (j + 1) : Int) < (p.inv.f j : Int)) = decide (p.g (j + 1) < p.g (j + 1 - 1)) := by
    rw [show j + 1 - 1 = j by omega]
    by_cases g : p.g (j + 1) < p.g j
    · rw [dt g]; exact decide_eq_true (show ((p.g (j + 1) : Nat) : Int) < (p.g j : Nat) by omega)
    · rw [df g]; exact decide_eq_false (show ¬ ((p.g (j + 1) : Nat) : Int) < (p.g j : Nat) by omega)
  rw [e3]; simp (disch := omega) only [Nat.add_eq, eqSy_self, eqN_self, bc_same, List.length_cons, ofn, wrap_in, dt, df, bltD, bltN, ble_of, bleN, beqD, bc_t, bc_f, nn_ok, Nat.zero_add, to_nat, Int.zero_add, Int.sub_zero, Int.sub_self, Int.cast_ofNat_Int, Int.natCast_zero, Int.toNat_zero, List.take_zero, List.nil_append, List.length_append, List.length_nil]
theorem loop {p : Pm n} {k : Nat} (hn : n ≤ 1000) (hk : 0 < k ∧ k < n) : ∀ (d i : Nat), i + d = n → EndZ 144 .nil false (stOf (sL (pR p) k (endS (pR p) i) n i)) (bv (finB (pR p) k)) [] 0
  | 0, i, h => by
    obtain rfl : i = n := by omega
    rw [endS_pR]; exact .done (last hn (Nat.le_refl _) hk)
  | d + 1, i, h => .at (.nil _) (step hn (by omega)) (loop hn hk d (i + 1) (by omega))
theorem ends {p : Pm n} {k : Nat} (hn : n ≤ 1000) (hk : 0 < k ∧ k < n) : EndZ 144 .nil false (st0 144 [il (pR p), iv k]) (bv (finB (pR p) k)) [] 0 := by
  have h := in_t (pR p) k; have z1 : ∀ m, (zerosL m).length = m := fun m => by unfold zerosL; simp
  rw [z1, pR_len] at h; simp (disch := omega) only [Nat.add_eq, eqSy_self, eqN_self, bc_same, List.length_cons, ofn, wrap_in, dt, df, bltD, bltN, ble_of, bleN, beqD, bc_t, bc_f, nn_ok, Nat.zero_add, to_nat, Int.zero_add, Int.sub_zero, Int.sub_self, Int.cast_ofNat_Int, Int.natCast_zero, Int.toNat_zero, List.take_zero, List.nil_append, List.length_append, List.length_nil] at h; have e : zerosL n = endS (pR p) 0 := by unfold endS; rw [pR_len]
  rw [e] at h; exact .at (.nil _) h (loop hn hk n 0 (by omega))
theorem endsL {p : List Int} {k : Int} (hp : PmL p) (h1 : 0 < k) (h2 : k < p.length) : EndZ 144 .nil false (st0 144 [il p, iv k]) (bv (finB p k.toNat)) [] 0 := by
  obtain ⟨k, rfl⟩ := Int.eq_ofNat_of_zero_le (show 0 ≤ k by omega); have h := ends (p := decR p.length p) (k := k) (by have := hp.1; omega) ⟨by omega, by omega⟩; rw [← hp.get] at h; exact h
end RFin
noncomputable def spRFin : ZCT := fun ax => match ax with
  | [.lst (.ints .i64 p), .v (.int .i64 k)] => some ⟨decide (PmL p ∧ 0 < k ∧ k < p.length), bv (finB p k.toNat), [], 0⟩
  | _ => none
theorem spRFin_ok : ZCtOk Try.prog 144 spRFin := fun γ w us ax r hs hc hax hN hfz => by
  unfold spRFin at hs; split at hs
  case h_2 => cases hs
  rename_i p k; obtain ⟨rfl⟩ := Option.some.inj hs; have hc_0 : decide (PmL p ∧ 0 < k ∧ k < p.length) = true := hc; have hc := of_decide_eq_true hc_0; exact EndZ.calls (RFin.endsL hc.1 hc.2.1 hc.2.2) (.nil _) (by kernel_rfl) hax hN hfz
namespace RTrn
noncomputable def rtS (p : Pm n) : Nat → List Int
  | 0 => zerosL n
  | i + 1 => (rtS p i).set (n - 1 - i) ((n : Int) - 1 - (p.f i : Int))
theorem rtS_len (p : Pm n) : ∀ i, (rtS p i).length = n
  | 0 => by unfold rtS zerosL; simp
  | i + 1 => by unfold rtS; rw [List.length_set, rtS_len p i]
theorem rtS_get (p : Pm n) : ∀ i, i ≤ n → ∀ x, x < n → n - 1 - x < i → (rtS p i).getD x 0 = (n : Int) - 1 - (p.f (n - 1 - x) : Int)
  | 0, _, x, hx, h => by omega
  | i + 1, hi, x, hx, h => by
    unfold rtS; rw [gset2, rtS_len]
    by_cases e : x = n - 1 - i
    · rw [if_pos ⟨e, by omega⟩, show n - 1 - x = i by omega]
    · rw [if_neg (fun h => e h.1)]; exact rtS_get p i (by omega) x hx (by omega)
theorem rtS_pR (p : Pm n) : rtS p n = pR p.trn := pR_ext (rtS_len p n) fun x hx => by
  rw [rtS_get p n (Nat.le_refl _) x hx (by omega)]; show _ = ((Pm.rv n (p.f (Pm.rv n x)) : Nat) : Int); have h1 : Pm.rv n x = n - 1 - x := by unfold Pm.rv; rw [if_pos hx]
  have h2 := p.lt (show n - 1 - x < n by omega); rw [h1]; unfold Pm.rv; rw [if_pos h2]; omega
theorem step {p : Pm n} {i : Nat} (hn : n ≤ 1000) (hi : i < n) : RUN (stOf (sL (pR p) (rtS p i) n n i)) = .at (sL (pR p) (rtS p (i + 1)) n n (i + 1 : Nat)) := by
  rw [step_t, rtS_len, pR_len]; have e0 : ((i : Int)).toNat = i := rfl; have h1 := p.lt hi; rw [e0, pR_get p hi]; have w0 : IntKind.i64.wrap ((n : Int) - 1) = (n : Int) - 1 := wrap_in _ (by omega) (by omega); have w1 : IntKind.i64.wrap ((n : Int) - 1 - (i : Int)) = ((n - 1 - i : Nat) : Int) := by rw [wrap_in _ (by omega) (by omega)]; omega
  have w2 : IntKind.i64.wrap ((n : Int) - 1 - (p.f i : Int)) = (n : Int) - 1 - (p.f i : Int) := wrap_in _ (by omega) (by omega); have e2 : (((n - 1 - i : Nat) : Int)).toNat = n - 1 - i := rfl; have e3 : (rtS p i).set (n - 1 - i) ((n : Int) - 1 - (p.f i : Int)) = rtS p (i + 1) := rfl; rw [w0, w1, w2, e2, e3]
  simp (disch := omega) only [Nat.add_eq, eqSy_self, eqN_self, bc_same, List.length_cons, ofn, wrap_in, dt, df, bltD, bltN, ble_of, bleN, beqD, bc_t, bc_f, nn_ok, Nat.zero_add, to_nat, Int.zero_add, Int.sub_zero, Int.sub_self, Int.cast_ofNat_Int, Int.natCast_zero, Int.toNat_zero, List.take_zero, List.nil_append, List.length_append, List.length_nil]; rfl
theorem last {p : Pm n} {q : List Int} {i : Nat} (hi : n ≤ i) (hq : q.length = n) : RUN (stOf (sL (pR p) q n n i)) = .done (il q) [] 0 := by
  rw [step_t]; simp (disch := omega) only [Nat.add_eq, eqSy_self, eqN_self, bc_same, List.length_cons, ofn, wrap_in, dt, df, bltD, bltN, ble_of, bleN, beqD, bc_t, bc_f, nn_ok, Nat.zero_add, to_nat, Int.zero_add, Int.sub_zero, Int.sub_self, Int.cast_ofNat_Int, Int.natCast_zero, Int.toNat_zero, List.take_zero, List.nil_append, List.length_append, List.length_nil]
theorem loop {p : Pm n} (hn : n ≤ 1000) : ∀ (d i : Nat), i + d = n → EndZ 129 .nil false (stOf (sL (pR p) (rtS p i) n n i)) (il (trnL (pR p))) [] 0
  | 0, i, h => by
    obtain rfl : i = n := by omega
    rw [rtS_pR, trnL_pR]; exact .done (last (Nat.le_refl _) (pR_len _))
  | d + 1, i, h => .at (.nil _) (step hn (by omega)) (loop hn d (i + 1) (by omega))
theorem ends {p : Pm n} (hn : n ≤ 1000) : EndZ 129 .nil false (st0 129 [il (pR p)]) (il (trnL (pR p))) [] 0 := by
  have h := in_t (pR p); have z1 : ∀ m, (zerosL m).length = m := fun m => by unfold zerosL; simp
  rw [z1, pR_len] at h; simp (disch := omega) only [Nat.add_eq, eqSy_self, eqN_self, bc_same, List.length_cons, ofn, wrap_in, dt, df, bltD, bltN, ble_of, bleN, beqD, bc_t, bc_f, nn_ok, Nat.zero_add, to_nat, Int.zero_add, Int.sub_zero, Int.sub_self, Int.cast_ofNat_Int, Int.natCast_zero, Int.toNat_zero, List.take_zero, List.nil_append, List.length_append, List.length_nil] at h; exact .at (.nil _) h (loop hn n 0 (by omega))
theorem endsL {p : List Int} (hp : PmL p) : EndZ 129 .nil false (st0 129 [il p]) (il (trnL p)) [] 0 := by
  have h := ends (p := decR p.length p) (by have := hp.1; omega); rw [← hp.get] at h; exact h
end RTrn
noncomputable def spRTrn : ZCT := fun ax => match ax with
  | [.lst (.ints .i64 p)] => some ⟨decide (PmL p), il (trnL p), [], 0⟩
  | _ => none
theorem spRTrn_ok : ZCtOk Try.prog 129 spRTrn := fun γ w us ax r hs hc hax hN hfz => by
  unfold spRTrn at hs; split at hs
  case h_2 => cases hs
  rename_i p; obtain ⟨rfl⟩ := Option.some.inj hs; have hc_0 : decide (PmL p) = true := hc; have hc := of_decide_eq_true hc_0; exact EndZ.calls (RTrn.endsL hc) (.nil _) (by kernel_rfl) hax hN hfz
namespace RFlt
theorem step {p : Pm n} {k : Int} {i : Nat} (hn : n ≤ 1000) (hk : k = 1 ∨ k = -1) (h0 : 0 < i) (hi : i < n) : RUN (stOf (sL (pR p) k i)) = bc (decide ((p.f i : Int) = (p.f (i - 1) : Int) + k)) (.at (sL (pR p) k (i + 1 : Nat))) (.done (bv false) [] 0) := by
  obtain ⟨j, rfl⟩ : ∃ j, i = j + 1 := ⟨i - 1, by omega⟩; rw [step_t, pR_len]; have w1 : IntKind.i64.wrap (((j + 1 : Nat) : Int) - 1) = (j : Int) := by rw [wrap_in _ (by omega) (by omega)]; omega
  have e1 : ((j : Int)).toNat = j := rfl; have e2 : (((j + 1 : Nat) : Int)).toNat = j + 1 := rfl; have l1 := p.lt hi; have l2 := p.lt (show j < n by omega); rw [w1, e1, e2, pR_get p hi, pR_get p (show j < n by omega), wrap_in ((p.f j : Int) + k) (by rcases hk with h | h <;> omega) (by rcases hk with h | h <;> omega), show j + 1 - 1 = j by omega]
  by_cases g : (p.f (j + 1) : Int) = (p.f j : Int) + k
  · have b : ((p.f (j + 1) : Int) != (p.f j : Int) + k) = false := by simp [g]
    rw [b, dt g]; simp (disch := omega) only [Nat.add_eq, eqSy_self, eqN_self, bc_same, List.length_cons, ofn, wrap_in, dt, df, bltD, bltN, ble_of, bleN, beqD, bc_t, bc_f, nn_ok, Nat.zero_add, to_nat, Int.zero_add, Int.sub_zero, Int.sub_self, Int.cast_ofNat_Int, Int.natCast_zero, Int.toNat_zero, List.take_zero, List.nil_append, List.length_append, List.length_nil]; rfl
  · have b : ((p.f (j + 1) : Int) != (p.f j : Int) + k) = true := by simp [g]
    rw [b, df g]; simp (disch := omega) only [Nat.add_eq, eqSy_self, eqN_self, bc_same, List.length_cons, ofn, wrap_in, dt, df, bltD, bltN, ble_of, bleN, beqD, bc_t, bc_f, nn_ok, Nat.zero_add, to_nat, Int.zero_add, Int.sub_zero, Int.sub_self, Int.cast_ofNat_Int, Int.natCast_zero, Int.toNat_zero, List.take_zero, List.nil_append, List.length_append, List.length_nil]
theorem last {p : Pm n} {k : Int} {i : Nat} (hi : n ≤ i) : RUN (stOf (sL (pR p) k i)) = .done (bv true) [] 0 := by
  rw [step_t, pR_len]; simp (disch := omega) only [Nat.add_eq, eqSy_self, eqN_self, bc_same, List.length_cons, ofn, wrap_in, dt, df, bltD, bltN, ble_of, bleN, beqD, bc_t, bc_f, nn_ok, Nat.zero_add, to_nat, Int.zero_add, Int.sub_zero, Int.sub_self, Int.cast_ofNat_Int, Int.natCast_zero, Int.toNat_zero, List.take_zero, List.nil_append, List.length_append, List.length_nil]
theorem loop {p : Pm n} {k : Int} {b : Bool} (hn : n ≤ 1000) (hk : k = 1 ∨ k = -1) (hb : b = true ↔ ∀ j, 0 < j → j < n → (p.f j : Int) = (p.f (j - 1) : Int) + k) : ∀ (d i : Nat), i + d = n → 0 < i → (∀ j, 0 < j → j < i → (p.f j : Int) = (p.f (j - 1) : Int) + k) → EndZ 132 .nil false (stOf (sL (pR p) k i)) (bv b) [] 0
  | 0, i, h, h0, hj => by
    have : b = true := hb.2 fun j g1 g2 => hj j g1 (by omega); subst this; exact .done (last (by omega))
  | d + 1, i, h, h0, hj => by
    have hs := step (p := p) hn hk h0 (show i < n by omega)
    by_cases g : (p.f i : Int) = (p.f (i - 1) : Int) + k
    · rw [dt g, bc_t] at hs; exact .at (.nil _) hs (loop hn hk hb d (i + 1) (by omega) (by omega) fun j g1 g2 => by
        by_cases e : j = i
        · rw [e]; exact g
        · exact hj j g1 (by omega))
    · rw [df g, bc_f] at hs; have : b = false := by
        cases b with
        | false => rfl
        | true => exact absurd (hb.1 rfl i h0 (by omega)) g
      subst this; exact .done hs
theorem flat_one (p : Pm n) : flL (pR p) 1 = true ↔ ∀ j, 0 < j → j < n → (p.f j : Int) = (p.f (j - 1) : Int) + 1 := by
  rw [flL_one, decide_eq_true_iff]; constructor
  · intro h j g1 g2; rw [h]; show (j : Int) = ((j - 1 : Nat) : Int) + 1; omega
  · intro h; exact Pm.one_of fun i g1 g2 hb => by
      have := h i g1 g2; unfold Pm.beg at hb; omega
theorem flat_del (p : Pm n) : flL (pR p) (-1) = true ↔ ∀ j, 0 < j → j < n → (p.f j : Int) = (p.f (j - 1) : Int) + (-1) := by
  rw [flL_del, decide_eq_true_iff]; constructor
  · intro h j g1 g2; rw [h]; show ((Pm.rv n j : Nat) : Int) = ((Pm.rv n (j - 1) : Nat) : Int) + (-1); unfold Pm.rv; rw [if_pos g2, if_pos (by omega)]; omega
  · intro h; exact beg_del fun i g1 g2 => by
      have := h i g1 g2; unfold Pm.beg; omega
theorem ends {p : Pm n} {k : Int} (hn : n ≤ 1000) (h1 : 1 ≤ n) (hk : k = 1 ∨ k = -1) : EndZ 132 .nil false (st0 132 [il (pR p), iv k]) (bv (flL (pR p) k)) [] 0 := by
  have hb : flL (pR p) k = true ↔ ∀ j, 0 < j → j < n → (p.f j : Int) = (p.f (j - 1) : Int) + k := by
    rcases hk with h | h <;> subst h
    · exact flat_one p
    · exact flat_del p
  exact .at (.nil _) (in_t (pR p) k) (loop hn hk hb (n - 1) 1 (by omega) (by omega) fun j g1 g2 => by omega)
theorem endsL {p : List Int} {k : Int} (hp : PmL p) (h1 : 1 ≤ p.length) (hk : k = 1 ∨ k = -1) : EndZ 132 .nil false (st0 132 [il p, iv k]) (bv (flL p k)) [] 0 := by
  have h := ends (p := decR p.length p) (k := k) (by have := hp.1; omega) h1 hk; rw [← hp.get] at h; exact h
end RFlt
noncomputable def spRFlt : ZCT := fun ax => match ax with
  | [.lst (.ints .i64 p), .v (.int .i64 k)] => some ⟨decide (PmL p ∧ 1 ≤ p.length ∧ (k = 1 ∨ k = -1)), bv (flL p k), [], 0⟩
  | _ => none
theorem spRFlt_ok : ZCtOk Try.prog 132 spRFlt := fun γ w us ax r hs hc hax hN hfz => by
  unfold spRFlt at hs; split at hs
  case h_2 => cases hs
  rename_i p k; obtain ⟨rfl⟩ := Option.some.inj hs; have hc_0 : decide (PmL p ∧ 1 ≤ p.length ∧ (k = 1 ∨ k = -1)) = true := hc; have hc := of_decide_eq_true hc_0; exact EndZ.calls (RFlt.endsL hc.1 hc.2.1 hc.2.2) (.nil _) (by kernel_rfl) hax hN hfz
end Go.Proofs.Ytooimphimnagaaa.Ev
namespace Go.Proofs.Ytooimphimnagaaa.Ev
open Go.Proofs
noncomputable def ctAF : Tr ZCC := (Tr.nil.put 128 (some (dC spRAft))).put 144 (some (dC spRFin))
theorem ctAF_ok : ZCtsOk Try.prog ctAF := ((ZCtsOk.nil _).add rfl spRAft_ok).add rfl spRFin_ok
namespace RWo
noncomputable def RUN (s : ES) : ZF := RZs 130 ctAF [(atS 1 87 3, [[(0,none),(3,some (1, 3, .ints .i64 [])),(4,none)],[(0,none),(1,none)]]), (atS 0 130 3, [[(0,none),(1,none),(5,none),(6,none)]])] [] false s

noncomputable def sL (n k : Int) (q : List Int) (nn : Bool) (i : Int) : NS := ⟨[⟨87, 15, [(0, (EV.v (Value.int IntKind.i64 (n)))), (3, EV.slO 0 1 q.length nn), (4, iv i)], [.it (.code (nav [1, 1, 0, 1, 0, 0, 0] (bodyOf Try.f87))), .it (.code (nav [1, 1, 0, 1, 0, 0, 1] (bodyOf Try.f87))), .it (.inLoop (nav [1, 1, 0, 1, 0, 0] (bodyOf Try.f87))), .it (.inBlock 0), .it (.code (nav [1, 1, 1] (bodyOf Try.f87)))], [], Option.none⟩, ⟨130, 24, [(0, (EV.v (Value.int IntKind.i64 (n)))), (1, (EV.v (Value.int IntKind.i64 (k))))], [.ops (opsOf (nav [1, 0] (bodyOf Try.f130))) ((opsOf (nav [1, 0] (bodyOf Try.f130))).toList.drop 1), .it (.code (nav [1, 1] (bodyOf Try.f130)))], [], Option.none⟩], [(0, EK.seq 3 (.ints .i64 q) nn)], 1⟩
noncomputable def sB (n k : Int) (q : List Int) (m : Nat) (nn : Bool) (i : Int) : NS := ⟨[⟨130, 24, [(0, iv n), (1, (EV.v (Value.int IntKind.i64 (k)))), (5, EV.slO 0 1 m nn), (6, iv i)], [.it (.code (nav [1, 1, 0, 1, 0, 0, 0] (bodyOf Try.f130))), .it (.code (nav [1, 1, 0, 1, 0, 0, 1] (bodyOf Try.f130))), .it (.inLoop (nav [1, 1, 0, 1, 0, 0] (bodyOf Try.f130))), .it (.inBlock 0), .it (.code (nav [1, 1, 1] (bodyOf Try.f130)))], [], Option.none⟩], [(0, EK.seq 3 (.ints .i64 q) nn)], 1⟩
theorem in_t (n k : Int) : RUN (st0 130 [iv n, iv k]) = (.at (sL (n) (k) ([]) (false) ((0 : Int)))) := by kernel_rfl
theorem line_t (n k : Int) (q : List Int) (nn : Bool) (i : Int) : RUN (stOf (sL n k q nn i)) = (bc (decide (i < n)) (bc (bc (Nat.beq (List.length q) (List.length q)) (bc (Nat.ble (List.length q + List.length (List.map (fun r => U.int (List.headD r (U.i (0 : Int)))) [[U.i i]])) (65536 : Nat)) (bc nn true (bc nn false true)) false) false) (.at (sL (n) (k) (q ++ List.map (fun r => U.int (List.headD r (U.i (0 : Int)))) [[U.i i]]) (bc nn true (Nat.blt (0 : Nat) (List.length (List.map (fun r => U.int (List.headD r (U.i (0 : Int)))) [[U.i i]])))) (IntKind.wrap IntKind.i64 (i + (1 : Int))))) .bad) (.at (sB (n) (k) (q) (List.length q) (nn) ((0 : Int))))) := by kernel_rfl
theorem b_t (n k : Int) (q : List Int) (m : Nat) (nn : Bool) (i : Int) : RUN (stOf (sB n k q m nn i)) = (bc (decide (i < n)) (bc (bc (bc (decide ((0 : Int) ≤ i)) (Nat.blt (Int.toNat i) m) false) true false) (bc (Nat.blt (Int.toNat i) (List.length q)) (.at (sB (n) (k) (List.set q (Int.toNat i) (IntKind.wrap IntKind.i64 (IntKind.wrap IntKind.i64 (n - (1 : Int)) - i))) (m) (nn) (IntKind.wrap IntKind.i64 (i + (1 : Int))))) .bad) .bad) (bc (bc (bc (Nat.beq m (List.length q)) true false) (decide (List.length q ≤ (1000 : Nat) ∧ (-1000 : Int) ≤ k ∧ k ≤ (1000 : Int))) false) (.done (EV.lst (SyC.ints IntKind.i64 (aftL q k))) [] 0) .bad)) := by kernel_rfl
end RWo
namespace RSli
noncomputable def RUN (s : ES) : ZF := RZ 131 ctAF (atS 0 131 3) [] [[(0,none),(1,none),(7,none),(8,none)]] false s

noncomputable def sA (a b : List Int) (tk : Bool) (i : Int) : NS := ⟨[⟨131, 49, [(0, (EV.lst (SyC.ints IntKind.i64 (a)))), (1, (EV.lst (SyC.ints IntKind.i64 (b)))), (7, bv tk), (8, iv i)], [.it (.code (nav [1, 1, 0, 1, 0, 0, 0] (bodyOf Try.f131))), .it (.code (nav [1, 1, 0, 1, 0, 0, 1] (bodyOf Try.f131))), .it (.inLoop (nav [1, 1, 0, 1, 0, 0] (bodyOf Try.f131))), .it (.inBlock 0), .it (.code (nav [1, 1, 1] (bodyOf Try.f131)))], [], Option.none⟩], [], 0⟩
noncomputable def sB (a b : List Int) (m : Nat) (tk : Bool) (i : Int) : NS := ⟨[⟨131, 49, [(0, il a), (1, EV.slO 0 1 m true), (7, bv tk), (8, iv i)], [.it (.code (nav [1, 1, 0, 1, 0, 0, 0] (bodyOf Try.f131))), .it (.code (nav [1, 1, 0, 1, 0, 0, 1] (bodyOf Try.f131))), .it (.inLoop (nav [1, 1, 0, 1, 0, 0] (bodyOf Try.f131))), .it (.inBlock 0), .it (.code (nav [1, 1, 1] (bodyOf Try.f131)))], [], Option.none⟩], [(0, EK.seq 3 (.ints .i64 b) true)], 1⟩
theorem in_t (a b : List Int) : RUN (st0 131 [il a, il b]) = (.at (sA (a) (b) (false) ((1 : Int)))) := by kernel_rfl
theorem a_t (a b : List Int) (tk : Bool) (i : Int) : RUN (stOf (sA a b tk i)) = (bc (decide (i < Int.ofNat (List.length a))) (bc (bc (bc (bc (bc (decide ((0 : Int) ≤ IntKind.wrap IntKind.i64 (i - (1 : Int)))) (Nat.blt (Int.toNat (IntKind.wrap IntKind.i64 (i - (1 : Int)))) (List.length b)) false) true false) (bc (bc (Nat.blt (Int.toNat (IntKind.wrap IntKind.i64 (i - (1 : Int)))) (List.length b)) true false) (bc (bc (bc (decide ((0 : Int) ≤ i)) (Nat.blt (Int.toNat i) (List.length b)) false) true false) (bc (bc (Nat.blt (Int.toNat i) (List.length b)) true false) true false) false) false) false) true false) (bc (decide (List.getD b (Int.toNat i) (0 : Int) < List.getD b (Int.toNat (IntKind.wrap IntKind.i64 (i - (1 : Int)))) (0 : Int))) (bc (bc (decide (PmL a ∧ (0 : Int) < i ∧ i < (Nat.cast (List.length a) : Int))) true false) (bc (!finB a (Int.toNat i)) (bc (decide (List.length a ≤ (1000 : Nat) ∧ (-1000 : Int) ≤ i ∧ i ≤ (1000 : Int))) (bc (bc (Nat.ble ((0 : Nat) + List.length b) (65536 : Nat)) true false) (bc (bc (bc (bc (bc (decide ((0 : Int) ≤ i)) (Nat.blt (Int.toNat i) (List.length ([] ++ b))) false) true false) (bc (bc (Nat.blt (Int.toNat i) (List.length ([] ++ b))) true false) (bc (bc (bc (decide ((0 : Int) ≤ IntKind.wrap IntKind.i64 (i - (1 : Int)))) (Nat.blt (Int.toNat (IntKind.wrap IntKind.i64 (i - (1 : Int)))) (List.length ([] ++ b))) false) true false) (bc (bc (Nat.blt (Int.toNat (IntKind.wrap IntKind.i64 (i - (1 : Int)))) (List.length ([] ++ b))) true false) (bc (bc (bc (decide ((0 : Int) ≤ IntKind.wrap IntKind.i64 (i - (1 : Int)))) (Nat.blt (Int.toNat (IntKind.wrap IntKind.i64 (i - (1 : Int)))) (List.length ([] ++ b))) false) true false) (bc (Nat.blt (Int.toNat (IntKind.wrap IntKind.i64 (i - (1 : Int)))) (List.length ([] ++ b))) (bc (bc (bc (decide ((0 : Int) ≤ i)) (Nat.blt (Int.toNat i) (List.length ([] ++ b))) false) true false) (bc (Nat.blt (Int.toNat i) (List.length (List.set ([] ++ b) (Int.toNat (IntKind.wrap IntKind.i64 (i - (1 : Int)))) (List.getD ([] ++ b) (Int.toNat i) (0 : Int))))) true false) false) false) false) false) false) false) false) true false) (.at (sB (aftL a i) (List.set (List.set ([] ++ b) (Int.toNat (IntKind.wrap IntKind.i64 (i - (1 : Int)))) (List.getD ([] ++ b) (Int.toNat i) (0 : Int))) (Int.toNat i) (List.getD ([] ++ b) (Int.toNat (IntKind.wrap IntKind.i64 (i - (1 : Int)))) (0 : Int))) (List.length ([] ++ b)) (true) (IntKind.wrap IntKind.i64 ((0 : Int) + (1 : Int))))) .bad) .bad) .bad) (.at (sA (a) (b) (tk) (IntKind.wrap IntKind.i64 (i + (1 : Int)))))) .bad) (.at (sA (a) (b) (tk) (IntKind.wrap IntKind.i64 (i + (1 : Int)))))) .bad) (.done (EV.tup [(EV.lst (SyC.ints IntKind.i64 (a))), (EV.lst (SyC.ints IntKind.i64 (b))), (EV.v (Value.bool (tk)))]) [] 0)) := by kernel_rfl
theorem b_t (a b : List Int) (m : Nat) (tk : Bool) (i : Int) : RUN (stOf (sB a b m tk i)) = (bc (decide (i < Int.ofNat (List.length a))) (bc (bc (bc (bc (bc (decide ((0 : Int) ≤ IntKind.wrap IntKind.i64 (i - (1 : Int)))) (Nat.blt (Int.toNat (IntKind.wrap IntKind.i64 (i - (1 : Int)))) m) false) true false) (bc (bc (Nat.blt (Int.toNat (IntKind.wrap IntKind.i64 (i - (1 : Int)))) (List.length b)) true false) (bc (bc (bc (decide ((0 : Int) ≤ i)) (Nat.blt (Int.toNat i) m) false) true false) (bc (bc (Nat.blt (Int.toNat i) (List.length b)) true false) true false) false) false) false) true false) (bc (decide (List.getD b (Int.toNat i) (0 : Int) < List.getD b (Int.toNat (IntKind.wrap IntKind.i64 (i - (1 : Int)))) (0 : Int))) (bc (bc (decide (PmL a ∧ (0 : Int) < i ∧ i < (Nat.cast (List.length a) : Int))) true false) (bc (!finB a (Int.toNat i)) (bc (decide (List.length a ≤ (1000 : Nat) ∧ (-1000 : Int) ≤ i ∧ i ≤ (1000 : Int))) (bc (bc (Nat.beq m (List.length b)) (bc (Nat.ble ((0 : Nat) + List.length b) (65536 : Nat)) true false) false) (bc (bc (bc (bc (bc (decide ((0 : Int) ≤ i)) (Nat.blt (Int.toNat i) (List.length ([] ++ b))) false) true false) (bc (bc (Nat.blt (Int.toNat i) (List.length ([] ++ b))) true false) (bc (bc (bc (decide ((0 : Int) ≤ IntKind.wrap IntKind.i64 (i - (1 : Int)))) (Nat.blt (Int.toNat (IntKind.wrap IntKind.i64 (i - (1 : Int)))) (List.length ([] ++ b))) false) true false) (bc (bc (Nat.blt (Int.toNat (IntKind.wrap IntKind.i64 (i - (1 : Int)))) (List.length ([] ++ b))) true false) (bc (bc (bc (decide ((0 : Int) ≤ IntKind.wrap IntKind.i64 (i - (1 : Int)))) (Nat.blt (Int.toNat (IntKind.wrap IntKind.i64 (i - (1 : Int)))) (List.length ([] ++ b))) false) true false) (bc (Nat.blt (Int.toNat (IntKind.wrap IntKind.i64 (i - (1 : Int)))) (List.length ([] ++ b))) (bc (bc (bc (decide ((0 : Int) ≤ i)) (Nat.blt (Int.toNat i) (List.length ([] ++ b))) false) true false) (bc (Nat.blt (Int.toNat i) (List.length (List.set ([] ++ b) (Int.toNat (IntKind.wrap IntKind.i64 (i - (1 : Int)))) (List.getD ([] ++ b) (Int.toNat i) (0 : Int))))) true false) false) false) false) false) false) false) false) true false) (.at (sB (aftL a i) (List.set (List.set ([] ++ b) (Int.toNat (IntKind.wrap IntKind.i64 (i - (1 : Int)))) (List.getD ([] ++ b) (Int.toNat i) (0 : Int))) (Int.toNat i) (List.getD ([] ++ b) (Int.toNat (IntKind.wrap IntKind.i64 (i - (1 : Int)))) (0 : Int))) (List.length ([] ++ b)) (true) (IntKind.wrap IntKind.i64 ((0 : Int) + (1 : Int))))) .bad) .bad) .bad) (.at (sB (a) (b) (m) (tk) (IntKind.wrap IntKind.i64 (i + (1 : Int)))))) .bad) (.at (sB (a) (b) (m) (tk) (IntKind.wrap IntKind.i64 (i + (1 : Int)))))) .bad) (bc (bc (Nat.beq m (List.length b)) true false) (.done (EV.tup [(EV.lst (SyC.ints IntKind.i64 (a))), (EV.lst (SyC.ints IntKind.i64 (b))), (EV.v (Value.bool (tk)))]) [] 0) .bad)) := by kernel_rfl
end RSli
end Go.Proofs.Ytooimphimnagaaa.Ev
namespace Go.Proofs.Ytooimphimnagaaa.Ev
open Go.Proofs
variable {n : Nat}
namespace RWo
theorem stepL {k : Int} {nn : Bool} {i : Nat} (hn : n ≤ 100) (hi : i < n) : RUN (stOf (sL n k (RLin.rng i) nn i)) = .at (sL n k (RLin.rng (i + 1)) true (i + 1 : Nat)) := by
  rw [line_t]; have m1 : List.map (fun r => U.int (List.headD r (U.i 0))) [[U.i (i : Int)]] = [(i : Int)] := rfl; rw [m1, RLin.rng_succ, RLin.rng_len, nn_ok, List.length_singleton]; have e1 : bc nn true (Nat.blt 0 1) = true := by cases nn <;> rfl
  simp (disch := omega) only [Nat.add_eq, eqSy_self, eqN_self, bc_same, List.length_cons, ofn, wrap_in, dt, df, bltD, bltN, ble_of, bleN, beqD, bc_t, bc_f, nn_ok, Nat.zero_add, to_nat, Int.zero_add, Int.sub_zero, Int.sub_self, Int.cast_ofNat_Int, Int.natCast_zero, Int.toNat_zero, List.take_zero, List.nil_append, List.length_append, List.length_nil, e1]; rfl
theorem lastL {k : Int} {nn : Bool} {i : Nat} (hi : n ≤ i) : RUN (stOf (sL n k (RLin.rng i) nn i)) = .at (sB n k (RLin.rng i) i nn (0 : Nat)) := by
  rw [line_t, RLin.rng_len]; simp (disch := omega) only [Nat.add_eq, eqSy_self, eqN_self, bc_same, List.length_cons, ofn, wrap_in, dt, df, bltD, bltN, ble_of, bleN, beqD, bc_t, bc_f, nn_ok, Nat.zero_add, to_nat, Int.zero_add, Int.sub_zero, Int.sub_self, Int.cast_ofNat_Int, Int.natCast_zero, Int.toNat_zero, List.take_zero, List.nil_append, List.length_append, List.length_nil]

noncomputable def woS (n : Nat) : Nat → List Int
  | 0 => RLin.rng n
  | i + 1 => (woS n i).set i ((n : Int) - 1 - (i : Int))
theorem woS_len (n : Nat) : ∀ i, (woS n i).length = n
  | 0 => RLin.rng_len n
  | i + 1 => by unfold woS; rw [List.length_set, woS_len n i]
theorem woS_get (n : Nat) : ∀ i, i ≤ n → ∀ x, x < i → (woS n i).getD x 0 = (n : Int) - 1 - (x : Int)
  | 0, _, x, h => by omega
  | i + 1, hi, x, hx => by
    unfold woS; rw [gset2, woS_len]
    by_cases e : x = i
    · rw [if_pos ⟨e, by omega⟩, e]
    · rw [if_neg (fun h => e h.1)]; exact woS_get n i (by omega) x (by omega)
theorem woS_pR (n : Nat) : woS n n = pR (Pm.del n) := pR_ext (woS_len n n) fun x hx => by
  rw [woS_get n n (Nat.le_refl _) x hx]; show _ = ((Pm.rv n x : Nat) : Int); unfold Pm.rv; rw [if_pos hx]; omega
theorem stepB {k : Int} {nn : Bool} {i : Nat} (hn : n ≤ 100) (hi : i < n) : RUN (stOf (sB n k (woS n i) n nn i)) = .at (sB n k (woS n (i + 1)) n nn (i + 1 : Nat)) := by
  rw [b_t, woS_len]; have e0 : ((i : Int)).toNat = i := rfl; have w1 : IntKind.i64.wrap (IntKind.i64.wrap ((n : Int) - 1) - (i : Int)) = (n : Int) - 1 - (i : Int) := by rw [wrap_in ((n : Int) - 1) (by omega) (by omega), wrap_in _ (by omega) (by omega)]
  have e3 : (woS n i).set i ((n : Int) - 1 - (i : Int)) = woS n (i + 1) := rfl; rw [e0, w1, e3]; simp (disch := omega) only [Nat.add_eq, eqSy_self, eqN_self, bc_same, List.length_cons, ofn, wrap_in, dt, df, bltD, bltN, ble_of, bleN, beqD, bc_t, bc_f, nn_ok, Nat.zero_add, to_nat, Int.zero_add, Int.sub_zero, Int.sub_self, Int.cast_ofNat_Int, Int.natCast_zero, Int.toNat_zero, List.take_zero, List.nil_append, List.length_append, List.length_nil]; rfl
theorem lastB {k : Nat} {nn : Bool} (hn : n ≤ 100) (hk : 0 < k ∧ k < n) : RUN (stOf (sB n k (woS n n) n nn n)) = .done (il (woL n k)) [] 0 := by
  rw [b_t, woS_len, woS_pR, aftL_pR _ hk, woL_pR hk]; have e : pR ((Pm.del n).R k hk) = pR (ctr k hk) := rfl; rw [e]; have h : n ≤ 1000 ∧ -1000 ≤ (k : Int) ∧ (k : Int) ≤ 1000 := ⟨by omega, by omega, by omega⟩; rw [dt h]; simp (disch := omega) only [Nat.add_eq, eqSy_self, eqN_self, bc_same, List.length_cons, ofn, wrap_in, dt, df, bltD, bltN, ble_of, bleN, beqD, bc_t, bc_f, nn_ok, Nat.zero_add, to_nat, Int.zero_add, Int.sub_zero, Int.sub_self, Int.cast_ofNat_Int, Int.natCast_zero, Int.toNat_zero, List.take_zero, List.nil_append, List.length_append, List.length_nil]
theorem loopL {k : Nat} (hn : n ≤ 100) : ∀ (d i : Nat) (nn : Bool), i + d = n → ∃ nn', LeadsZ Try.prog (stOf (sL n k (RLin.rng i) nn i)) (stOf (sB n k (woS n 0) n nn' (0 : Nat)))
  | 0, i, nn, h => by
    obtain rfl : i = n := by omega
    exact ⟨nn, leadsZ ctAF_ok (lastL (Nat.le_refl _))⟩
  | d + 1, i, nn, h => by
    obtain ⟨nn', h2⟩ := loopL (k := k) hn d (i + 1) true (by omega); exact ⟨nn', (leadsZ ctAF_ok (stepL hn (by omega))).trans h2⟩
theorem loopB {k : Nat} {nn : Bool} (hn : n ≤ 100) (hk : 0 < k ∧ k < n) : ∀ (d i : Nat), i + d = n → EndZ 130 ctAF false (stOf (sB n k (woS n i) n nn i)) (il (woL n k)) [] 0
  | 0, i, h => by
    obtain rfl : i = n := by omega
    exact .done (lastB hn hk)
  | d + 1, i, h => .at ctAF_ok (stepB hn (by omega)) (loopB hn hk d (i + 1) (by omega))
theorem ends {n k : Int} (hn : n ≤ 100) (h1 : 0 < k) (h2 : k < n) : EndZ 130 ctAF false (st0 130 [iv n, iv k]) (il (woL n k)) [] 0 := by
  obtain ⟨n, rfl⟩ := Int.eq_ofNat_of_zero_le (show 0 ≤ n by omega); obtain ⟨k, rfl⟩ := Int.eq_ofNat_of_zero_le (show 0 ≤ k by omega); obtain ⟨nn', h3⟩ := loopL (n := n) (k := k) (by omega) n 0 false (by omega); exact .at ctAF_ok (in_t n k) (.lead h3 (loopB (by omega) ⟨by omega, by omega⟩ n 0 (by omega)))
end RWo
noncomputable def spRWo : ZCT := fun ax => match ax with
  | [.v (.int .i64 n), .v (.int .i64 k)] => some ⟨decide (n ≤ 100 ∧ 0 < k ∧ k < n), il (woL n k), [], 0⟩
  | _ => none
theorem spRWo_ok : ZCtOk Try.prog 130 spRWo := fun γ w us ax r hs hc hax hN hfz => by
  unfold spRWo at hs; split at hs
  case h_2 => cases hs
  rename_i n k; obtain ⟨rfl⟩ := Option.some.inj hs; have hc_0 : decide (n ≤ 100 ∧ 0 < k ∧ k < n) = true := hc; have hc := of_decide_eq_true hc_0; exact EndZ.calls (RWo.ends hc.1 hc.2.1 hc.2.2) ctAF_ok (by kernel_rfl) hax hN hfz
namespace RSli
noncomputable def sX (own : Bool) (a b : Pm n) (tk : Bool) (i : Int) : NS := bc own (sB (pR a) (pR b) n tk i) (sA (pR a) (pR b) tk i)
theorem step1 {own : Bool} {a b : Pm n} {tk : Bool} {i : Nat} (hn : n ≤ 12) (hi : 0 < i ∧ i < n) (hb : b.beg i) (hf : ¬ a.fin i) : RUN (stOf (sX own a b tk i)) = .at (sX true (a.R i hi) (b.L i hi) true (1 : Nat)) := by
  have key : ∀ i : Nat, 0 < i ∧ i < n → ∃ j, i = j + 1 := fun i h => ⟨i - 1, by omega⟩; obtain ⟨j, rfl⟩ := key i hi; have w : IntKind.i64.wrap (((j + 1 : Nat) : Int) - 1) = (j : Int) := by rw [wrap_in _ (by omega) (by omega)]; omega
  have e1 : ((j : Int)).toNat = j := rfl; have e2 : (((j + 1 : Nat) : Int)).toNat = j + 1 := rfl; have f1 : (b.f (j + 1) : Int) < (b.f j : Int) := by
    unfold Pm.beg at hb; rw [show j + 1 - 1 = j by omega] at hb; omega
  have f2 : finB (pR a) (j + 1) = false := by
    rw [finB_pR]; exact decide_eq_false hf
  have l1 := pR_L b hi; rw [show j + 1 - 1 = j by omega] at l1; have c1 : PmL (pR a) ∧ 0 < ((j + 1 : Nat) : Int) ∧ ((j + 1 : Nat) : Int) < (n : Int) := ⟨PmL.pR hn a, by omega, by omega⟩; have c2 : n ≤ 1000 ∧ -1000 ≤ ((j + 1 : Nat) : Int) ∧ ((j + 1 : Nat) : Int) ≤ 1000 := ⟨by omega, by omega, by omega⟩
  cases own with
  | false =>
    show RUN (stOf (sA (pR a) (pR b) tk ((j + 1 : Nat) : Int))) = _; rw [a_t, List.nil_append, w, e1, e2, pR_get b (show j < n by omega), pR_get b hi.2, f2, l1, aftL_pR a hi, List.length_set, pR_len, pR_len, dt c1, dt c2]; simp (disch := omega) only [Nat.add_eq, eqSy_self, eqN_self, bc_same, List.length_cons, ofn, wrap_in, dt, df, bltD, bltN, ble_of, bleN, beqD, bc_t, bc_f, nn_ok, Nat.zero_add, to_nat, Int.zero_add, Int.sub_zero, Int.sub_self, Int.cast_ofNat_Int, Int.natCast_zero, Int.toNat_zero, List.take_zero, List.nil_append, List.length_append, List.length_nil]; rfl
  | true =>
    show RUN (stOf (sB (pR a) (pR b) n tk ((j + 1 : Nat) : Int))) = _; rw [b_t, List.nil_append, w, e1, e2, pR_get b (show j < n by omega), pR_get b hi.2, f2, l1, aftL_pR a hi, List.length_set, pR_len, pR_len, dt c1, dt c2]; simp (disch := omega) only [Nat.add_eq, eqSy_self, eqN_self, bc_same, List.length_cons, ofn, wrap_in, dt, df, bltD, bltN, ble_of, bleN, beqD, bc_t, bc_f, nn_ok, Nat.zero_add, to_nat, Int.zero_add, Int.sub_zero, Int.sub_self, Int.cast_ofNat_Int, Int.natCast_zero, Int.toNat_zero, List.take_zero, List.nil_append, List.length_append, List.length_nil]; rfl
theorem step2 {own : Bool} {a b : Pm n} {tk : Bool} {i : Nat} (hn : n ≤ 12) (hi : 0 < i ∧ i < n) (h : ¬ (b.beg i ∧ ¬ a.fin i)) : RUN (stOf (sX own a b tk i)) = .at (sX own a b tk (i + 1 : Nat)) := by
  have key : ∀ i : Nat, 0 < i ∧ i < n → ∃ j, i = j + 1 := fun i h => ⟨i - 1, by omega⟩; obtain ⟨j, rfl⟩ := key i hi; have w : IntKind.i64.wrap (((j + 1 : Nat) : Int) - 1) = (j : Int) := by rw [wrap_in _ (by omega) (by omega)]; omega
  have e1 : ((j : Int)).toNat = j := rfl; have e2 : (((j + 1 : Nat) : Int)).toNat = j + 1 := rfl; have c1 : PmL (pR a) ∧ 0 < ((j + 1 : Nat) : Int) ∧ ((j + 1 : Nat) : Int) < (n : Int) := ⟨PmL.pR hn a, by omega, by omega⟩
  by_cases hb : b.beg (j + 1)
  · have hf : a.fin (j + 1) := Classical.byContradiction fun hf => h ⟨hb, hf⟩; have f1 : (b.f (j + 1) : Int) < (b.f j : Int) := by
      unfold Pm.beg at hb; rw [show j + 1 - 1 = j by omega] at hb; omega
    have f2 : finB (pR a) (j + 1) = true := by
      rw [finB_pR]; exact decide_eq_true hf
    cases own with
    | false =>
      show RUN (stOf (sA (pR a) (pR b) tk ((j + 1 : Nat) : Int))) = _; rw [a_t, w, e1, e2, pR_get b (show j < n by omega), pR_get b hi.2, f2, pR_len, pR_len, dt c1]; simp (disch := omega) only [Nat.add_eq, eqSy_self, eqN_self, bc_same, List.length_cons, ofn, wrap_in, dt, df, bltD, bltN, ble_of, bleN, beqD, bc_t, bc_f, nn_ok, Nat.zero_add, to_nat, Int.zero_add, Int.sub_zero, Int.sub_self, Int.cast_ofNat_Int, Int.natCast_zero, Int.toNat_zero, List.take_zero, List.nil_append, List.length_append, List.length_nil]; rfl
    | true =>
      show RUN (stOf (sB (pR a) (pR b) n tk ((j + 1 : Nat) : Int))) = _; rw [b_t, w, e1, e2, pR_get b (show j < n by omega), pR_get b hi.2, f2, pR_len, pR_len, dt c1]; simp (disch := omega) only [Nat.add_eq, eqSy_self, eqN_self, bc_same, List.length_cons, ofn, wrap_in, dt, df, bltD, bltN, ble_of, bleN, beqD, bc_t, bc_f, nn_ok, Nat.zero_add, to_nat, Int.zero_add, Int.sub_zero, Int.sub_self, Int.cast_ofNat_Int, Int.natCast_zero, Int.toNat_zero, List.take_zero, List.nil_append, List.length_append, List.length_nil]; rfl
  · have f1 : ¬ (b.f (j + 1) : Int) < (b.f j : Int) := by
      unfold Pm.beg at hb; rw [show j + 1 - 1 = j by omega] at hb; omega
    cases own with
    | false =>
      show RUN (stOf (sA (pR a) (pR b) tk ((j + 1 : Nat) : Int))) = _; rw [a_t, w, e1, e2, pR_get b (show j < n by omega), pR_get b hi.2, pR_len, pR_len]; simp (disch := omega) only [Nat.add_eq, eqSy_self, eqN_self, bc_same, List.length_cons, ofn, wrap_in, dt, df, bltD, bltN, ble_of, bleN, beqD, bc_t, bc_f, nn_ok, Nat.zero_add, to_nat, Int.zero_add, Int.sub_zero, Int.sub_self, Int.cast_ofNat_Int, Int.natCast_zero, Int.toNat_zero, List.take_zero, List.nil_append, List.length_append, List.length_nil]; rfl
    | true =>
      show RUN (stOf (sB (pR a) (pR b) n tk ((j + 1 : Nat) : Int))) = _; rw [b_t, w, e1, e2, pR_get b (show j < n by omega), pR_get b hi.2, pR_len, pR_len]; simp (disch := omega) only [Nat.add_eq, eqSy_self, eqN_self, bc_same, List.length_cons, ofn, wrap_in, dt, df, bltD, bltN, ble_of, bleN, beqD, bc_t, bc_f, nn_ok, Nat.zero_add, to_nat, Int.zero_add, Int.sub_zero, Int.sub_self, Int.cast_ofNat_Int, Int.natCast_zero, Int.toNat_zero, List.take_zero, List.nil_append, List.length_append, List.length_nil]; rfl
theorem last {own : Bool} {a b : Pm n} {tk : Bool} : RUN (stOf (sX own a b tk n)) = .done (.tup [il (pR a), il (pR b), bv tk]) [] 0 := by
  cases own with
  | false =>
    show RUN (stOf (sA (pR a) (pR b) tk (n : Int))) = _; rw [a_t, pR_len]; simp (disch := omega) only [Nat.add_eq, eqSy_self, eqN_self, bc_same, List.length_cons, ofn, wrap_in, dt, df, bltD, bltN, ble_of, bleN, beqD, bc_t, bc_f, nn_ok, Nat.zero_add, to_nat, Int.zero_add, Int.sub_zero, Int.sub_self, Int.cast_ofNat_Int, Int.natCast_zero, Int.toNat_zero, List.take_zero, List.nil_append, List.length_append, List.length_nil]
  | true =>
    show RUN (stOf (sB (pR a) (pR b) n tk (n : Int))) = _; rw [b_t, pR_len, pR_len]; simp (disch := omega) only [Nat.add_eq, eqSy_self, eqN_self, bc_same, List.length_cons, ofn, wrap_in, dt, df, bltD, bltN, ble_of, bleN, beqD, bc_t, bc_f, nn_ok, Nat.zero_add, to_nat, Int.zero_add, Int.sub_zero, Int.sub_self, Int.cast_ofNat_Int, Int.natCast_zero, Int.toNat_zero, List.take_zero, List.nil_append, List.length_append, List.length_nil]
theorem loop (hn : n ≤ 12) : ∀ (μ : Nat) (own : Bool) (a b : Pm n) (i : Nat) (tk : Bool), a.W * (n + 1) + (n - i) ≤ μ → 1 ≤ i → i ≤ n → (∀ j, 0 < j → j < i → ¬ (b.beg j ∧ ¬ a.fin j)) →
    ∃ a' b' tk', Mvs [a, b] [a', b'] ∧ Lw a' b' ∧ (tk' = false → tk = false ∧ a' = a ∧ b' = b) ∧ (tk' = true → tk = true ∨ a'.W < a.W) ∧ a'.W ≤ a.W ∧ EndZ 131 ctAF false (stOf (sX own a b tk i)) (.tup [il (pR a'), il (pR b'), bv tk']) [] 0
  | μ, own, a, b, i, tk, hμ, h1, h2, hj => by
    by_cases hi : i = n
    · subst hi; exact ⟨a, b, tk, .refl _, fun j g1 g2 hb => Classical.byContradiction fun hf => hj j g1 g2 ⟨hb, hf⟩, fun h => ⟨h, rfl, rfl⟩, fun h => .inl h, Nat.le_refl _, .done last⟩
    · have hin : 0 < i ∧ i < n := ⟨h1, by omega⟩
      by_cases hs : b.beg i ∧ ¬ a.fin i
      · obtain ⟨hb, hf⟩ := hs; have hW := a.W_R hin hf
        match μ with
        | 0 => omega
        | μ + 1 =>
          have hm : (a.R i hin).W * (n + 1) + (n + 1) ≤ a.W * (n + 1) := by rw [← Nat.succ_mul]; exact Nat.mul_le_mul_right _ hW
          obtain ⟨a', b', tk', g1, g2, g3, g4, g6, g5⟩ := loop hn μ true (a.R i hin) (b.L i hin) 1 true (by omega) (Nat.le_refl _) (by omega) (fun j q1 q2 => by omega); exact ⟨a', b', tk', .step (.here a b [] i hin hb hf) g1, g2, fun h => absurd (g3 h).1 (by decide), fun h => .inr (by omega), by omega, .at ctAF_ok (step1 hn hin hb hf) g5⟩
      · match μ with
        | 0 => omega
        | μ + 1 =>
          obtain ⟨a', b', tk', g1, g2, g3, g4, g6, g5⟩ := loop hn μ own a b (i + 1) tk (by omega) (by omega) (by omega) (fun j q1 q2 => by
            by_cases e : j = i
            · rw [e]; exact hs
            · exact hj j q1 (by omega))
          exact ⟨a', b', tk', g1, g2, g3, g4, g6, .at ctAF_ok (step2 hn hin hs) g5⟩
theorem ends (hn1 : 1 ≤ n) (hn : n ≤ 12) (a b : Pm n) : EndZ 131 ctAF false (st0 131 [il (pR a), il (pR b)]) (.tup [il (pR (nf1 a b)), il (pR (nf2 a b)), bv (decide (nf1 a b ≠ a))]) [] 0 := by
  obtain ⟨a', b', tk', g1, g2, g3, g4, g6, g5⟩ := loop hn _ false a b 1 false (Nat.le_refl _) (Nat.le_refl _) hn1 (fun j q1 q2 => by omega); have hN : NF [a, b] = [a', b'] := NF_of g1 (nrm_cons.2 ⟨g2, nrm_single _⟩); have e1 : nf1 a b = a' := by unfold nf1; rw [hN]; rfl
  have e2 : nf2 a b = b' := by unfold nf2; rw [hN]; rfl
  rw [e1, e2]; have e3 : decide (a' ≠ a) = tk' := by
    cases tk' with
    | false => exact decide_eq_false fun h => h (g3 rfl).2.1
    | true =>
      rcases g4 rfl with h | h
      · cases h
      · exact decide_eq_true fun e => by rw [e] at h; omega
  rw [e3]; exact .at ctAF_ok (in_t (pR a) (pR b)) g5

def Sl2 (a b : List Int) : Prop := 1 ≤ a.length ∧ a.length ≤ 12 ∧ (∃ p : Pm a.length, a = pR p) ∧ ∃ q : Pm a.length, b = pR q
noncomputable instance (a b : List Int) : Decidable (Sl2 a b) := Classical.propDecidable _
theorem endsK {a b : List Int} (m : Nat) (p q : Pm m) (h1 : 1 ≤ m) (h2 : m ≤ 12) (ha : a = pR p) (hb : b = pR q) : EndZ 131 ctAF false (st0 131 [il a, il b]) (.tup [il (sl1 a b), il (sl2 a b), bv (slB a b)]) [] 0 := by
  rw [ha, hb, sl1_pR, sl2_pR, slB_pR]; exact ends h1 h2 p q
theorem endsL {a b : List Int} (h : Sl2 a b) : EndZ 131 ctAF false (st0 131 [il a, il b]) (.tup [il (sl1 a b), il (sl2 a b), bv (slB a b)]) [] 0 := by
  obtain ⟨h1, h2, ⟨p, hp⟩, q, hq⟩ := h; exact endsK _ p q h1 h2 hp hq
end RSli
noncomputable def spRSli : ZCT := fun ax => match ax with
  | [.lst (.ints .i64 a), .lst (.ints .i64 b)] => some ⟨decide (RSli.Sl2 a b), .tup [il (sl1 a b), il (sl2 a b), bv (slB a b)], [], 0⟩
  | _ => none
theorem spRSli_ok : ZCtOk Try.prog 131 spRSli := fun γ w us ax r hs hc hax hN hfz => by
  unfold spRSli at hs; split at hs
  case h_2 => cases hs
  rename_i a b; obtain ⟨rfl⟩ := Option.some.inj hs; have hc_0 : decide (RSli.Sl2 a b) = true := hc; have hc := of_decide_eq_true hc_0; exact EndZ.calls (RSli.endsL hc) ctAF_ok (by kernel_rfl) hax hN hfz
end Go.Proofs.Ytooimphimnagaaa.Ev
namespace Go.Proofs.Ytooimphimnagaaa.Ev
open Go.Proofs
namespace RNrm
noncomputable abbrev shI : List Sh := [.list [.int .i64]]
noncomputable def ct : Tr ZCC := ((((((Tr.nil.put 42 (some (dC spRChk))).put 87 (some (dC spRLin))).put 128 (some (dC spRAft))).put 129 (some (dC spRTrn))).put 130 (some (dC spRWo))).put 131 (some (dC spRSli))).put 132 (some (dC spRFlt))
theorem ct_ok : ZCtsOk Try.prog ct := (((((((ZCtsOk.nil _).add rfl spRChk_ok).add rfl spRLin_ok).add rfl spRAft_ok).add rfl spRTrn_ok).add rfl spRWo_ok).add rfl spRSli_ok).add rfl spRFlt_ok
noncomputable def RUN (s : ES) : ZF := RZs 89 ct [(atS 0 89 7, [[(0,none),(1,none),(8,none),(9,some (1, 22, .recs shI [])),(10,none)]]), (atS 0 89 13, [[(0,none),(1,none),(8,none),(9,none),(10,none),(11,none)]]), (atS 0 89 18, [[(0,none),(8,none),(9,none),(12,none)]]), (atS 0 89 21, [[(0,none),(8,none),(9,none),(12,none),(13,none)]]), (atS 0 89 28, [[(0,none),(8,none),(9,none),(17,some (1, 22, .recs shI [])),(18,none)]])] [] false s

noncomputable def sA (n : Int) (w : List Int) (pw : Int) (L : List (List U)) (len : Nat) (nn : Bool) (i : Int) : NS := ⟨[⟨89, 144, [(0, (EV.v (Value.int IntKind.i64 (n)))), (1, (EV.lst (SyC.ints IntKind.i64 (w)))), (8, iv pw), (9, EV.slO 0 1 len nn), (10, iv i)], [.it (.code (nav [1, 1, 1, 1, 1, 0, 1, 0, 0, 0] (bodyOf Try.f89))), .it (.code (nav [1, 1, 1, 1, 1, 0, 1, 0, 0, 1] (bodyOf Try.f89))), .it (.inLoop (nav [1, 1, 1, 1, 1, 0, 1, 0, 0] (bodyOf Try.f89))), .it (.inBlock 0), .it (.code (nav [1, 1, 1, 1, 1, 1] (bodyOf Try.f89)))], [], Option.none⟩], [(0, EK.seq 22 (.recs shI L) nn)], 1⟩
noncomputable def sB (n : Int) (w : List Int) (pw : Int) (L : List (List U)) (len : Nat) (nn : Bool) (i j : Int) : NS := ⟨[⟨89, 144, [(0, (EV.v (Value.int IntKind.i64 (n)))), (1, il w), (8, iv pw), (9, EV.slO 0 1 len nn), (10, iv i), (11, iv j)], [.it (.code (nav [1, 1, 1, 1, 1, 0, 1, 0, 0, 1, 0, 0, 1, 1, 0, 1, 0, 0, 0] (bodyOf Try.f89))), .it (.code (nav [1, 1, 1, 1, 1, 0, 1, 0, 0, 1, 0, 0, 1, 1, 0, 1, 0, 0, 1] (bodyOf Try.f89))), .it (.inLoop (nav [1, 1, 1, 1, 1, 0, 1, 0, 0, 1, 0, 0, 1, 1, 0, 1, 0, 0] (bodyOf Try.f89))), .it (.inBlock 2), .it (.code (nav [1, 1, 1, 1, 1, 0, 1, 0, 0, 1, 0, 0, 1, 1, 1] (bodyOf Try.f89))), .it (.inBlock 1), .it (.code (nav [1, 1, 1, 1, 1, 0, 1, 0, 0, 1, 1] (bodyOf Try.f89))), .it (.inLoop (nav [1, 1, 1, 1, 1, 0, 1, 0, 0] (bodyOf Try.f89))), .it (.inBlock 0), .it (.code (nav [1, 1, 1, 1, 1, 1] (bodyOf Try.f89)))], [], Option.none⟩], [(0, EK.seq 22 (.recs shI L) nn)], 1⟩
noncomputable def sC (n : Int) (pw : Int) (L : List (List U)) (len : Nat) (nn : Bool) (ch : Bool) : NS := ⟨[⟨89, 144, [(0, (EV.v (Value.int IntKind.i64 (n)))), (8, (EV.v (Value.int IntKind.i64 (pw)))), (9, (EV.slO 0 1 (len) (nn))), (12, bv ch)], [.it (.code (nav [1, 1, 1, 1, 1, 1, 0, 1, 0, 0, 0] (bodyOf Try.f89))), .it (.code (nav [1, 1, 1, 1, 1, 1, 0, 1, 0, 0, 1] (bodyOf Try.f89))), .it (.inLoop (nav [1, 1, 1, 1, 1, 1, 0, 1, 0, 0] (bodyOf Try.f89))), .it (.inBlock 4), .it (.code (nav [1, 1, 1, 1, 1, 1, 1] (bodyOf Try.f89)))], [], Option.none⟩], [(0, (EK.seq 22 (SyC.recs [(Sh.list [(Sh.int IntKind.i64)])] (L)) (nn)))], 1⟩
noncomputable def sD (n : Int) (pw : Int) (L : List (List U)) (len : Nat) (nn : Bool) (ch : Bool) (k : Int) : NS := ⟨[⟨89, 144, [(0, (EV.v (Value.int IntKind.i64 (n)))), (8, (EV.v (Value.int IntKind.i64 (pw)))), (9, (EV.slO 0 1 (len) (nn))), (12, bv ch), (13, iv k)], [.it (.code (nav [1, 1, 1, 1, 1, 1, 0, 1, 0, 0, 1, 0, 1, 1, 0, 0, 0] (bodyOf Try.f89))), .it (.code (nav [1, 1, 1, 1, 1, 1, 0, 1, 0, 0, 1, 0, 1, 1, 0, 0, 1] (bodyOf Try.f89))), .it (.inLoop (nav [1, 1, 1, 1, 1, 1, 0, 1, 0, 0, 1, 0, 1, 1, 0, 0] (bodyOf Try.f89))), .it (.inBlock 6), .it (.inBlock 5), .it (.inLoop (nav [1, 1, 1, 1, 1, 1, 0, 1, 0, 0] (bodyOf Try.f89))), .it (.inBlock 4), .it (.code (nav [1, 1, 1, 1, 1, 1, 1] (bodyOf Try.f89)))], [], Option.none⟩], [(0, (EK.seq 22 (SyC.recs [(Sh.list [(Sh.int IntKind.i64)])] (L)) (nn)))], 1⟩
noncomputable def sE (n : Int) (pw : Int) (L : List (List U)) (len : Nat) (nn : Bool) (Q : List (List U)) (m : Nat) (nq : Bool) (i : Int) : NS := ⟨[⟨89, 144, [(0, (EV.v (Value.int IntKind.i64 (n)))), (8, (EV.v (Value.int IntKind.i64 (pw)))), (9, (EV.slO 0 1 (len) (nn))), (17, EV.slO 1 1 m nq), (18, iv i)], [.it (.code (nav [1, 1, 1, 1, 1, 1, 1, 1, 0, 1, 0, 0, 0] (bodyOf Try.f89))), .it (.code (nav [1, 1, 1, 1, 1, 1, 1, 1, 0, 1, 0, 0, 1] (bodyOf Try.f89))), .it (.inLoop (nav [1, 1, 1, 1, 1, 1, 1, 1, 0, 1, 0, 0] (bodyOf Try.f89))), .it (.inBlock 8), .it (.code (nav [1, 1, 1, 1, 1, 1, 1, 1, 1] (bodyOf Try.f89)))], [], Option.none⟩], [(0, (EK.seq 22 (SyC.recs [(Sh.list [(Sh.int IntKind.i64)])] (L)) (nn))), (1, EK.seq 22 (.recs shI Q) nq)], 2⟩
theorem in_t (n : Int) (w : List Int) : RUN (st0 89 [iv n, il w]) = (bc (chk n w != (0 : Int)) (.done (EV.tup [(EV.v (Value.int IntKind.i64 (0))), (EV.v (Value.slice Option.none 0 0)), (EV.v (Value.int IntKind.i64 (chk n w)))]) [] 0) (.at (sA (n) (w) ((0 : Int)) ([]) ((0 : Nat)) (false) ((0 : Int))))) := by kernel_rfl
theorem nil_t (n : Int) : RZ 89 ct (fun _ => false) [] [] false (st0 89 [iv n, .v (.slice none 0 0)]) = (bc (chk n [] != (0 : Int)) (.done (EV.tup [(EV.v (Value.int IntKind.i64 (0))), (EV.v (Value.slice Option.none 0 0)), (EV.v (Value.int IntKind.i64 (chk n [])))]) [] 0) (.done (EV.tup [(EV.v (Value.int IntKind.i64 (0))), (EV.v (Value.slice Option.none 0 0)), (EV.v (Value.int IntKind.i64 (0)))]) [] 0)) := by kernel_rfl
theorem a_t (n : Int) (w : List Int) (pw : Int) (L : List (List U)) (len : Nat) (nn : Bool) (i : Int) : RUN (stOf (sA n w pw L len nn i)) = (bc (decide (i < Int.ofNat (List.length w))) (bc (bc (bc (decide ((0 : Int) ≤ i)) (Nat.blt (Int.toNat i) (List.length w)) false) true false) (bc (bc (Nat.blt (Int.toNat i) (List.length w)) true false) (bc (decide ((0 : Int) < List.getD w (Int.toNat i) (0 : Int))) (bc (bc (bc (decide ((0 : Int) ≤ n ∧ n ≤ (100 : Int))) (bc (bc (bc (decide ((0 : Int) ≤ i)) (Nat.blt (Int.toNat i) (List.length w)) false) true false) (bc (bc (Nat.blt (Int.toNat i) (List.length w)) true false) (bc (decide (List.length (pR (Pm.one (Int.toNat n))) ≤ (1000 : Nat) ∧ (-1000 : Int) ≤ List.getD w (Int.toNat i) (0 : Int) ∧ List.getD w (Int.toNat i) (0 : Int) ≤ (1000 : Int))) (bc (bc (Nat.beq len (List.length L)) (bc (Nat.ble (len + List.length [[U.l (List.map (fun x => [U.i x]) (aftL (pR (Pm.one (Int.toNat n))) (List.getD w (Int.toNat i) (0 : Int))))]]) (65536 : Nat)) (bc nn true (bc nn false true)) false) false) true false) false) false) false) false) true false) (.at (sA (n) (w) (pw) (L ++ [[U.l (List.map (fun x => [U.i x]) (aftL (pR (Pm.one (Int.toNat n))) (List.getD w (Int.toNat i) (0 : Int))))]]) (List.length (L ++ [[U.l (List.map (fun x => [U.i x]) (aftL (pR (Pm.one (Int.toNat n))) (List.getD w (Int.toNat i) (0 : Int))))]])) (bc nn true (Nat.blt (0 : Nat) (List.length [[U.l (List.map (fun x => [U.i x]) (aftL (pR (Pm.one (Int.toNat n))) (List.getD w (Int.toNat i) (0 : Int))))]]))) (IntKind.wrap IntKind.i64 (i + (1 : Int))))) .bad) (.at (sB (n) (w) (IntKind.wrap IntKind.i64 (pw - (1 : Int))) (L) (len) (nn) (i) ((0 : Int))))) .bad) .bad) (.at (sC (n) (pw) (L) (len) (nn) (true)))) := by kernel_rfl
theorem b_t (n : Int) (w : List Int) (pw : Int) (L : List (List U)) (len : Nat) (nn : Bool) (i j : Int) : RUN (stOf (sB n w pw L len nn i j)) = (bc (decide (j < Int.ofNat len)) (bc (bc (bc (decide ((0 : Int) ≤ j)) (Nat.blt (Int.toNat j) len) false) true false) (bc (bc (Nat.blt (Int.toNat j) (List.length L)) true false) (bc (decide (PmL (List.map (fun r => U.int (List.headD r (U.i (0 : Int)))) (U.list (List.getD (List.getD L (Int.toNat j) []) (0 : Nat) (U.i (0 : Int))))))) (bc (bc (bc (decide ((0 : Int) ≤ j)) (Nat.blt (Int.toNat j) len) false) true false) (bc (Nat.blt (Int.toNat j) (List.length L)) (.at (sB (n) (w) (pw) (List.set L (Int.toNat j) [U.l (List.map (fun x => [U.i x]) (trnL (List.map (fun r => U.int (List.headD r (U.i (0 : Int)))) (U.list (List.getD (List.getD L (Int.toNat j) []) (0 : Nat) (U.i (0 : Int)))))))]) (len) (nn) (i) (IntKind.wrap IntKind.i64 (j + (1 : Int))))) .bad) .bad) .bad) .bad) .bad) (bc (bc (bc (decide ((0 : Int) ≤ i)) (Nat.blt (Int.toNat i) (List.length w)) false) true false) (bc (bc (Nat.blt (Int.toNat i) (List.length w)) true false) (bc (decide (n ≤ (100 : Int) ∧ (0 : Int) < IntKind.wrap IntKind.i64 ((0 : Int) - List.getD w (Int.toNat i) (0 : Int)) ∧ IntKind.wrap IntKind.i64 ((0 : Int) - List.getD w (Int.toNat i) (0 : Int)) < n)) (bc (bc (Nat.beq len (List.length L)) (bc (Nat.ble (len + List.length [[U.l (List.map (fun x => [U.i x]) (woL n (IntKind.wrap IntKind.i64 ((0 : Int) - List.getD w (Int.toNat i) (0 : Int)))))]]) (65536 : Nat)) (bc nn true (bc nn false true)) false) false) (.at (sA (n) (w) (pw) (L ++ [[U.l (List.map (fun x => [U.i x]) (woL n (IntKind.wrap IntKind.i64 ((0 : Int) - List.getD w (Int.toNat i) (0 : Int)))))]]) (List.length (L ++ [[U.l (List.map (fun x => [U.i x]) (woL n (IntKind.wrap IntKind.i64 ((0 : Int) - List.getD w (Int.toNat i) (0 : Int)))))]])) (bc nn true (Nat.blt (0 : Nat) (List.length [[U.l (List.map (fun x => [U.i x]) (woL n (IntKind.wrap IntKind.i64 ((0 : Int) - List.getD w (Int.toNat i) (0 : Int)))))]]))) (IntKind.wrap IntKind.i64 (i + (1 : Int))))) .bad) .bad) .bad) .bad)) := by kernel_rfl
theorem c_t (n : Int) (pw : Int) (L : List (List U)) (len : Nat) (nn : Bool) (ch : Bool) : RUN (stOf (sC n pw L len nn ch)) = (bc (ch) (.at (sD (n) (pw) (L) (len) (nn) (false) (IntKind.wrap IntKind.i64 (Int.ofNat len - (1 : Int))))) (.at (sE (n) (pw) (L) (len) (nn) ([]) ((0 : Nat)) (false) ((0 : Int))))) := by kernel_rfl
theorem d_t (n : Int) (pw : Int) (L : List (List U)) (len : Nat) (nn : Bool) (ch : Bool) (k : Int) : RUN (stOf (sD n pw L len nn ch k)) = (bc (decide ((0 : Int) < k)) (bc (bc (bc (bc (bc (decide ((0 : Int) ≤ IntKind.wrap IntKind.i64 (k - (1 : Int)))) (Nat.blt (Int.toNat (IntKind.wrap IntKind.i64 (k - (1 : Int)))) len) false) true false) (bc (bc (Nat.blt (Int.toNat (IntKind.wrap IntKind.i64 (k - (1 : Int)))) (List.length L)) true false) (bc (bc (bc (decide ((0 : Int) ≤ k)) (Nat.blt (Int.toNat k) len) false) true false) (bc (bc (Nat.blt (Int.toNat k) (List.length L)) true false) (bc (decide (RSli.Sl2 (List.map (fun r => U.int (List.headD r (U.i (0 : Int)))) (U.list (List.getD (List.getD L (Int.toNat (IntKind.wrap IntKind.i64 (k - (1 : Int)))) []) (0 : Nat) (U.i (0 : Int))))) (List.map (fun r => U.int (List.headD r (U.i (0 : Int)))) (U.list (List.getD (List.getD L (Int.toNat k) []) (0 : Nat) (U.i (0 : Int))))))) true false) false) false) false) false) true false) (bc (bc (bc (decide ((0 : Int) ≤ IntKind.wrap IntKind.i64 (k - (1 : Int)))) (Nat.blt (Int.toNat (IntKind.wrap IntKind.i64 (k - (1 : Int)))) len) false) true false) (bc (Nat.blt (Int.toNat (IntKind.wrap IntKind.i64 (k - (1 : Int)))) (List.length L)) (bc (bc (bc (decide ((0 : Int) ≤ k)) (Nat.blt (Int.toNat k) len) false) true false) (bc (Nat.blt (Int.toNat k) (List.length (List.set L (Int.toNat (IntKind.wrap IntKind.i64 (k - (1 : Int)))) [U.l (List.map (fun x => [U.i x]) (sl1 (List.map (fun r => U.int (List.headD r (U.i (0 : Int)))) (U.list (List.getD (List.getD L (Int.toNat (IntKind.wrap IntKind.i64 (k - (1 : Int)))) []) (0 : Nat) (U.i (0 : Int))))) (List.map (fun r => U.int (List.headD r (U.i (0 : Int)))) (U.list (List.getD (List.getD L (Int.toNat k) []) (0 : Nat) (U.i (0 : Int)))))))]))) (bc (ch) (.at (sD (n) (pw) (List.set (List.set L (Int.toNat (IntKind.wrap IntKind.i64 (k - (1 : Int)))) [U.l (List.map (fun x => [U.i x]) (sl1 (List.map (fun r => U.int (List.headD r (U.i (0 : Int)))) (U.list (List.getD (List.getD L (Int.toNat (IntKind.wrap IntKind.i64 (k - (1 : Int)))) []) (0 : Nat) (U.i (0 : Int))))) (List.map (fun r => U.int (List.headD r (U.i (0 : Int)))) (U.list (List.getD (List.getD L (Int.toNat k) []) (0 : Nat) (U.i (0 : Int)))))))]) (Int.toNat k) [U.l (List.map (fun x => [U.i x]) (sl2 (List.map (fun r => U.int (List.headD r (U.i (0 : Int)))) (U.list (List.getD (List.getD L (Int.toNat (IntKind.wrap IntKind.i64 (k - (1 : Int)))) []) (0 : Nat) (U.i (0 : Int))))) (List.map (fun r => U.int (List.headD r (U.i (0 : Int)))) (U.list (List.getD (List.getD L (Int.toNat k) []) (0 : Nat) (U.i (0 : Int)))))))]) (len) (nn) (true) (IntKind.wrap IntKind.i64 (k - (1 : Int))))) (.at (sD (n) (pw) (List.set (List.set L (Int.toNat (IntKind.wrap IntKind.i64 (k - (1 : Int)))) [U.l (List.map (fun x => [U.i x]) (sl1 (List.map (fun r => U.int (List.headD r (U.i (0 : Int)))) (U.list (List.getD (List.getD L (Int.toNat (IntKind.wrap IntKind.i64 (k - (1 : Int)))) []) (0 : Nat) (U.i (0 : Int))))) (List.map (fun r => U.int (List.headD r (U.i (0 : Int)))) (U.list (List.getD (List.getD L (Int.toNat k) []) (0 : Nat) (U.i (0 : Int)))))))]) (Int.toNat k) [U.l (List.map (fun x => [U.i x]) (sl2 (List.map (fun r => U.int (List.headD r (U.i (0 : Int)))) (U.list (List.getD (List.getD L (Int.toNat (IntKind.wrap IntKind.i64 (k - (1 : Int)))) []) (0 : Nat) (U.i (0 : Int))))) (List.map (fun r => U.int (List.headD r (U.i (0 : Int)))) (U.list (List.getD (List.getD L (Int.toNat k) []) (0 : Nat) (U.i (0 : Int)))))))]) (len) (nn) (slB (List.map (fun r => U.int (List.headD r (U.i (0 : Int)))) (U.list (List.getD (List.getD L (Int.toNat (IntKind.wrap IntKind.i64 (k - (1 : Int)))) []) (0 : Nat) (U.i (0 : Int))))) (List.map (fun r => U.int (List.headD r (U.i (0 : Int)))) (U.list (List.getD (List.getD L (Int.toNat k) []) (0 : Nat) (U.i (0 : Int)))))) (IntKind.wrap IntKind.i64 (k - (1 : Int)))))) .bad) .bad) .bad) .bad) .bad) (.at (sC (n) (pw) (L) (len) (nn) (ch)))) := by kernel_rfl
theorem e_t (n : Int) (pw : Int) (L : List (List U)) (len : Nat) (nn : Bool) (Q : List (List U)) (m : Nat) (nq : Bool) (i : Int) : RUN (stOf (sE n pw L len nn Q m nq i)) = (bc (decide (i < Int.ofNat len)) (bc (Int.ofNat m == (0 : Int)) (bc (decide ((1 : Int) < n)) (bc (bc (bc (decide ((0 : Int) ≤ i)) (Nat.blt (Int.toNat i) len) false) true false) (bc (bc (Nat.blt (Int.toNat i) (List.length L)) true false) (bc (bc (decide (PmL (List.map (fun r => U.int (List.headD r (U.i (0 : Int)))) (U.list (List.getD (List.getD L (Int.toNat i) []) (0 : Nat) (U.i (0 : Int))))) ∧ (1 : Nat) ≤ List.length (List.map (fun r => U.int (List.headD r (U.i (0 : Int)))) (U.list (List.getD (List.getD L (Int.toNat i) []) (0 : Nat) (U.i (0 : Int))))) ∧ ((-1 : Int) = (1 : Int) ∨ (-1 : Int) = (-1 : Int)))) true false) (bc (flL (List.map (fun r => U.int (List.headD r (U.i (0 : Int)))) (U.list (List.getD (List.getD L (Int.toNat i) []) (0 : Nat) (U.i (0 : Int))))) (-1 : Int)) (.at (sE (n) (IntKind.wrap IntKind.i64 (pw + (1 : Int))) (L) (len) (nn) (Q) (m) (nq) (IntKind.wrap IntKind.i64 (i + (1 : Int))))) (bc (bc (bc (decide ((0 : Int) ≤ i)) (Nat.blt (Int.toNat i) len) false) true false) (bc (bc (Nat.blt (Int.toNat i) (List.length L)) true false) (bc (bc (decide (PmL (List.map (fun r => U.int (List.headD r (U.i (0 : Int)))) (U.list (List.getD (List.getD L (Int.toNat i) []) (0 : Nat) (U.i (0 : Int))))) ∧ (1 : Nat) ≤ List.length (List.map (fun r => U.int (List.headD r (U.i (0 : Int)))) (U.list (List.getD (List.getD L (Int.toNat i) []) (0 : Nat) (U.i (0 : Int))))) ∧ ((1 : Int) = (1 : Int) ∨ (1 : Int) = (-1 : Int)))) true false) (bc (!flL (List.map (fun r => U.int (List.headD r (U.i (0 : Int)))) (U.list (List.getD (List.getD L (Int.toNat i) []) (0 : Nat) (U.i (0 : Int))))) (1 : Int)) (bc (bc (bc (decide ((0 : Int) ≤ i)) (Nat.blt (Int.toNat i) len) false) true false) (bc (bc (Nat.blt (Int.toNat i) (List.length L)) true false) (bc (bc (Nat.beq m (List.length Q)) (bc (Nat.ble (m + List.length [[U.l (List.map (fun x => [U.i x]) (List.map (fun r => U.int (List.headD r (U.i (0 : Int)))) (U.list (List.getD (List.getD L (Int.toNat i) []) (0 : Nat) (U.i (0 : Int))))))]]) (65536 : Nat)) (bc nq true (bc nq false true)) false) false) (.at (sE (n) (pw) (L) (len) (nn) (Q ++ [[U.l (List.map (fun x => [U.i x]) (List.map (fun r => U.int (List.headD r (U.i (0 : Int)))) (U.list (List.getD (List.getD L (Int.toNat i) []) (0 : Nat) (U.i (0 : Int))))))]]) (List.length (Q ++ [[U.l (List.map (fun x => [U.i x]) (List.map (fun r => U.int (List.headD r (U.i (0 : Int)))) (U.list (List.getD (List.getD L (Int.toNat i) []) (0 : Nat) (U.i (0 : Int))))))]])) (bc nq true (Nat.blt (0 : Nat) (List.length [[U.l (List.map (fun x => [U.i x]) (List.map (fun r => U.int (List.headD r (U.i (0 : Int)))) (U.list (List.getD (List.getD L (Int.toNat i) []) (0 : Nat) (U.i (0 : Int))))))]]))) (IntKind.wrap IntKind.i64 (i + (1 : Int))))) .bad) .bad) .bad) (.at (sE (n) (pw) (L) (len) (nn) (Q) (m) (nq) (IntKind.wrap IntKind.i64 (i + (1 : Int)))))) .bad) .bad) .bad)) .bad) .bad) .bad) (bc (bc (bc (decide ((0 : Int) ≤ i)) (Nat.blt (Int.toNat i) len) false) true false) (bc (bc (Nat.blt (Int.toNat i) (List.length L)) true false) (bc (bc (decide (PmL (List.map (fun r => U.int (List.headD r (U.i (0 : Int)))) (U.list (List.getD (List.getD L (Int.toNat i) []) (0 : Nat) (U.i (0 : Int))))) ∧ (1 : Nat) ≤ List.length (List.map (fun r => U.int (List.headD r (U.i (0 : Int)))) (U.list (List.getD (List.getD L (Int.toNat i) []) (0 : Nat) (U.i (0 : Int))))) ∧ ((1 : Int) = (1 : Int) ∨ (1 : Int) = (-1 : Int)))) true false) (bc (!flL (List.map (fun r => U.int (List.headD r (U.i (0 : Int)))) (U.list (List.getD (List.getD L (Int.toNat i) []) (0 : Nat) (U.i (0 : Int))))) (1 : Int)) (bc (bc (bc (decide ((0 : Int) ≤ i)) (Nat.blt (Int.toNat i) len) false) true false) (bc (bc (Nat.blt (Int.toNat i) (List.length L)) true false) (bc (bc (Nat.beq m (List.length Q)) (bc (Nat.ble (m + List.length [[U.l (List.map (fun x => [U.i x]) (List.map (fun r => U.int (List.headD r (U.i (0 : Int)))) (U.list (List.getD (List.getD L (Int.toNat i) []) (0 : Nat) (U.i (0 : Int))))))]]) (65536 : Nat)) (bc nq true (bc nq false true)) false) false) (.at (sE (n) (pw) (L) (len) (nn) (Q ++ [[U.l (List.map (fun x => [U.i x]) (List.map (fun r => U.int (List.headD r (U.i (0 : Int)))) (U.list (List.getD (List.getD L (Int.toNat i) []) (0 : Nat) (U.i (0 : Int))))))]]) (List.length (Q ++ [[U.l (List.map (fun x => [U.i x]) (List.map (fun r => U.int (List.headD r (U.i (0 : Int)))) (U.list (List.getD (List.getD L (Int.toNat i) []) (0 : Nat) (U.i (0 : Int))))))]])) (bc nq true (Nat.blt (0 : Nat) (List.length [[U.l (List.map (fun x => [U.i x]) (List.map (fun r => U.int (List.headD r (U.i (0 : Int)))) (U.list (List.getD (List.getD L (Int.toNat i) []) (0 : Nat) (U.i (0 : Int))))))]]))) (IntKind.wrap IntKind.i64 (i + (1 : Int))))) .bad) .bad) .bad) (.at (sE (n) (pw) (L) (len) (nn) (Q) (m) (nq) (IntKind.wrap IntKind.i64 (i + (1 : Int)))))) .bad) .bad) .bad)) (bc (bc (bc (decide ((0 : Int) ≤ i)) (Nat.blt (Int.toNat i) len) false) true false) (bc (bc (Nat.blt (Int.toNat i) (List.length L)) true false) (bc (bc (decide (PmL (List.map (fun r => U.int (List.headD r (U.i (0 : Int)))) (U.list (List.getD (List.getD L (Int.toNat i) []) (0 : Nat) (U.i (0 : Int))))) ∧ (1 : Nat) ≤ List.length (List.map (fun r => U.int (List.headD r (U.i (0 : Int)))) (U.list (List.getD (List.getD L (Int.toNat i) []) (0 : Nat) (U.i (0 : Int))))) ∧ ((1 : Int) = (1 : Int) ∨ (1 : Int) = (-1 : Int)))) true false) (bc (!flL (List.map (fun r => U.int (List.headD r (U.i (0 : Int)))) (U.list (List.getD (List.getD L (Int.toNat i) []) (0 : Nat) (U.i (0 : Int))))) (1 : Int)) (bc (bc (bc (decide ((0 : Int) ≤ i)) (Nat.blt (Int.toNat i) len) false) true false) (bc (bc (Nat.blt (Int.toNat i) (List.length L)) true false) (bc (bc (Nat.beq m (List.length Q)) (bc (Nat.ble (m + List.length [[U.l (List.map (fun x => [U.i x]) (List.map (fun r => U.int (List.headD r (U.i (0 : Int)))) (U.list (List.getD (List.getD L (Int.toNat i) []) (0 : Nat) (U.i (0 : Int))))))]]) (65536 : Nat)) (bc nq true (bc nq false true)) false) false) (.at (sE (n) (pw) (L) (len) (nn) (Q ++ [[U.l (List.map (fun x => [U.i x]) (List.map (fun r => U.int (List.headD r (U.i (0 : Int)))) (U.list (List.getD (List.getD L (Int.toNat i) []) (0 : Nat) (U.i (0 : Int))))))]]) (List.length (Q ++ [[U.l (List.map (fun x => [U.i x]) (List.map (fun r => U.int (List.headD r (U.i (0 : Int)))) (U.list (List.getD (List.getD L (Int.toNat i) []) (0 : Nat) (U.i (0 : Int))))))]])) (bc nq true (Nat.blt (0 : Nat) (List.length [[U.l (List.map (fun x => [U.i x]) (List.map (fun r => U.int (List.headD r (U.i (0 : Int)))) (U.list (List.getD (List.getD L (Int.toNat i) []) (0 : Nat) (U.i (0 : Int))))))]]))) (IntKind.wrap IntKind.i64 (i + (1 : Int))))) .bad) .bad) .bad) (.at (sE (n) (pw) (L) (len) (nn) (Q) (m) (nq) (IntKind.wrap IntKind.i64 (i + (1 : Int)))))) .bad) .bad) .bad)) (bc (bc (Nat.beq m (List.length Q)) true false) (.done (EV.tup [(EV.v (Value.int IntKind.i64 (pw))), (EV.lst (SyC.recs [(Sh.list [(Sh.int IntKind.i64)])] (Q))), (EV.v (Value.int IntKind.i64 (0)))]) [] 0) .bad)) := by kernel_rfl
end RNrm
end Go.Proofs.Ytooimphimnagaaa.Ev
namespace Go.Proofs.Ytooimphimnagaaa.Ev
open Go.Proofs
variable {n : Nat}
theorem mu_step {s t : List (Pm n)} (h : Mvs s t) : s = t ∨ mu t < mu s := by
  induction h with
  | refl s => exact .inl rfl
  | step h1 h2 ih =>
    have h3 := h1.mu; rcases ih with e | e
    · subst e; exact .inr h3
    · exact .inr (by omega)
theorem encR_at (A B : List (Pm n)) (p : Pm n) : (encR (A ++ p :: B)).getD A.length [] = rowU p := by
  unfold encR; rw [List.map_append, List.getD_eq_getElem?_getD, List.getElem?_append_right (by rw [List.length_map]; exact Nat.le_refl _), List.length_map, Nat.sub_self]; rfl
theorem encR_set (A B : List (Pm n)) (p q : Pm n) : (encR (A ++ p :: B)).set A.length (rowU q) = encR (A ++ q :: B) := by
  unfold encR; rw [List.map_append, List.map_append, List.set_append_right _ _ (by rw [List.length_map]; exact Nat.le_refl _), List.length_map, Nat.sub_self]; rfl
theorem encR_app (F G : List (Pm n)) : encR (F ++ G) = encR F ++ encR G := List.map_append
theorem rowU_of (p : Pm n) : [U.l (List.map (fun x => [U.i x]) (pR p))] = rowU p := rfl
theorem sl2_ok (hn1 : 1 ≤ n) (hn : n ≤ 12) (a b : Pm n) : RSli.Sl2 (pR a) (pR b) := by
  have key : ∀ m, m = n → (∃ p : Pm m, pR a = pR p) ∧ ∃ q : Pm m, pR b = pR q := fun m e => by subst e; exact ⟨⟨a, rfl⟩, b, rfl⟩
  exact ⟨by rw [pR_len]; exact hn1, by rw [pR_len]; exact hn, key _ (pR_len a)⟩
namespace RNrm
theorem stepP {w : List Int} {s : Int × List (Pm n)} {nn : Bool} {i k : Nat} (hn : n ≤ 12) (hk : 0 < k ∧ k < n) (hi : i < w.length) (hw : w.length ≤ 400) (hx : w.getD i 0 = (k : Int)) (hl : s.2.length ≤ 400) : RUN (stOf (sA n w s.1 (encR s.2) s.2.length nn i)) = .at (sA n w (stepW s k).1 (encR (stepW s k).2) (stepW s k).2.length true (i + 1 : Nat)) := by
  rw [a_t]; have e0 : ((i : Int)).toNat = i := rfl; have e1 : pR (Pm.one ((n : Int)).toNat) = pR (Pm.one n) := rfl; have e2 : pR ((Pm.one n).R k hk) = pR (ltr k hk) := rfl; rw [e0, hx, e1, aftL_pR (Pm.one n) hk, e2, pR_len, encR_len, rowU_of]; have c1 : 0 ≤ (n : Int) ∧ (n : Int) ≤ 100 := ⟨by omega, by omega⟩; have c2 : n ≤ 1000 ∧ -1000 ≤ (k : Int) ∧ (k : Int) ≤ 1000 := ⟨by omega, by omega, by omega⟩; have e3 : encR s.2 ++ [rowU (ltr k hk)] = encR (s.2 ++ [ltr k hk]) := by rw [encR_app]; rfl
  rw [dt c1, dt c2, e3, nn_ok, encR_len, stepW_pos hk, List.length_append, List.length_singleton, List.length_singleton]; have e4 : bc nn true (Nat.blt 0 1) = true := by cases nn <;> rfl
  simp (disch := omega) only [Nat.add_eq, eqSy_self, eqN_self, bc_same, List.length_cons, ofn, wrap_in, dt, df, bltD, bltN, ble_of, bleN, beqD, bc_t, bc_f, nn_ok, Nat.zero_add, to_nat, Int.zero_add, Int.sub_zero, Int.sub_self, Int.cast_ofNat_Int, Int.natCast_zero, Int.toNat_zero, List.take_zero, List.nil_append, List.length_append, List.length_nil, e4]; rfl
theorem stepN {w : List Int} {s : Int × List (Pm n)} {nn : Bool} {i k : Nat} (hn : n ≤ 12) (hk : 0 < k ∧ k < n) (hi : i < w.length) (hw : w.length ≤ 400) (hx : w.getD i 0 = -(k : Int)) (h1 : -1000 ≤ s.1) (h2 : s.1 ≤ 1000) : RUN (stOf (sA n w s.1 (encR s.2) s.2.length nn i)) = .at (sB n w (s.1 - 1) (encR s.2) s.2.length nn i (0 : Nat)) := by
  rw [a_t]; have e0 : ((i : Int)).toNat = i := rfl; rw [e0, hx, wrap_in (s.1 - 1) (by omega) (by omega)]; simp (disch := omega) only [Nat.add_eq, eqSy_self, eqN_self, bc_same, List.length_cons, ofn, wrap_in, dt, df, bltD, bltN, ble_of, bleN, beqD, bc_t, bc_f, nn_ok, Nat.zero_add, to_nat, Int.zero_add, Int.sub_zero, Int.sub_self, Int.cast_ofNat_Int, Int.natCast_zero, Int.toNat_zero, List.take_zero, List.nil_append, List.length_append, List.length_nil]
theorem stepB {w : List Int} {pw : Int} {A B : List (Pm n)} {p : Pm n} {len : Nat} {nn : Bool} {i : Int} (hn : n ≤ 12) (hl : len = A.length + 1 + B.length) (hz : len ≤ 400) : RUN (stOf (sB n w pw (encR (A ++ p :: B)) len nn i A.length)) = .at (sB n w pw (encR (A ++ p.trn :: B)) len nn i (A.length + 1 : Nat)) := by
  rw [b_t]; have e0 : ((A.length : Int)).toNat = A.length := rfl; have f1 : List.map (fun r => U.int (List.headD r (U.i 0))) (U.list (List.getD (rowU p) 0 (U.i 0))) = pR p := facR_rowU p; have e5 : (A ++ p :: B).length = len := by rw [List.length_append, List.length_cons]; omega
  rw [e0, encR_at, f1, trnL_pR, rowU_of, encR_set, encR_len, e5, dt (PmL.pR hn p)]; simp (disch := omega) only [Nat.add_eq, eqSy_self, eqN_self, bc_same, List.length_cons, ofn, wrap_in, dt, df, bltD, bltN, ble_of, bleN, beqD, bc_t, bc_f, nn_ok, Nat.zero_add, to_nat, Int.zero_add, Int.sub_zero, Int.sub_self, Int.cast_ofNat_Int, Int.natCast_zero, Int.toNat_zero, List.take_zero, List.nil_append, List.length_append, List.length_nil]; rfl
theorem lastB {w : List Int} {s : Int × List (Pm n)} {nn : Bool} {i k : Nat} (hn : n ≤ 12) (hk : 0 < k ∧ k < n) (hi : i < w.length) (hw : w.length ≤ 400) (hx : w.getD i 0 = -(k : Int)) (hl : s.2.length ≤ 400) : RUN (stOf (sB n w (s.1 - 1) (encR (s.2.map Pm.trn)) s.2.length nn i s.2.length)) = .at (sA n w (stepW s (-(k : Int))).1 (encR (stepW s (-(k : Int))).2) (stepW s (-(k : Int))).2.length true (i + 1 : Nat)) := by
  rw [b_t]; have e0 : ((i : Int)).toNat = i := rfl; have w0 : IntKind.i64.wrap (0 - -(k : Int)) = (k : Int) := by rw [wrap_in _ (by omega) (by omega)]; omega
  have c1 : (n : Int) ≤ 100 ∧ 0 < (k : Int) ∧ (k : Int) < n := ⟨by omega, by omega, by omega⟩; have e3 : encR (s.2.map Pm.trn) ++ [rowU (ctr k hk)] = encR (s.2.map Pm.trn ++ [ctr k hk]) := by rw [encR_app]; rfl
  rw [e0, hx, w0, woL_pR hk, rowU_of, dt c1, e3, nn_ok, encR_len, encR_len, stepW_neg hk, List.length_append, List.length_map, List.length_singleton, List.length_singleton]; have e4 : bc nn true (Nat.blt 0 1) = true := by cases nn <;> rfl
  simp (disch := omega) only [Nat.add_eq, eqSy_self, eqN_self, bc_same, List.length_cons, ofn, wrap_in, dt, df, bltD, bltN, ble_of, bleN, beqD, bc_t, bc_f, nn_ok, Nat.zero_add, to_nat, Int.zero_add, Int.sub_zero, Int.sub_self, Int.cast_ofNat_Int, Int.natCast_zero, Int.toNat_zero, List.take_zero, List.nil_append, List.length_append, List.length_nil, e4]; rfl
theorem loopB {w : List Int} {pw : Int} {len : Nat} {nn : Bool} {i : Int} (hn : n ≤ 12) (hz : len ≤ 400) : ∀ (B A : List (Pm n)), len = A.length + B.length → LeadsZ Try.prog (stOf (sB n w pw (encR (A.map Pm.trn ++ B)) len nn i A.length)) (stOf (sB n w pw (encR ((A ++ B).map Pm.trn)) len nn i len))
  | [], A, h => by
    rw [List.append_nil, List.append_nil]; have : len = A.length := h; rw [this]; exact LeadsZ.refl _
  | p :: B, A, h => by
    rw [List.length_cons] at h; have h1 := stepB (w := w) (pw := pw) (A := A.map Pm.trn) (B := B) (p := p) (len := len) (nn := nn) (i := i) hn (by rw [List.length_map]; omega) hz; rw [List.length_map] at h1; have h3 := loopB (w := w) (pw := pw) (nn := nn) (i := i) hn hz B (A ++ [p]) (by rw [List.length_append, List.length_singleton]; omega); rw [List.length_append, List.length_singleton, List.map_append, List.append_assoc, List.append_assoc] at h3; exact (leadsZ ct_ok h1).trans h3
theorem stepW_len (s : Int × List (Pm n)) (x : Int) : (stepW s x).2.length ≤ s.2.length + 1 ∧ s.1 - 1 ≤ (stepW s x).1 ∧ (stepW s x).1 ≤ s.1 := by
  unfold stepW; split
  · split
    · refine ⟨by simp, by show s.1 - 1 ≤ s.1; omega, Int.le_refl _⟩
    · refine ⟨by simp, Int.le_refl _, by show s.1 - 1 ≤ s.1; omega⟩
  · exact ⟨by omega, by omega, Int.le_refl _⟩
theorem loopA {w : List Int} (hn : n ≤ 12) (hw : w.length ≤ 400) (hv : Vld n w) : ∀ (k i : Nat) (s : Int × List (Pm n)) (nn : Bool), i + k = w.length → s.2.length ≤ i → -(i : Int) ≤ s.1 → s.1 ≤ 0 → ∃ nn', LeadsZ Try.prog (stOf (sA n w s.1 (encR s.2) s.2.length nn i)) (stOf (sC n ((w.drop i).foldl stepW s).1 (encR ((w.drop i).foldl stepW s).2) ((w.drop i).foldl stepW s).2.length nn' true))
  | 0, i, s, nn, h, h1, h2, h3 => by
    rw [List.drop_eq_nil_of_le (by omega)]; have h := a_t n w s.1 (encR s.2) s.2.length nn i; simp (disch := omega) only [Nat.add_eq, eqSy_self, eqN_self, bc_same, List.length_cons, ofn, wrap_in, dt, df, bltD, bltN, ble_of, bleN, beqD, bc_t, bc_f, nn_ok, Nat.zero_add, to_nat, Int.zero_add, Int.sub_zero, Int.sub_self, Int.cast_ofNat_Int, Int.natCast_zero, Int.toNat_zero, List.take_zero, List.nil_append, List.length_append, List.length_nil] at h; exact ⟨nn, leadsZ ct_ok h⟩
  | k + 1, i, s, nn, h, h1, h2, h3 => by
    have hi : i < w.length := by omega
    rw [List.drop_eq_getElem_cons hi, List.foldl_cons]; obtain ⟨v1, v2, v3⟩ := hv _ (List.getElem_mem hi); have hg : w.getD i 0 = w[i] := getD_at hi; generalize w[i] = x at *; have hs := stepW_len s x; obtain ⟨nn', h4⟩ := loopA hn hw hv k (i + 1) (stepW s x) true (by omega) (by omega) (by omega) (by omega); refine ⟨nn', ?_⟩; rcases Int.lt_or_lt_of_ne v1 with hx | hx
    · obtain ⟨q, hq⟩ := Int.eq_ofNat_of_zero_le (show 0 ≤ -x by omega); have hq : x = -(q : Int) := by omega
      subst hq; have hk : 0 < q ∧ q < n := by omega
      have g1 := stepN (w := w) (s := s) (nn := nn) hn hk hi hw hg (by omega) (by omega); have g2 := loopB (w := w) (pw := s.1 - 1) (nn := nn) (i := i) (len := s.2.length) hn (by omega) s.2 [] (by simp); have g3 := lastB (w := w) (s := s) (nn := nn) hn hk hi hw hg (by omega); exact (((leadsZ ct_ok g1).trans g2).trans (leadsZ ct_ok g3)).trans h4
    · obtain ⟨q, rfl⟩ := Int.eq_ofNat_of_zero_le (show 0 ≤ x by omega); have hk : 0 < q ∧ q < n := by omega
      exact (leadsZ ct_ok (stepP hn hk hi hw hg (by omega))).trans h4
theorem stepD {pw : Int} {A B : List (Pm n)} {a b : Pm n} {len : Nat} {nn ch : Bool} (hn1 : 1 ≤ n) (hn : n ≤ 12) (hl : len = A.length + 2 + B.length) (hz : len ≤ 400) : RUN (stOf (sD n pw (encR (A ++ a :: b :: B)) len nn ch (A.length + 1 : Nat))) = .at (sD n pw (encR (A ++ nf1 a b :: nf2 a b :: B)) len nn (bc ch true (decide (nf1 a b ≠ a))) A.length) := by
  rw [d_t]; have w1 : IntKind.i64.wrap (((A.length + 1 : Nat) : Int) - 1) = (A.length : Int) := by rw [wrap_in _ (by omega) (by omega)]; omega
  have e0 : ((A.length : Int)).toNat = A.length := rfl; have e1 : (((A.length + 1 : Nat) : Int)).toNat = A.length + 1 := rfl; have f : ∀ p : Pm n, List.map (fun r => U.int (List.headD r (U.i 0))) (U.list (List.getD (rowU p) 0 (U.i 0))) = pR p := fun p => facR_rowU p; have a1 : A ++ a :: b :: B = (A ++ [a]) ++ b :: B := by rw [List.append_assoc]; rfl
  have l1 : A.length + 1 = (A ++ [a]).length := by rw [List.length_append]; rfl
  have g1 : (encR (A ++ a :: b :: B)).getD (A.length + 1) [] = rowU b := by rw [a1, l1]; exact encR_at _ _ _
  rw [w1, e0, e1, encR_at, g1, f, f, sl1_pR, sl2_pR, slB_pR, rowU_of, rowU_of, encR_set]; have a2 : A ++ nf1 a b :: b :: B = (A ++ [nf1 a b]) ++ b :: B := by rw [List.append_assoc]; rfl
  have l2 : A.length + 1 = (A ++ [nf1 a b]).length := by rw [List.length_append]; rfl
  have g2 : (encR (A ++ nf1 a b :: b :: B)).set (A.length + 1) (rowU (nf2 a b)) = encR (A ++ nf1 a b :: nf2 a b :: B) := by
    rw [a2, l2, encR_set, List.append_assoc]; rfl
  have n1 : (A ++ a :: b :: B).length = len := by rw [List.length_append, List.length_cons, List.length_cons]; omega
  have n2 : (A ++ nf1 a b :: b :: B).length = len := by rw [List.length_append, List.length_cons, List.length_cons]; omega
  rw [g2, encR_len, encR_len, n1, n2, dt (sl2_ok hn1 hn a b)]; cases ch <;> simp (disch := omega) only [Nat.add_eq, eqSy_self, eqN_self, bc_same, List.length_cons, ofn, wrap_in, dt, df, bltD, bltN, ble_of, bleN, beqD, bc_t, bc_f, nn_ok, Nat.zero_add, to_nat, Int.zero_add, Int.sub_zero, Int.sub_self, Int.cast_ofNat_Int, Int.natCast_zero, Int.toNat_zero, List.take_zero, List.nil_append, List.length_append, List.length_nil]
theorem lastD {pw : Int} {L : List (List U)} {len : Nat} {nn ch : Bool} {k : Int} (hk : k ≤ 0) : RUN (stOf (sD n pw L len nn ch k)) = .at (sC n pw L len nn ch) := by
  rw [d_t]; simp (disch := omega) only [Nat.add_eq, eqSy_self, eqN_self, bc_same, List.length_cons, ofn, wrap_in, dt, df, bltD, bltN, ble_of, bleN, beqD, bc_t, bc_f, nn_ok, Nat.zero_add, to_nat, Int.zero_add, Int.sub_zero, Int.sub_self, Int.cast_ofNat_Int, Int.natCast_zero, Int.toNat_zero, List.take_zero, List.nil_append, List.length_append, List.length_nil]

theorem loopD {pw : Int} {len : Nat} {nn : Bool} (hn1 : 1 ≤ n) (hn : n ≤ 12) (hz : len ≤ 400) : ∀ (r : List (Pm n)) (b : Pm n) (B : List (Pm n)) (ch : Bool), len = r.length + 1 + B.length → (ch = false → Nrm (b :: B)) →
    ∃ l' ch', Mvs (r.reverse ++ b :: B) l' ∧ (ch' = false → Nrm l' ∧ ch = false) ∧ (ch' = true → ch = true ∨ mu l' < mu (r.reverse ++ b :: B)) ∧ LeadsZ Try.prog (stOf (sD n pw (encR (r.reverse ++ b :: B)) len nn ch r.length)) (stOf (sC n pw (encR l') len nn ch'))
  | [], b, B, ch, h, hN => ⟨b :: B, ch, .refl _, fun e => ⟨hN e, e⟩, fun e => .inl e, leadsZ ct_ok (lastD (by simp))⟩
  | a :: r, b, B, ch, h, hN => by
    rw [List.length_cons] at h; have hA : r.reverse.length = r.length := List.length_reverse; have h1 := stepD (pw := pw) (A := r.reverse) (B := B) (a := a) (b := b) (len := len) (nn := nn) (ch := ch) hn1 hn (by omega) hz; rw [hA] at h1; have e1 : (a :: r).reverse ++ b :: B = r.reverse ++ a :: b :: B := by rw [List.reverse_cons, List.append_assoc]; rfl
    rw [e1]; have hm := (NF_mv [a, b]).app B |>.pre r.reverse
    obtain ⟨q1, q2, q3⟩ := nf12 a b; rw [q1] at hm; have hm : Mvs (r.reverse ++ a :: b :: B) (r.reverse ++ nf1 a b :: nf2 a b :: B) := hm; have hN2 : bc ch true (decide (nf1 a b ≠ a)) = false → Nrm (nf1 a b :: nf2 a b :: B) := fun e => by
      cases ch with
      | true => cases e
      | false =>
        have e2 : nf1 a b = a := Classical.byContradiction fun hne => by
          have : decide (nf1 a b ≠ a) = true := decide_eq_true hne; rw [this] at e; cases e
        have e3 := nf2_same e2; rw [e3] at q3 ⊢; exact nrm_cons.2 ⟨q3, hN rfl⟩
    obtain ⟨l', ch', g1, g2, g3, g4⟩ := loopD (pw := pw) (nn := nn) hn1 hn hz r (nf1 a b) (nf2 a b :: B) (bc ch true (decide (nf1 a b ≠ a))) (by rw [List.length_cons]; omega) hN2; refine ⟨l', ch', hm.trans g1, fun e => ⟨(g2 e).1, ?_⟩, fun e => ?_, (leadsZ ct_ok h1).trans g4⟩
    · have := (g2 e).2
      cases ch with
      | true => cases this
      | false => rfl
    · cases ch with
      | true => exact .inl rfl
      | false =>
        right; rcases g3 e with e2 | e2
        · have hne : nf1 a b ≠ a := of_decide_eq_true e2; rcases mu_step hm with e3 | e3
          · have := List.append_cancel_left e3; injection this with this _
            exact absurd this.symm hne
          · rcases mu_step g1 with e4 | e4
            · rw [← e4]; exact e3
            · omega
        · rcases mu_step hm with e3 | e3
          · rw [← e3] at e2; exact e2
          · omega
theorem stepC1 {pw : Int} {l : List (Pm n)} {nn : Bool} (hz : l.length ≤ 400) : RUN (stOf (sC n pw (encR l) l.length nn true)) = .at (sD n pw (encR l) l.length nn false ((l.length : Int) - 1)) := by
  rw [c_t, ofn, wrap_in _ (by omega) (by omega)]; rfl
theorem stepC0 {pw : Int} {l : List (Pm n)} {nn : Bool} : RUN (stOf (sC n pw (encR l) l.length nn false)) = .at (sE n pw (encR l) l.length nn [] 0 false (0 : Nat)) := by
  rw [c_t]; rfl

theorem loopC {pw : Int} {nn : Bool} (hn1 : 1 ≤ n) (hn : n ≤ 12) : ∀ (μ : Nat) (l : List (Pm n)), mu l ≤ μ → l.length ≤ 400 → LeadsZ Try.prog (stOf (sC n pw (encR l) l.length nn true)) (stOf (sE n pw (encR (NF l)) (NF l).length nn [] 0 false (0 : Nat)))
  | μ, l, hμ, hl => by
    refine (leadsZ ct_ok (stepC1 hl)).trans ?_; rcases List.eq_nil_or_concat l with e | ⟨r, b, e⟩
    · subst e; have h1 := lastD (n := n) (pw := pw) (L := encR ([] : List (Pm n))) (len := 0) (nn := nn) (ch := false) (k := ((0 : Nat) : Int) - 1) (by omega); have h2 : NF ([] : List (Pm n)) = [] := NF_of (.refl _) nrm_nil; rw [h2]; exact (leadsZ ct_ok h1).trans (leadsZ ct_ok stepC0)
    · rw [List.concat_eq_append] at e; subst e; obtain ⟨l', ch', g1, g2, g3, g4⟩ := loopD (pw := pw) (nn := nn) (len := (r ++ [b]).length) hn1 hn hl r.reverse b [] false (by rw [List.length_append, List.length_reverse]; rfl) (fun _ => nrm_single _); rw [List.reverse_reverse, List.length_reverse] at g4; rw [List.reverse_reverse] at g1 g3; have e1 : (((r ++ [b]).length : Nat) : Int) - 1 = (r.length : Int) := by rw [List.length_append, List.length_singleton]; omega
      rw [e1]; refine g4.trans ?_; have hlen := g1.len; rw [← hlen]
      cases ch' with
      | false =>
        have hNF : NF (r ++ [b]) = l' := NF_of g1 (g2 rfl).1; rw [hNF]; exact leadsZ ct_ok stepC0
      | true =>
        rcases g3 rfl with e2 | e2
        · cases e2
        · match μ with
          | 0 => omega
          | μ + 1 =>
            have := loopC (pw := pw) (nn := nn) hn1 hn μ l' (by omega) (by rw [hlen]; exact hl); rw [NF_eq g1] at this; exact this

noncomputable def outE : List (Pm n) → Int → List (Pm n) → Int × List (Pm n)
  | [], pw, Q => (pw, Q)
  | p :: R, pw, Q => bc (bc (decide (Q = [])) (decide (p = Pm.del n)) false) (outE R (pw + 1) Q) (bc (decide (p = Pm.one n)) (outE R pw Q) (outE R pw (Q ++ [p])))
theorem stepE {pw : Int} {A B Q : List (Pm n)} {p : Pm n} {len : Nat} {nn nq : Bool} (hn2 : 2 ≤ n) (hn : n ≤ 12) (hl : len = A.length + 1 + B.length) (hz : len ≤ 400) (hq : Q.length ≤ 400) (h1 : -1000 ≤ pw) (h2 : pw ≤ 1000) :
    RUN (stOf (sE n pw (encR (A ++ p :: B)) len nn (encR Q) Q.length nq A.length)) = bc (bc (decide (Q = [])) (decide (p = Pm.del n)) false) (.at (sE n (pw + 1) (encR (A ++ p :: B)) len nn (encR Q) Q.length nq (A.length + 1 : Nat))) (bc (decide (p = Pm.one n)) (.at (sE n pw (encR (A ++ p :: B)) len nn (encR Q) Q.length nq (A.length + 1 : Nat))) (.at (sE n pw (encR (A ++ p :: B)) len nn (encR (Q ++ [p])) (Q ++ [p]).length true (A.length + 1 : Nat)))) := by
  rw [e_t]; have e0 : ((A.length : Int)).toNat = A.length := rfl; have f1 : List.map (fun r => U.int (List.headD r (U.i 0))) (U.list (List.getD (rowU p) 0 (U.i 0))) = pR p := facR_rowU p; have n1 : (A ++ p :: B).length = len := by rw [List.length_append, List.length_cons]; omega
  have c1 : PmL (pR p) ∧ 1 ≤ n ∧ ((-1 : Int) = 1 ∨ (-1 : Int) = -1) := ⟨PmL.pR hn p, by omega, .inr rfl⟩; have c2 : PmL (pR p) ∧ 1 ≤ n ∧ ((1 : Int) = 1 ∨ (1 : Int) = -1) := ⟨PmL.pR hn p, by omega, .inl rfl⟩; have e3 : encR Q ++ [rowU p] = encR (Q ++ [p]) := by rw [encR_app]; rfl
  have e4 : bc nq true (Nat.blt 0 1) = true := by cases nq <;> rfl
  rw [e0, encR_at, f1, pR_len, encR_len, encR_len, n1, rowU_of, dt c1, dt c2, flL_one, flL_del, e3, encR_len, List.length_singleton, nn_ok, e4, wrap_in (pw + 1) (by omega) (by omega)]
  cases Q with
  | nil =>
    have b0 : (Int.ofNat ([] : List (Pm n)).length == 0) = true := rfl; have b1 : decide (([] : List (Pm n)) = []) = true := decide_eq_true rfl; rw [b0, b1]
    by_cases g1 : p = Pm.del n
    · rw [dt g1]; simp (disch := omega) only [Nat.add_eq, eqSy_self, eqN_self, bc_same, List.length_cons, ofn, wrap_in, dt, df, bltD, bltN, ble_of, bleN, beqD, bc_t, bc_f, nn_ok, Nat.zero_add, to_nat, Int.zero_add, Int.sub_zero, Int.sub_self, Int.cast_ofNat_Int, Int.natCast_zero, Int.toNat_zero, List.take_zero, List.nil_append, List.length_append, List.length_nil]; rfl
    · rw [df g1]
      by_cases g2 : p = Pm.one n
      · rw [dt g2]; simp (disch := omega) only [Nat.add_eq, eqSy_self, eqN_self, bc_same, List.length_cons, ofn, wrap_in, dt, df, bltD, bltN, ble_of, bleN, beqD, bc_t, bc_f, nn_ok, Nat.zero_add, to_nat, Int.zero_add, Int.sub_zero, Int.sub_self, Int.cast_ofNat_Int, Int.natCast_zero, Int.toNat_zero, List.take_zero, List.nil_append, List.length_append, List.length_nil]; rfl
      · rw [df g2]; simp (disch := omega) only [Nat.add_eq, eqSy_self, eqN_self, bc_same, List.length_cons, ofn, wrap_in, dt, df, bltD, bltN, ble_of, bleN, beqD, bc_t, bc_f, nn_ok, Nat.zero_add, to_nat, Int.zero_add, Int.sub_zero, Int.sub_self, Int.cast_ofNat_Int, Int.natCast_zero, Int.toNat_zero, List.take_zero, List.nil_append, List.length_append, List.length_nil]; rfl
  | cons q Q =>
    have hq2 : Q.length + 1 ≤ 400 := hq; have b0 : (Int.ofNat (q :: Q).length == 0) = false := by
      rw [List.length_cons, ofn]; simp; omega
    have b1 : decide ((q :: Q) = []) = false := decide_eq_false (by simp); rw [b0, b1]
    by_cases g2 : p = Pm.one n
    · rw [dt g2]; simp (disch := omega) only [Nat.add_eq, eqSy_self, eqN_self, bc_same, List.length_cons, ofn, wrap_in, dt, df, bltD, bltN, ble_of, bleN, beqD, bc_t, bc_f, nn_ok, Nat.zero_add, to_nat, Int.zero_add, Int.sub_zero, Int.sub_self, Int.cast_ofNat_Int, Int.natCast_zero, Int.toNat_zero, List.take_zero, List.nil_append, List.length_append, List.length_nil]; rfl
    · rw [df g2]; simp (disch := omega) only [Nat.add_eq, eqSy_self, eqN_self, bc_same, List.length_cons, ofn, wrap_in, dt, df, bltD, bltN, ble_of, bleN, beqD, bc_t, bc_f, nn_ok, Nat.zero_add, to_nat, Int.zero_add, Int.sub_zero, Int.sub_self, Int.cast_ofNat_Int, Int.natCast_zero, Int.toNat_zero, List.take_zero, List.nil_append, List.length_append, List.length_nil]; rfl
theorem lastE {pw : Int} {L : List (List U)} {Q : List (Pm n)} {len : Nat} {nn nq : Bool} {i : Nat} (hi : len ≤ i) : RUN (stOf (sE n pw L len nn (encR Q) Q.length nq i)) = .done (.tup [iv pw, .lst (.recs shI (encR Q)), iv 0]) [] 0 := by
  rw [e_t, encR_len]; simp (disch := omega) only [Nat.add_eq, eqSy_self, eqN_self, bc_same, List.length_cons, ofn, wrap_in, dt, df, bltD, bltN, ble_of, bleN, beqD, bc_t, bc_f, nn_ok, Nat.zero_add, to_nat, Int.zero_add, Int.sub_zero, Int.sub_self, Int.cast_ofNat_Int, Int.natCast_zero, Int.toNat_zero, List.take_zero, List.nil_append, List.length_append, List.length_nil]
theorem loopE {len : Nat} {nn : Bool} (hn2 : 2 ≤ n) (hn : n ≤ 12) (hz : len ≤ 400) : ∀ (R A Q : List (Pm n)) (pw : Int) (nq : Bool), len = A.length + R.length → Q.length ≤ A.length → -1000 ≤ pw → pw + R.length ≤ 1000 → EndZ 89 ct false (stOf (sE n pw (encR (A ++ R)) len nn (encR Q) Q.length nq A.length)) (.tup [iv (outE R pw Q).1, .lst (.recs shI (encR (outE R pw Q).2)), iv 0]) [] 0
  | [], A, Q, pw, nq, h, hq, h1, h2 => .done (lastE (by simp at h; omega))
  | p :: R, A, Q, pw, nq, h, hq, h1, h2 => by
    rw [List.length_cons] at h h2; have hs := stepE (pw := pw) (A := A) (B := R) (Q := Q) (p := p) (len := len) (nn := nn) (nq := nq) hn2 hn (by omega) hz (by omega) h1 (by omega); have l1 : (A ++ [p]).length = A.length + 1 := by rw [List.length_append]; rfl
    have a1 : A ++ p :: R = (A ++ [p]) ++ R := by rw [List.append_assoc]; rfl
    unfold outE; rw [a1, ← l1] at hs; rw [a1]
    by_cases g1 : Q = [] ∧ p = Pm.del n
    · rw [dt g1.1, dt g1.2] at hs ⊢; exact .at ct_ok hs (loopE hn2 hn hz R (A ++ [p]) Q (pw + 1) nq (by omega) (by omega) (by omega) (by omega))
    · have b : bc (decide (Q = [])) (decide (p = Pm.del n)) false = false := by
        by_cases q1 : Q = []
        · rw [dt q1, bc_t]; exact decide_eq_false fun q2 => g1 ⟨q1, q2⟩
        · rw [df q1]; rfl
      rw [b, bc_f] at hs ⊢
      by_cases g2 : p = Pm.one n
      · rw [dt g2, bc_t] at hs ⊢; exact .at ct_ok hs (loopE hn2 hn hz R (A ++ [p]) Q pw nq (by omega) (by omega) (by omega) (by omega))
      · rw [df g2, bc_f] at hs ⊢; exact .at ct_ok hs (loopE hn2 hn hz R (A ++ [p]) (Q ++ [p]) pw true (by omega) (by rw [List.length_append, List.length_singleton]; omega) (by omega) (by omega))
theorem outE_ones (hn2 : 2 ≤ n) (pw : Int) (Q : List (Pm n)) : ∀ r : Nat, outE (List.replicate r (Pm.one n)) pw Q = (pw, Q)
  | 0 => rfl
  | r + 1 => by
    rw [List.replicate_succ]; unfold outE; have hne : Pm.one n ≠ Pm.del n := fun e => del_ne hn2 e.symm; rw [df hne, dt rfl, bc_t, show bc (decide (Q = [])) false false = false from by cases decide (Q = []) <;> rfl, bc_f]
    exact outE_ones hn2 pw Q r
theorem outE_F (hn2 : 2 ≤ n) (pw : Int) (r : Nat) : ∀ (F Q : List (Pm n)), (∀ p, p ∈ F → p ≠ Pm.one n) → (∀ p, p ∈ F → p ≠ Pm.del n) → outE (F ++ List.replicate r (Pm.one n)) pw Q = (pw, Q ++ F)
  | [], Q, _, _ => by
    rw [List.nil_append, List.append_nil]; exact outE_ones hn2 pw Q r
  | p :: F, Q, h1, h2 => by
    rw [List.cons_append]; unfold outE; rw [df (h2 p List.mem_cons_self), df (h1 p List.mem_cons_self), bc_f, show bc (decide (Q = [])) false false = false from by cases decide (Q = []) <;> rfl, bc_f, outE_F hn2 pw r F (Q ++ [p]) (fun q hq => h1 q (List.mem_cons_of_mem _ hq)) (fun q hq => h2 q (List.mem_cons_of_mem _ hq)), List.append_assoc]
    rfl
theorem outE_all (hn2 : 2 ≤ n) (r : Nat) (F : List (Pm n)) (h1 : ∀ p, p ∈ F → p ≠ Pm.one n) (h2 : ∀ p, p ∈ F → p ≠ Pm.del n) : ∀ (m : Nat) (pw : Int), outE (List.replicate m (Pm.del n) ++ (F ++ List.replicate r (Pm.one n))) pw [] = (pw + m, F)
  | 0, pw => by
    rw [List.replicate_zero, List.nil_append, outE_F hn2 pw r F [] h1 h2, List.nil_append, show pw + ((0 : Nat) : Int) = pw by omega]
  | m + 1, pw => by
    rw [List.replicate_succ, List.cons_append]; unfold outE; rw [dt rfl, dt rfl, bc_t, bc_t, outE_all hn2 r F h1 h2 m (pw + 1), show pw + 1 + (m : Int) = pw + ((m + 1 : Nat) : Int) by omega]
theorem rowW_len (w : List Int) : ∀ s : Int × List (Pm n), (w.foldl stepW s).2.length ≤ s.2.length + w.length ∧ s.1 - w.length ≤ (w.foldl stepW s).1 ∧ (w.foldl stepW s).1 ≤ s.1 := by
  induction w with
  | nil => intro s; exact ⟨Nat.le_refl _, by show s.1 - 0 ≤ s.1; omega, Int.le_refl _⟩
  | cons x w ih =>
    intro s; have h1 := ih (stepW s x); have h2 := stepW_len s x; rw [List.foldl_cons, List.length_cons]; omega
noncomputable def npw (n : Int) (w : List Int) : Int := bc (chk n w != 0) 0 (nfW n.toNat w).pw
noncomputable def npF (n : Int) (w : List Int) : List (List U) := bc (chk n w != 0) [] (encR (nfW n.toNat w).F)
theorem good {w : List Int} (hn1 : 1 ≤ n) (hn : n ≤ 12) (hw : w.length ≤ 400) (hv : Vld n w) (nn : Bool) : EndZ 89 ct false (stOf (sA n w 0 [] 0 nn (0 : Nat))) (.tup [iv (nfW n w).pw, .lst (.recs shI (encR (nfW n w).F)), iv 0]) [] 0 := by
  obtain ⟨nn', h1⟩ := loopA hn hw hv w.length 0 ((0, []) : Int × List (Pm n)) nn (by omega) (Nat.le_refl _) (by simp) (Int.le_refl _); rw [List.drop_zero] at h1; have hlen := rowW_len (n := n) w (0, []); simp only [List.length_nil, Nat.zero_add] at hlen; have h2 := loopC (pw := (w.foldl stepW ((0, []) : Int × List (Pm n))).1) (nn := nn') hn1 hn _ (w.foldl stepW ((0, []) : Int × List (Pm n))).2 (Nat.le_refl _) (by omega); refine .lead h1 (.lead h2 ?_); have hrep := nfW_rep n w; have hrow : rowW n w = w.foldl stepW (0, []) := rfl; rw [hrow] at hrep
  generalize hs : w.foldl stepW ((0, []) : Int × List (Pm n)) = s at *; obtain ⟨m, ⟨⟨r, g1⟩, g2, g3⟩, g4⟩ := hrep
  by_cases hn2 : 2 ≤ n
  · have hN := congrArg List.length g1; rw [NF_len, List.length_append, List.length_append, List.length_replicate, List.length_replicate] at hN; have h3 := loopE (len := (NF s.2).length) (nn := nn') hn2 hn (by rw [NF_len]; omega) (NF s.2) [] [] s.1 false (by simp) (Nat.le_refl _) (by omega) (by rw [NF_len]; omega); rw [List.nil_append] at h3; have h4 : outE (NF s.2) s.1 [] = ((nfW n w).pw, (nfW n w).F) := by rw [g1, outE_all hn2 r _ g2 g3 m s.1, g4]
    rw [h4] at h3; exact h3
  · have hnil : w = [] := by
      cases w with
      | nil => rfl
      | cons x w =>
        obtain ⟨v1, v2, v3⟩ := hv x List.mem_cons_self; omega
    subst hnil; have hs2 : s = (0, []) := hs.symm; subst hs2; have e1 : NF ([] : List (Pm n)) = [] := NF_of (.refl _) nrm_nil; have e2 : NF ((0, []) : Int × List (Pm n)).2 = [] := e1; rw [e2]; exact .done (lastE (n := n) (Q := []) (Nat.le_refl _))
theorem ends (n : Int) (w : List Int) : EndZ 89 ct false (st0 89 [iv n, il w]) (.tup [iv (npw n w), .lst (.recs shI (npF n w)), iv (chk n w)]) [] 0 := by
  have h := in_t n w; unfold npw npF
  by_cases z : chk n w = 0
  · rw [z, show ((0 : Int) != 0) = false from rfl, bc_f] at h
    rw [z, show ((0 : Int) != 0) = false from rfl, bc_f, bc_f]
    obtain ⟨⟨h1, h2, _, h4⟩, h3⟩ := chk_wok z; obtain ⟨n, rfl⟩ := Int.eq_ofNat_of_zero_le (show 0 ≤ n by omega); exact .at ct_ok h (good (n := n) (by omega) (by omega) h3 h4 false)
  · have b : (chk n w != 0) = true := by simp [z]
    rw [b, bc_t] at h; rw [b, bc_t, bc_t]; exact (EndZ.done h).weak (Weak.tup (.cons (Weak.refl _) (.cons (Weak.nil _) (.cons (Weak.refl _) .nil))))
end RNrm
end Go.Proofs.Ytooimphimnagaaa.Ev
namespace Go.Proofs.Ytooimphimnagaaa.Ev
open Go.Proofs
theorem eqLI_head (x y : Int) (a b : List Int) : eqLI (x :: a) (y :: b) = bc (x != y) false (eqLI a b) := by
  by_cases h : x = y
  · have e : (x != y) = false := by simp [h]
    rw [e, bc_f]
    cases hq : eqLI a b with
    | true => rw [h, eqLI_iff.1 hq, eqLI_iff.2 rfl]
    | false =>
      cases hx : eqLI (x :: a) (y :: b) with
      | false => rfl
      | true =>
        have := List.cons.inj (eqLI_iff.1 hx); rw [eqLI_iff.2 this.2] at hq; cases hq
  · have e : (x != y) = true := by simp [h]
    rw [e, bc_t]
    cases hx : eqLI (x :: a) (y :: b) with
    | false => rfl
    | true => exact absurd (List.cons.inj (eqLI_iff.1 hx)).1 h
theorem eqLI_len {a b : List Int} (h : a.length ≠ b.length) : eqLI a b = false := by
  cases hx : eqLI a b with
  | false => rfl
  | true => exact absurd (congrArg List.length (eqLI_iff.1 hx)) h
namespace RSin
noncomputable def RUN (s : ES) : ZF := RZ 47 .nil (atS 0 47 4) [] [[(0,none),(1,none),(5,none)]] false s

noncomputable def sS (a b : List Int) (i : Int) : NS := ⟨[⟨47, 26, [(0, (EV.lst (SyC.ints IntKind.i64 (a)))), (1, (EV.lst (SyC.ints IntKind.i64 (b)))), (5, iv i)], [.it (.code (nav [1, 1, 0, 1, 0, 0, 0] (bodyOf Try.f47))), .it (.code (nav [1, 1, 0, 1, 0, 0, 1] (bodyOf Try.f47))), .it (.inLoop (nav [1, 1, 0, 1, 0, 0] (bodyOf Try.f47))), .it (.inBlock 0), .it (.code (nav [1, 1, 1] (bodyOf Try.f47)))], [], Option.none⟩], [], 0⟩
theorem in_t (a b : List Int) : RUN (st0 47 [il a, il b]) = (bc (Int.ofNat (List.length a) != Int.ofNat (List.length b)) (.done (EV.v (Value.bool false)) [] 0) (.at (sS (a) (b) ((0 : Int))))) := by kernel_rfl
theorem step_t (a b : List Int) (i : Int) : RUN (stOf (sS a b i)) = (bc (decide (i < Int.ofNat (List.length a))) (bc (bc (bc (bc (bc (decide ((0 : Int) ≤ i)) (Nat.blt (Int.toNat i) (List.length a)) false) true false) (bc (bc (Nat.blt (Int.toNat i) (List.length a)) true false) (bc (bc (bc (decide ((0 : Int) ≤ i)) (Nat.blt (Int.toNat i) (List.length b)) false) true false) (bc (bc (Nat.blt (Int.toNat i) (List.length b)) true false) true false) false) false) false) true false) (bc (List.getD a (Int.toNat i) (0 : Int) != List.getD b (Int.toNat i) (0 : Int)) (.done (EV.v (Value.bool false)) [] 0) (.at (sS (a) (b) (IntKind.wrap IntKind.i64 (i + (1 : Int)))))) .bad) (.done (EV.v (Value.bool true)) [] 0)) := by kernel_rfl
theorem loop {a b : List Int} (hl : a.length = b.length) (hz : a.length ≤ 100000) : ∀ (k i : Nat), i + k = a.length → EndZ 47 .nil false (stOf (sS a b i)) (bv (eqLI (a.drop i) (b.drop i))) [] 0
  | 0, i, h => by
    have hs := step_t a b i; rw [List.drop_eq_nil_of_le (by omega), List.drop_eq_nil_of_le (by omega), eqLI_iff.2 rfl]; simp (disch := omega) only [Nat.add_eq, eqSy_self, eqN_self, bc_same, List.length_cons, ofn, wrap_in, dt, df, bltD, bltN, ble_of, bleN, beqD, bc_t, bc_f, nn_ok, Nat.zero_add, to_nat, Int.zero_add, Int.sub_zero, Int.sub_self, Int.cast_ofNat_Int, Int.natCast_zero, Int.toNat_zero, List.take_zero, List.nil_append, List.length_append, List.length_nil] at hs; exact .done hs
  | k + 1, i, h => by
    have hi : i < a.length := by omega
    have hi2 : i < b.length := by omega
    have hs := step_t a b i; have e1 : a.getD i 0 = a[i] := getD_at hi; have e2 : b.getD i 0 = b[i] := getD_at hi2; rw [to_nat, e1, e2] at hs; rw [List.drop_eq_getElem_cons hi, List.drop_eq_getElem_cons hi2, eqLI_head]; simp (disch := omega) only [Nat.add_eq, eqSy_self, eqN_self, bc_same, List.length_cons, ofn, wrap_in, dt, df, bltD, bltN, ble_of, bleN, beqD, bc_t, bc_f, nn_ok, Nat.zero_add, to_nat, Int.zero_add, Int.sub_zero, Int.sub_self, Int.cast_ofNat_Int, Int.natCast_zero, Int.toNat_zero, List.take_zero, List.nil_append, List.length_append, List.length_nil] at hs
    cases hq : a[i] != b[i] with
    | true => rw [hq] at hs; exact .done hs
    | false => rw [hq] at hs; exact .at (.nil _) hs (loop hl hz k (i + 1) (by omega))
theorem ends {a b : List Int} (hz : a.length ≤ 100000) : EndZ 47 .nil false (st0 47 [il a, il b]) (bv (eqLI a b)) [] 0 := by
  have h := in_t a b
  by_cases hl : a.length = b.length
  · have e : (Int.ofNat a.length != Int.ofNat b.length) = false := by simp [hl]
    rw [e, bc_f] at h; exact .at (.nil _) h (loop hl hz a.length 0 (by omega))
  · have e : (Int.ofNat a.length != Int.ofNat b.length) = true := by simp; omega
    rw [e, bc_t] at h; rw [eqLI_len hl]; exact .done h
end RSin
noncomputable def spRSin : ZCT := fun ax => match ax with
  | [.lst (.ints .i64 a), .lst (.ints .i64 b)] => some ⟨decide (a.length ≤ 100000), bv (eqLI a b), [], 0⟩
  | _ => none
theorem spRSin_ok : ZCtOk Try.prog 47 spRSin := fun γ w us ax r hs hc hax hN hfz => by
  unfold spRSin at hs; split at hs
  case h_2 => cases hs
  rename_i a b; obtain ⟨rfl⟩ := Option.some.inj hs; have hc_0 : decide (a.length ≤ 100000) = true := hc; have hc := of_decide_eq_true hc_0; exact EndZ.calls (RSin.ends hc) (.nil _) (by kernel_rfl) hax hN hfz

noncomputable def sfB : List (List U) → List (List U) → Bool
  | [], [] => true
  | r :: A, q :: B => bc (eqLI (facR r) (facR q)) (sfB A B) false
  | _, _ => false
theorem sfB_len : ∀ {A B : List (List U)}, A.length ≠ B.length → sfB A B = false
  | [], [], h => absurd rfl h
  | [], q :: B, _ => rfl
  | r :: A, [], _ => rfl
  | r :: A, q :: B, h => by
    have : sfB A B = false := sfB_len fun e => h (by rw [List.length_cons, List.length_cons, e]); unfold sfB; rw [this]; cases eqLI (facR r) (facR q) <;> rfl
theorem sfB_enc {n : Nat} : ∀ (F G : List (Pm n)), sfB (encR F) (encR G) = true ↔ F = G
  | [], [] => ⟨fun _ => rfl, fun _ => rfl⟩
  | [], q :: G => ⟨fun h => (by cases h), fun h => (by cases h)⟩
  | p :: F, [] => ⟨fun h => (by cases h), fun h => (by cases h)⟩
  | p :: F, q :: G => by
    show bc (eqLI (facR (rowU p)) (facR (rowU q))) (sfB (encR F) (encR G)) false = true ↔ _; rw [facR_rowU, facR_rowU]; constructor
    · intro h
      cases hq : eqLI (pR p) (pR q) with
      | false => rw [hq] at h; cases h
      | true =>
        rw [hq, bc_t] at h; rw [pR_inj (eqLI_iff.1 hq), (sfB_enc F G).1 h]
    · intro h; injection h with h1 h2
      subst h1; rw [eqLI_iff.2 rfl, bc_t]; exact (sfB_enc F G).2 h2
namespace RSfo
noncomputable def ct : Tr ZCC := Tr.nil.put 47 (some (dC spRSin))
theorem ct_ok : ZCtsOk Try.prog ct := (ZCtsOk.nil _).add rfl spRSin_ok
noncomputable abbrev ll (A : List (List U)) : EV := .lst (.recs [.list [.int .i64]] A)
noncomputable def RUN (s : ES) : ZF := RZ 28 ct (atS 0 28 4) [] [[(0,none),(1,none),(5,none)]] false s

noncomputable def sS (A B : List (List U)) (i : Int) : NS := ⟨[⟨28, 27, [(0, (EV.lst (SyC.recs [(Sh.list [(Sh.int IntKind.i64)])] (A)))), (1, (EV.lst (SyC.recs [(Sh.list [(Sh.int IntKind.i64)])] (B)))), (5, iv i)], [.it (.code (nav [1, 1, 0, 1, 0, 0, 0] (bodyOf Try.f28))), .it (.code (nav [1, 1, 0, 1, 0, 0, 1] (bodyOf Try.f28))), .it (.inLoop (nav [1, 1, 0, 1, 0, 0] (bodyOf Try.f28))), .it (.inBlock 0), .it (.code (nav [1, 1, 1] (bodyOf Try.f28)))], [], Option.none⟩], [], 0⟩
theorem in_t (A B : List (List U)) : RUN (st0 28 [ll A, ll B]) = (bc (Int.ofNat (List.length A) != Int.ofNat (List.length B)) (.done (EV.v (Value.bool false)) [] 0) (.at (sS (A) (B) ((0 : Int))))) := by kernel_rfl
theorem step_t (A B : List (List U)) (i : Int) : RUN (stOf (sS A B i)) = (bc (decide (i < Int.ofNat (List.length A))) (bc (bc (bc (bc (bc (decide ((0 : Int) ≤ i)) (Nat.blt (Int.toNat i) (List.length A)) false) true false) (bc (bc (Nat.blt (Int.toNat i) (List.length A)) true false) (bc (bc (bc (decide ((0 : Int) ≤ i)) (Nat.blt (Int.toNat i) (List.length B)) false) true false) (bc (bc (Nat.blt (Int.toNat i) (List.length B)) true false) (bc (bc (decide (List.length (List.map (fun r => U.int (List.headD r (U.i (0 : Int)))) (U.list (List.getD (List.getD A (Int.toNat i) []) (0 : Nat) (U.i (0 : Int))))) ≤ (100000 : Nat))) true false) true false) false) false) false) false) true false) (bc (!eqLI (List.map (fun r => U.int (List.headD r (U.i (0 : Int)))) (U.list (List.getD (List.getD A (Int.toNat i) []) (0 : Nat) (U.i (0 : Int))))) (List.map (fun r => U.int (List.headD r (U.i (0 : Int)))) (U.list (List.getD (List.getD B (Int.toNat i) []) (0 : Nat) (U.i (0 : Int)))))) (.done (EV.v (Value.bool false)) [] 0) (.at (sS (A) (B) (IntKind.wrap IntKind.i64 (i + (1 : Int)))))) .bad) (.done (EV.v (Value.bool true)) [] 0)) := by kernel_rfl
theorem loop {A B : List (List U)} (hl : A.length = B.length) (hz : Shrt A) : ∀ (k i : Nat), i + k = A.length → EndZ 28 ct false (stOf (sS A B i)) (bv (sfB (A.drop i) (B.drop i))) [] 0
  | 0, i, h => by
    have hs := step_t A B i; have hz1 := hz.1; rw [List.drop_eq_nil_of_le (by omega), List.drop_eq_nil_of_le (by omega)]; simp (disch := omega) only [Nat.add_eq, eqSy_self, eqN_self, bc_same, List.length_cons, ofn, wrap_in, dt, df, bltD, bltN, ble_of, bleN, beqD, bc_t, bc_f, nn_ok, Nat.zero_add, to_nat, Int.zero_add, Int.sub_zero, Int.sub_self, Int.cast_ofNat_Int, Int.natCast_zero, Int.toNat_zero, List.take_zero, List.nil_append, List.length_append, List.length_nil] at hs; exact .done hs
  | k + 1, i, h => by
    have hi : i < A.length := by omega
    have hi2 : i < B.length := by omega
    have hz1 := hz.1; have hs := step_t A B i; have e1 : A.getD i [] = A[i] := getD_at hi; have e2 : B.getD i [] = B[i] := getD_at hi2; have f1 : ∀ r : List U, List.map (fun r => U.int (List.headD r (U.i 0))) (U.list (List.getD r 0 (U.i 0))) = facR r := fun _ => rfl; rw [to_nat, e1, e2, f1, f1, dt (hz.2 _ (List.getElem_mem hi))] at hs; rw [List.drop_eq_getElem_cons hi, List.drop_eq_getElem_cons hi2]; unfold sfB
    simp (disch := omega) only [Nat.add_eq, eqSy_self, eqN_self, bc_same, List.length_cons, ofn, wrap_in, dt, df, bltD, bltN, ble_of, bleN, beqD, bc_t, bc_f, nn_ok, Nat.zero_add, to_nat, Int.zero_add, Int.sub_zero, Int.sub_self, Int.cast_ofNat_Int, Int.natCast_zero, Int.toNat_zero, List.take_zero, List.nil_append, List.length_append, List.length_nil] at hs
    cases hq : eqLI (facR A[i]) (facR B[i]) with
    | false => rw [hq] at hs; exact .done hs
    | true => rw [hq] at hs; exact .at ct_ok hs (loop hl hz k (i + 1) (by omega))
theorem ends {A B : List (List U)} (hz : Shrt A) : EndZ 28 ct false (st0 28 [ll A, ll B]) (bv (sfB A B)) [] 0 := by
  have h := in_t A B
  by_cases hl : A.length = B.length
  · have e : (Int.ofNat A.length != Int.ofNat B.length) = false := by simp [hl]
    rw [e, bc_f] at h; exact .at ct_ok h (loop hl hz A.length 0 (by omega))
  · have e : (Int.ofNat A.length != Int.ofNat B.length) = true := by simp; omega
    rw [e, bc_t] at h; rw [sfB_len hl]; exact .done h
theorem shrt_enc {n : Nat} (hn : n ≤ 100) {F : List (Pm n)} (hF : F.length ≤ 5000) : Shrt (encR F) := ⟨by rw [encR_len]; exact hF, fun r hr => by
  obtain ⟨p, _, rfl⟩ := List.mem_map.1 hr; rw [facR_rowU, pR_len]; omega⟩
end RSfo
noncomputable def spRSfo : ZCT := fun ax => match ax with
  | [.lst (.recs [.list [.int .i64]] A), .lst (.recs [.list [.int .i64]] B)] => some ⟨decide (Shrt A), bv (sfB A B), [], 0⟩
  | _ => none
theorem spRSfo_ok : ZCtOk Try.prog 28 spRSfo := fun γ w us ax r hs hc hax hN hfz => by
  unfold spRSfo at hs; split at hs
  case h_2 => cases hs
  rename_i A B; obtain ⟨rfl⟩ := Option.some.inj hs; have hc_0 : decide (Shrt A) = true := hc; have hc := of_decide_eq_true hc_0; exact EndZ.calls (RSfo.ends hc) RSfo.ct_ok (by kernel_rfl) hax hN hfz
theorem rnrm_nil {s : ES} (n : Int) (h : RZ 89 RNrm.ct (fun _ => false) [] [] false s = bc (chk n [] != 0) (.done (.tup [iv 0, .v (.slice none 0 0), iv (chk n [])]) [] 0) (.done (.tup [iv 0, .v (.slice none 0 0), iv 0]) [] 0)) : EndZ 89 RNrm.ct false s (.tup [iv (RNrm.npw n []), .lst (.recs [.list [.int .i64]] (RNrm.npF n [])), iv (chk n [])]) [] 0 := by
  unfold RNrm.npw RNrm.npF
  by_cases z : chk n [] = 0
  · rw [z, show ((0 : Int) != 0) = false from rfl, bc_f] at h
    rw [z, show ((0 : Int) != 0) = false from rfl, bc_f, bc_f]
    exact (EndZ.done h).weak (Weak.tup (.cons (Weak.refl _) (.cons (Weak.nil _) (.cons (Weak.refl _) .nil))))
  · have b : (chk n [] != 0) = true := by simp [z]
    rw [b, bc_t] at h; rw [b, bc_t, bc_t]; exact (EndZ.done h).weak (Weak.tup (.cons (Weak.refl _) (.cons (Weak.nil _) (.cons (Weak.refl _) .nil))))
noncomputable def spRNrm_0 : ZCT := fun ax => match ax with
  | [.v (.int .i64 n), .lst (.ints .i64 w)] => some ⟨decide (True), .tup [iv (RNrm.npw n w), .lst (.recs [.list [.int .i64]] (RNrm.npF n w)), iv (chk n w)], [], 0⟩
  | _ => none
theorem spRNrm_0_ok : ZCtOk Try.prog 89 spRNrm_0 := fun γ w us ax r hs hc hax hN hfz => by
  unfold spRNrm_0 at hs; split at hs
  case h_2 => cases hs
  rename_i n w; obtain ⟨rfl⟩ := Option.some.inj hs; have hc_0 : decide (True) = true := hc; have hc := of_decide_eq_true hc_0; exact EndZ.calls (RNrm.ends n w) RNrm.ct_ok (by kernel_rfl) hax hN hfz
noncomputable def spRNrm_1 : ZCT := fun ax => match ax with
  | [.v (.int .i64 n), .v (.slice none 0 0)] => some ⟨decide (True), .tup [iv (RNrm.npw n []), .lst (.recs [.list [.int .i64]] (RNrm.npF n [])), iv (chk n [])], [], 0⟩
  | _ => none
theorem spRNrm_1_ok : ZCtOk Try.prog 89 spRNrm_1 := fun γ w us ax r hs hc hax hN hfz => by
  unfold spRNrm_1 at hs; split at hs
  case h_2 => cases hs
  rename_i n; obtain ⟨rfl⟩ := Option.some.inj hs; have hc_0 : decide (True) = true := hc; have hc := of_decide_eq_true hc_0; exact EndZ.calls (rnrm_nil n (RNrm.nil_t n)) RNrm.ct_ok (by kernel_rfl) hax hN hfz
noncomputable def spRNrm : ZCT := ZCT.or spRNrm_0 (spRNrm_1)
theorem spRNrm_ok : ZCtOk Try.prog 89 spRNrm := spRNrm_0_ok.or (spRNrm_1_ok)
namespace RSam
noncomputable def ct : Tr ZCC := ((Tr.nil.put 42 (some (dC spRChk))).put 89 (some (dC spRNrm))).put 28 (some (dC spRSfo))
theorem ct_ok : ZCtsOk Try.prog ct := (((ZCtsOk.nil _).add rfl spRChk_ok).add rfl spRNrm_ok).add rfl spRSfo_ok
noncomputable def RUN (s : ES) : ZF := RZ 32 ct (fun _ => false) [] [] false s
theorem in_t (n : Int) (a b : List Int) : RUN (st0 32 [iv n, il a, il b]) = (bc (chk n a != (0 : Int)) (bc (chk n a != (0 : Int)) (.done (EV.tup [(EV.v (Value.bool false)), (EV.v (Value.int IntKind.i64 (chk n a)))]) [] 0) (bc (RNrm.npw n a == RNrm.npw n b) (bc (bc (decide (Shrt (RNrm.npF n a))) true false) (.done (EV.tup [(EV.v (Value.bool (sfB (RNrm.npF n a) (RNrm.npF n b)))), (EV.v (Value.int IntKind.i64 (0)))]) [] 0) .bad) (.done (EV.tup [(EV.v (Value.bool false)), (EV.v (Value.int IntKind.i64 (0)))]) [] 0))) (bc (chk n b != (0 : Int)) (.done (EV.tup [(EV.v (Value.bool false)), (EV.v (Value.int IntKind.i64 (chk n b)))]) [] 0) (bc (RNrm.npw n a == RNrm.npw n b) (bc (bc (decide (Shrt (RNrm.npF n a))) true false) (.done (EV.tup [(EV.v (Value.bool (sfB (RNrm.npF n a) (RNrm.npF n b)))), (EV.v (Value.int IntKind.i64 (0)))]) [] 0) .bad) (.done (EV.tup [(EV.v (Value.bool false)), (EV.v (Value.int IntKind.i64 (0)))]) [] 0)))) := by kernel_rfl
theorem nil_t (n : Int) (a : List Int) : RUN (st0 32 [iv n, il a, .v (.slice none 0 0)]) = (bc (chk n a != (0 : Int)) (bc (chk n a != (0 : Int)) (.done (EV.tup [(EV.v (Value.bool false)), (EV.v (Value.int IntKind.i64 (chk n a)))]) [] 0) (bc (RNrm.npw n a == RNrm.npw n []) (bc (bc (decide (Shrt (RNrm.npF n a))) true false) (.done (EV.tup [(EV.v (Value.bool (sfB (RNrm.npF n a) (RNrm.npF n [])))), (EV.v (Value.int IntKind.i64 (0)))]) [] 0) .bad) (.done (EV.tup [(EV.v (Value.bool false)), (EV.v (Value.int IntKind.i64 (0)))]) [] 0))) (bc (chk n [] != (0 : Int)) (.done (EV.tup [(EV.v (Value.bool false)), (EV.v (Value.int IntKind.i64 (chk n [])))]) [] 0) (bc (RNrm.npw n a == RNrm.npw n []) (bc (bc (decide (Shrt (RNrm.npF n a))) true false) (.done (EV.tup [(EV.v (Value.bool (sfB (RNrm.npF n a) (RNrm.npF n [])))), (EV.v (Value.int IntKind.i64 (0)))]) [] 0) .bad) (.done (EV.tup [(EV.v (Value.bool false)), (EV.v (Value.int IntKind.i64 (0)))]) [] 0)))) := by kernel_rfl
theorem core {n : Int} {a b : List Int} (z1 : chk n a = 0) (z2 : chk n b = 0) : bc (RNrm.npw n a == RNrm.npw n b) (sfB (RNrm.npF n a) (RNrm.npF n b)) false = samB n a b ∧ samE n a b = 0 ∧ Shrt (RNrm.npF n a) := by
  have e1 : samE n a b = 0 := by unfold samE; rw [z1, z2]; rfl
  obtain ⟨w1, _⟩ := chk_wok z1; have h2 := w1.2.1; unfold samB; rw [e1, show ((0 : Int) != 0) = false from rfl, bc_f]
  unfold RNrm.npw RNrm.npF; rw [z1, z2, show ((0 : Int) != 0) = false from rfl, bc_f, bc_f, bc_f, bc_f]
  refine ⟨?_, rfl, RSfo.shrt_enc (by omega) (nf_small w1)⟩; unfold sameN
  by_cases h1 : (nfW n.toNat a).pw = (nfW n.toNat b).pw
  · rw [show ((nfW n.toNat a).pw == (nfW n.toNat b).pw) = true by simp [h1], bc_t]
    by_cases h2 : (nfW n.toNat a).F = (nfW n.toNat b).F
    · rw [(sfB_enc _ _).2 h2]; exact (decide_eq_true (Frm.ext h1 h2)).symm
    · have : sfB (encR (nfW n.toNat a).F) (encR (nfW n.toNat b).F) = false := by
        cases h : sfB (encR (nfW n.toNat a).F) (encR (nfW n.toNat b).F) with
        | false => rfl
        | true => exact absurd ((sfB_enc _ _).1 h) h2
      rw [this]; exact (decide_eq_false fun e => h2 (by rw [e])).symm
  · rw [show ((nfW n.toNat a).pw == (nfW n.toNat b).pw) = false by simp [h1], bc_f]; exact (decide_eq_false fun e => h1 (by rw [e])).symm
theorem fin {n : Int} {a b : List Int} {s : ES} (h : RUN s = bc (chk n a != 0)
    (bc (chk n a != 0) (.done (.tup [bv false, iv (chk n a)]) [] 0) (bc (RNrm.npw n a == RNrm.npw n b) (bc (bc (decide (Shrt (RNrm.npF n a))) true false) (.done (.tup [bv (sfB (RNrm.npF n a) (RNrm.npF n b)), iv 0]) [] 0) .bad) (.done (.tup [bv false, iv 0]) [] 0)))
    (bc (chk n b != 0) (.done (.tup [bv false, iv (chk n b)]) [] 0) (bc (RNrm.npw n a == RNrm.npw n b) (bc (bc (decide (Shrt (RNrm.npF n a))) true false) (.done (.tup [bv (sfB (RNrm.npF n a) (RNrm.npF n b)), iv 0]) [] 0) .bad) (.done (.tup [bv false, iv 0]) [] 0)))) : EndZ 32 ct false s (.tup [bv (samB n a b), iv (samE n a b)]) [] 0 := by
  by_cases z1 : chk n a = 0
  · rw [z1, show ((0 : Int) != 0) = false from rfl, bc_f] at h
    by_cases z2 : chk n b = 0
    · obtain ⟨h1, h2, h3⟩ := core z1 z2; rw [z2, show ((0 : Int) != 0) = false from rfl, bc_f, dt h3] at h
      rw [h2, ← h1]
      cases hq : (RNrm.npw n a == RNrm.npw n b) with
      | true => rw [hq] at h; exact .done h
      | false => rw [hq] at h; exact .done h
    · have b2 : (chk n b != 0) = true := by simp [z2]
      have e1 : samE n a b = chk n b := by unfold samE; rw [z1]; rfl
      rw [b2, bc_t] at h; unfold samB; rw [e1, b2, bc_t]; exact .done h
  · have b1 : (chk n a != 0) = true := by simp [z1]
    have e1 : samE n a b = chk n a := by unfold samE; rw [b1, bc_t]
    rw [b1, bc_t, bc_t] at h; unfold samB; rw [e1, b1, bc_t]; exact .done h
end RSam
noncomputable def spRSam_0 : ZCT := fun ax => match ax with
  | [.v (.int .i64 n), .lst (.ints .i64 a), .lst (.ints .i64 b)] => some ⟨decide (True), .tup [bv (samB n a b), iv (samE n a b)], [], 0⟩
  | _ => none
theorem spRSam_0_ok : ZCtOk Try.prog 32 spRSam_0 := fun γ w us ax r hs hc hax hN hfz => by
  unfold spRSam_0 at hs; split at hs
  case h_2 => cases hs
  rename_i n a b; obtain ⟨rfl⟩ := Option.some.inj hs; have hc_0 : decide (True) = true := hc; have hc := of_decide_eq_true hc_0; exact EndZ.calls (RSam.fin (RSam.in_t n a b)) RSam.ct_ok (by kernel_rfl) hax hN hfz
noncomputable def spRSam_1 : ZCT := fun ax => match ax with
  | [.v (.int .i64 n), .lst (.ints .i64 a), .v (.slice none 0 0)] => some ⟨decide (True), .tup [bv (samB n a []), iv (samE n a [])], [], 0⟩
  | _ => none
theorem spRSam_1_ok : ZCtOk Try.prog 32 spRSam_1 := fun γ w us ax r hs hc hax hN hfz => by
  unfold spRSam_1 at hs; split at hs
  case h_2 => cases hs
  rename_i n a; obtain ⟨rfl⟩ := Option.some.inj hs; have hc_0 : decide (True) = true := hc; have hc := of_decide_eq_true hc_0; exact EndZ.calls (RSam.fin (RSam.nil_t n a)) RSam.ct_ok (by kernel_rfl) hax hN hfz
noncomputable def spRSam : ZCT := ZCT.or spRSam_0 (spRSam_1)
theorem spRSam_ok : ZCtOk Try.prog 32 spRSam := spRSam_0_ok.or (spRSam_1_ok)
namespace RTri
noncomputable def ct : Tr ZCC := Tr.nil.put 32 (some (dC spRSam))
theorem ct_ok : ZCtsOk Try.prog ct := (ZCtsOk.nil _).add rfl spRSam_ok
noncomputable def RUN (s : ES) : ZF := RZ 34 ct (fun _ => false) [] [] false s
theorem in_t (n : Int) (a : List Int) : RUN (st0 34 [iv n, il a]) = (.done (EV.tup [(EV.v (Value.bool (samB n a []))), (EV.v (Value.int IntKind.i64 (samE n a [])))]) [] 0) := by kernel_rfl
end RTri
noncomputable def spRTri : ZCT := fun ax => match ax with
  | [.v (.int .i64 n), .lst (.ints .i64 a)] => some ⟨decide (True), .tup [bv (samB n a []), iv (samE n a [])], [], 0⟩
  | _ => none
theorem spRTri_ok : ZCtOk Try.prog 34 spRTri := fun γ w us ax r hs hc hax hN hfz => by
  unfold spRTri at hs; split at hs
  case h_2 => cases hs
  rename_i n a; obtain ⟨rfl⟩ := Option.some.inj hs; have hc_0 : decide (True) = true := hc; have hc := of_decide_eq_true hc_0; exact EndZ.calls (.done (RTri.in_t n a)) RTri.ct_ok (by kernel_rfl) hax hN hfz
end Go.Proofs.Ytooimphimnagaaa.Ev
namespace Go.Proofs.Ytooimphimnagaaa.Ev
open Go.Proofs
theorem awakeB_run : endsB (exClosed Try.prog ft (drD Try.prog ft 16 4) 25 18) = true := by kernel_rfl
theorem awakeBC (w : World) : Calls Try.prog 25 #[] w fun e w' => e = .returned (.bool true) ∧ Stays w w' := closedTrue ftOk (drD_ok mix ftOk 16 4) awakeB_run w
theorem spAwakeB_ok : ZCtOk Try.prog 25 spTrue := spTrue_ok awakeBC
end Go.Proofs.Ytooimphimnagaaa.Ev
namespace Go.Proofs.Ytooimphimnagaaa
open Go.ChangeShapes Go.WideShapes Go.ChangeAt Go.RowKit

theorem kept_of_stays {W W' : World} (h : Ev.Stays W W') (may : MemPlace → Prop) : W.keptBut W' may := by
  refine ⟨h.os, h.output, fun i hi => ?_⟩; have e := h.block i hi; rw [e]
  cases hb : W.heap[i]? with
  | none => simp
  | some o =>
    cases o <;> first | exact ⟨rfl, rfl, rfl, fun _ _ => rfl⟩ | exact .inr ⟨rfl, rfl⟩ | rfl
theorem frozen_of_stays {W W' : World} (h : Ev.Stays W W') (a : Addr) (ha : a.block < W.heap.size) : W'.frozen? a = W.frozen? a := by
  unfold World.frozen?; rw [h.block _ ha]
section
variable {H : Type} {enc : TypeId × Value → H} {P : Program}

theorem post_of_stays {f : Func} {s : ChangeSpec} {apart fresh handsOn again : Bool} {W W' : World} {args : Array Value} {v : Value} {ds gs : List (DataW H)} {before pa pv : List MemPlace}
    (hW : DataW.Whole enc P f.params.toList s.vars apart W args.toList ds gs before)
    (hres : ∀ (b : Nat) (sp : Nat → Bool) (hd : Bool), DataW.TrodAll enc P W' b sp hd f.resultTypes.toList (v.resultList f.resultTypes.size) (s.fn H (ds ++ gs)).results [])
    (hargs : ∀ sp : Nat → Bool, (∀ p ∈ before, sp p.block = true) → DataW.TrodAll enc P W' 0 sp true f.params.toList args.toList (s.fn H (ds ++ gs)).args pa)
    (hvars : ∀ sp : Nat → Bool, (∀ p ∈ before, sp p.block = true) → DataW.TrodVars enc P W' sp s.vars (s.fn H (ds ++ gs)).vars pv)
    (hps : before = pa ++ pv) (hst : Ev.Stays W W')
    (hok : ∀ (j : Nat) (t : TypeId) (r : Value), f.resultTypes[j]? = some t → (v.resultList f.resultTypes.size)[j]? = some r → Value.okWide P W' .any 0 t r) :
    s.post enc P f apart fresh handsOn again W args v W' := by
  have hk : W.keptBut W' (· ∈ before) := kept_of_stays hst _; have hold : ∀ p ∈ before, (fun b => decide (b < W.heap.size)) p.block = true := fun p hp => by simpa using hW.lt p hp
  have hlt := fun p hp => hW.lt p hp; refine ⟨ds, gs, before, [], pa, pv, hW, hres _ _ _, hargs _ hold, hvars _ hold, World.keptBut_mono (fun p hp => ⟨hp, ?_⟩) hk, fun _ => ?_⟩
  · rw [hps, List.mem_append] at hp; exact Or.inr hp
  · obtain ⟨_, _, _, _, _, hz, hn⟩ := hW; refine ⟨hok, _, _, ([] ++ pa) ++ pv, ⟨[] ++ pa, pv, trodAll_append (hargs _ (fun _ _ => rfl)) (hres _ _ _), hvars _ (fun _ _ => rfl), rfl, ?_, ?_⟩, ?_⟩
    · intro b off hp; have hp2 : MemPlace.cell b off ∈ before := by rw [hps]; simpa using hp
      rw [frozen_of_stays hst _ (hlt _ hp2)]; exact hz b off hp2
    · intro ha; have := hn ha; rw [hps] at this; simpa using this
    · intro p hp _; rw [hps]; simpa using hp
end
end Go.Proofs.Ytooimphimnagaaa
