/- Laid together: The reference's check of a cloth. Where histories part: plain. No program is named. The reference's First. The program's First. The program's First: what it answers. Histories that are the same: plain. No program is named. Common beginnings: plain. No program is named. The program's Common. The program's Common: what it answers. The program's Common and First, where the lists are the caller's own. The program's Common and First, where the lists are the caller's own: contracts. compare.without and Differ: contracts. Exchanges of crossings: plain. No program is named. Cloths with the same histories: all crossings are in pairs. Plain. No program is named. Cloths with the same histories: what Common answers, and what kept asks. Plain. No program is named. The reference's Common: plain. No program is named. The reference's on, before, others: contracts. The reference's before, others: contracts; its Common: trees. The reference's Common: trees. The reference's Common and Differ: contracts. slices.Sort of an owned sequence of ints, as a contract. Contracts of the library, laid at this program by the kit's tool. slices.Compact of an owned sequence of ints, as a contract; what is left of a sorted list. slices.Sort and slices.Compact of nil, as contracts. The works of some crossings: trees. The works of some crossings: plain. No program is named. The works of some crossings: contracts; Works. shown, of the comparing: it returns true, and leaves all that was there alone. From a call that leaves all that was there alone to a statement's closing condition. No program is named. From calls with arguments that are only read to a statement's closing condition; data that came in, whatever its shape. No program is named. CompareFirst: the law, by contracts. Differ and Works: contracts; CompareCommon: trees. -/
import Derived.Shelf.Slices.CompactI
import Derived.Test.YtonbfalbfdkieaaProg
import Derived.ProofKit
import Derived.ReadAgain
import Derived.OpenShut
import Derived.Test.YtonbfalbfdkieaaCcM5
set_option linter.unusedSimpArgs false
set_option linter.unusedVariables false
namespace Go.Proofs.Ytonbfalbfdkieaa.Ev
open Go.Proofs
namespace RChk
noncomputable def RUN (s : ES) : ZF := RZs 120 .nil [(atS 1 175 4, [[(1,none),(3,none)],[(1,none)]]), (atS 1 175 10, [[(1,none),(5,none)],[(1,none)]]), (atS 2 201 3, [[(0,none),(3,some (1, 3, .ints .i64 [])),(4,none)],[(1,none)],[]]), (atS 1 176 3, [[(1,none),(4,none),(5,none)],[]])] [] false s

noncomputable def sA (n : Int) (X P : List (List U)) (i : Int) : NS := ⟨[⟨175, 97, [(1, (EV.ptr 0 0)), (3, iv i)], [.it (.code (nav [1, 1, 0, 1, 0, 0, 0] (bodyOf Try.f175))), .it (.code (nav [1, 1, 0, 1, 0, 0, 1] (bodyOf Try.f175))), .it (.inLoop (nav [1, 1, 0, 1, 0, 0] (bodyOf Try.f175))), .it (.inBlock 0), .it (.code (nav [1, 1, 1] (bodyOf Try.f175)))], [], Option.none⟩, ⟨120, 30, [(1, (EV.ptr 1 0))], [.ops (opsOf (nav [1, 1, 0, 0] (bodyOf Try.f120))) ((opsOf (nav [1, 1, 0, 0] (bodyOf Try.f120))).toList.drop 1), .it (.code (nav [1, 1, 0, 1] (bodyOf Try.f120))), .it (.code (nav [1, 1, 1] (bodyOf Try.f120)))], [], Option.none⟩], [(0, (EK.cells 25 [(EV.v (Value.int IntKind.i64 (n))), (EV.lst (SyC.recs [(Sh.int IntKind.i64), (Sh.int IntKind.i64), (Sh.int IntKind.i64), (Sh.int IntKind.i64)] (X))), (EV.lst (SyC.recs [(Sh.int IntKind.i64), (Sh.int IntKind.i64), (Sh.int IntKind.i64), (Sh.int IntKind.i64)] (P)))] true)), (1, (EK.cells 25 [(EV.v (Value.int IntKind.i64 (n))), (EV.lst (SyC.recs [(Sh.int IntKind.i64), (Sh.int IntKind.i64), (Sh.int IntKind.i64), (Sh.int IntKind.i64)] (X))), (EV.lst (SyC.recs [(Sh.int IntKind.i64), (Sh.int IntKind.i64), (Sh.int IntKind.i64), (Sh.int IntKind.i64)] (P)))] true))], 2⟩
noncomputable def sB (n : Int) (X P : List (List U)) (i : Int) : NS := ⟨[⟨175, 97, [(1, (EV.ptr 0 0)), (5, iv i)], [.it (.code (nav [1, 1, 1, 0, 1, 0, 0, 0] (bodyOf Try.f175))), .it (.code (nav [1, 1, 1, 0, 1, 0, 0, 1] (bodyOf Try.f175))), .it (.inLoop (nav [1, 1, 1, 0, 1, 0, 0] (bodyOf Try.f175))), .it (.inBlock 2), .it (.code (nav [1, 1, 1, 1] (bodyOf Try.f175)))], [], Option.none⟩, ⟨120, 30, [(1, (EV.ptr 1 0))], [.ops (opsOf (nav [1, 1, 0, 0] (bodyOf Try.f120))) ((opsOf (nav [1, 1, 0, 0] (bodyOf Try.f120))).toList.drop 1), .it (.code (nav [1, 1, 0, 1] (bodyOf Try.f120))), .it (.code (nav [1, 1, 1] (bodyOf Try.f120)))], [], Option.none⟩], [(0, EK.cells 25 [iv n, xl X, xl P] true), (1, EK.cells 25 [iv n, xl X, xl P] true)], 2⟩
noncomputable def sC (n : Int) (X P : List (List U)) (q : List Int) (nn : Bool) (i : Int) : NS := ⟨[⟨201, 15, [(0, (EV.v (Value.int IntKind.i64 (n)))), (3, EV.slO 0 1 q.length nn), (4, iv i)], [.it (.code (nav [1, 1, 0, 1, 0, 0, 0] (bodyOf Try.f201))), .it (.code (nav [1, 1, 0, 1, 0, 0, 1] (bodyOf Try.f201))), .it (.inLoop (nav [1, 1, 0, 1, 0, 0] (bodyOf Try.f201))), .it (.inBlock 0), .it (.code (nav [1, 1, 1] (bodyOf Try.f201)))], [], Option.none⟩, ⟨176, 69, [(1, (EV.ptr 1 0))], [.ops (opsOf (nav [1, 0] (bodyOf Try.f176))) ((opsOf (nav [1, 0] (bodyOf Try.f176))).toList.drop 2), .it (.code (nav [1, 1] (bodyOf Try.f176)))], [], Option.none⟩, ⟨120, 30, [], [.ops (opsOf (nav [1, 1, 1, 0] (bodyOf Try.f120))) ((opsOf (nav [1, 1, 1, 0] (bodyOf Try.f120))).toList.drop 1), .it (.code (nav [1, 1, 1, 1] (bodyOf Try.f120)))], [], Option.none⟩], [(0, EK.seq 3 (.ints .i64 q) nn), (1, EK.cells 25 [iv n, xl X, xl P] true)], 2⟩
noncomputable def sD (n : Int) (X P : List (List U)) (m : Nat) (e : List Int) (nn : Bool) (i : Int) : NS := ⟨[⟨176, 69, [(1, (EV.ptr 0 0)), (4, EV.slO 1 1 m nn), (5, iv i)], [.it (.code (nav [1, 1, 0, 1, 0, 0, 0] (bodyOf Try.f176))), .it (.code (nav [1, 1, 0, 1, 0, 0, 1] (bodyOf Try.f176))), .it (.inLoop (nav [1, 1, 0, 1, 0, 0] (bodyOf Try.f176))), .it (.inBlock 0), .it (.code (nav [1, 1, 1] (bodyOf Try.f176)))], [], Option.none⟩, ⟨120, 30, [], [.ops (opsOf (nav [1, 1, 1, 0] (bodyOf Try.f120))) ((opsOf (nav [1, 1, 1, 0] (bodyOf Try.f120))).toList.drop 1), .it (.code (nav [1, 1, 1, 1] (bodyOf Try.f120)))], [], Option.none⟩], [(0, EK.cells 25 [iv n, xl X, xl P] true), (1, EK.seq 3 (.ints .i64 e) nn)], 2⟩
theorem in_t (n : Int) (X P : List (List U)) : RUN (st0 120 [clE n X P]) = (bc (decide ((48 : Int) < n)) (.done (EV.v (Value.int IntKind.i64 (3))) [] 0) (bc (decide ((20000 : Int) < Int.ofNat (List.length X))) (.done (EV.v (Value.int IntKind.i64 (3))) [] 0) (bc (decide ((6400 : Int) < Int.ofNat (List.length P))) (.done (EV.v (Value.int IntKind.i64 (3))) [] 0) (bc (decide (n < (2 : Int))) (.done (EV.v (Value.int IntKind.i64 (2))) [] 0) (.at (sA (n) (X) (P) ((0 : Int)))))))) := by kernel_rfl
theorem a_t (n : Int) (X P : List (List U)) (i : Int) : RUN (stOf (sA n X P i)) = (bc (decide (i < Int.ofNat (List.length X))) (bc (bc (bc (decide ((0 : Int) ≤ i)) (Nat.blt (Int.toNat i) (List.length X)) false) true false) (bc (bc (Nat.blt (Int.toNat i) (List.length X)) true false) (bc (decide (U.int (List.getD (List.getD X (Int.toNat i) []) (Nat.succ (0 : Nat)) (U.i (0 : Int))) < (0 : Int))) (.done (EV.v (Value.int IntKind.i64 (2))) [] 0) (bc (decide (IntKind.wrap IntKind.i64 (n - (2 : Int)) < U.int (List.getD (List.getD X (Int.toNat i) []) (Nat.succ (0 : Nat)) (U.i (0 : Int))))) (.done (EV.v (Value.int IntKind.i64 (2))) [] 0) (bc (decide (U.int (List.getD (List.getD X (Int.toNat i) []) (0 : Nat) (U.i (0 : Int))) < (0 : Int))) (.done (EV.v (Value.int IntKind.i64 (2))) [] 0) (.at (sA (n) (X) (P) (IntKind.wrap IntKind.i64 (i + (1 : Int)))))))) .bad) .bad) (.at (sB (n) (X) (P) ((0 : Int))))) := by kernel_rfl
theorem b_t (n : Int) (X P : List (List U)) (i : Int) : RUN (stOf (sB n X P i)) = (bc (decide (i < Int.ofNat (List.length P))) (bc (bc (bc (decide ((0 : Int) ≤ i)) (Nat.blt (Int.toNat i) (List.length P)) false) true false) (bc (bc (Nat.blt (Int.toNat i) (List.length P)) true false) (bc (decide (U.int (List.getD (List.getD P (Int.toNat i) []) (Nat.succ (0 : Nat)) (U.i (0 : Int))) < (0 : Int))) (.done (EV.v (Value.int IntKind.i64 (2))) [] 0) (bc (decide (IntKind.wrap IntKind.i64 (n - (2 : Int)) < U.int (List.getD (List.getD P (Int.toNat i) []) (Nat.succ (0 : Nat)) (U.i (0 : Int))))) (.done (EV.v (Value.int IntKind.i64 (2))) [] 0) (bc (decide (U.int (List.getD (List.getD P (Int.toNat i) []) (0 : Nat) (U.i (0 : Int))) < (0 : Int))) (.done (EV.v (Value.int IntKind.i64 (2))) [] 0) (bc (decide (U.int (List.getD (List.getD P (Int.toNat i) []) (Nat.succ (Nat.succ (0 : Nat))) (U.i (0 : Int))) < (0 : Int))) (.done (EV.v (Value.int IntKind.i64 (2))) [] 0) (bc (decide (n ≤ U.int (List.getD (List.getD P (Int.toNat i) []) (Nat.succ (Nat.succ (0 : Nat))) (U.i (0 : Int))))) (.done (EV.v (Value.int IntKind.i64 (2))) [] 0) (bc (decide (U.int (List.getD (List.getD P (Int.toNat i) []) (Nat.succ (Nat.succ (Nat.succ (0 : Nat)))) (U.i (0 : Int))) < (0 : Int))) (.done (EV.v (Value.int IntKind.i64 (2))) [] 0) (bc (decide (n ≤ U.int (List.getD (List.getD P (Int.toNat i) []) (Nat.succ (Nat.succ (Nat.succ (0 : Nat)))) (U.i (0 : Int))))) (.done (EV.v (Value.int IntKind.i64 (2))) [] 0) (bc (U.int (List.getD (List.getD P (Int.toNat i) []) (Nat.succ (Nat.succ (0 : Nat))) (U.i (0 : Int))) == U.int (List.getD (List.getD P (Int.toNat i) []) (Nat.succ (Nat.succ (Nat.succ (0 : Nat)))) (U.i (0 : Int)))) (.done (EV.v (Value.int IntKind.i64 (2))) [] 0) (.at (sB (n) (X) (P) (IntKind.wrap IntKind.i64 (i + (1 : Int))))))))))))) .bad) .bad) (.at (sC (n) (X) (P) ([]) (false) ((0 : Int))))) := by kernel_rfl
theorem c_t (n : Int) (X P : List (List U)) (q : List Int) (nn : Bool) (i : Int) : RUN (stOf (sC n X P q nn i)) = (bc (decide (i < n)) (bc (bc (Nat.beq (List.length q) (List.length q)) (bc (Nat.ble (List.length q + List.length (List.map (fun r => U.int (List.headD r (U.i (0 : Int)))) [[U.i i]])) (65536 : Nat)) (bc nn true (bc nn false true)) false) false) (.at (sC (n) (X) (P) (q ++ List.map (fun r => U.int (List.headD r (U.i (0 : Int)))) [[U.i i]]) (bc nn true (Nat.blt (0 : Nat) (List.length (List.map (fun r => U.int (List.headD r (U.i (0 : Int)))) [[U.i i]])))) (IntKind.wrap IntKind.i64 (i + (1 : Int))))) .bad) (.at (sD (n) (X) (P) (List.length q) (q) (nn) ((0 : Int))))) := by kernel_rfl
theorem d_t (n : Int) (X P : List (List U)) (m : Nat) (e : List Int) (nn : Bool) (i : Int) : RUN (stOf (sD n X P m e nn i)) = (bc (decide (i < Int.ofNat (List.length X))) (bc (bc (bc (decide ((0 : Int) ≤ i)) (Nat.blt (Int.toNat i) (List.length X)) false) true false) (bc (bc (Nat.blt (Int.toNat i) (List.length X)) true false) (bc (bc (bc (bc (bc (decide ((0 : Int) ≤ U.int (List.getD (List.getD X (Int.toNat i) []) (Nat.succ (0 : Nat)) (U.i (0 : Int))))) (Nat.blt (Int.toNat (U.int (List.getD (List.getD X (Int.toNat i) []) (Nat.succ (0 : Nat)) (U.i (0 : Int))))) m) false) true false) (bc (bc (Nat.blt (Int.toNat (U.int (List.getD (List.getD X (Int.toNat i) []) (Nat.succ (0 : Nat)) (U.i (0 : Int))))) (List.length e)) true false) (bc (bc (bc (decide ((0 : Int) ≤ IntKind.wrap IntKind.i64 (U.int (List.getD (List.getD X (Int.toNat i) []) (Nat.succ (0 : Nat)) (U.i (0 : Int))) + (1 : Int)))) (Nat.blt (Int.toNat (IntKind.wrap IntKind.i64 (U.int (List.getD (List.getD X (Int.toNat i) []) (Nat.succ (0 : Nat)) (U.i (0 : Int))) + (1 : Int)))) m) false) true false) (bc (bc (Nat.blt (Int.toNat (IntKind.wrap IntKind.i64 (U.int (List.getD (List.getD X (Int.toNat i) []) (Nat.succ (0 : Nat)) (U.i (0 : Int))) + (1 : Int)))) (List.length e)) true false) true false) false) false) false) true false) (bc (List.getD e (Int.toNat (U.int (List.getD (List.getD X (Int.toNat i) []) (Nat.succ (0 : Nat)) (U.i (0 : Int))))) (0 : Int) != U.int (List.getD (List.getD X (Int.toNat i) []) (Nat.succ (Nat.succ (0 : Nat))) (U.i (0 : Int)))) (bc (List.getD e (Int.toNat (IntKind.wrap IntKind.i64 (U.int (List.getD (List.getD X (Int.toNat i) []) (Nat.succ (0 : Nat)) (U.i (0 : Int))) + (1 : Int)))) (0 : Int) != U.int (List.getD (List.getD X (Int.toNat i) []) (Nat.succ (Nat.succ (0 : Nat))) (U.i (0 : Int)))) (.done (EV.v (Value.int IntKind.i64 (6))) [] 0) (bc (List.getD e (Int.toNat (U.int (List.getD (List.getD X (Int.toNat i) []) (Nat.succ (0 : Nat)) (U.i (0 : Int))))) (0 : Int) != U.int (List.getD (List.getD X (Int.toNat i) []) (Nat.succ (Nat.succ (Nat.succ (0 : Nat)))) (U.i (0 : Int)))) (.done (EV.v (Value.int IntKind.i64 (6))) [] 0) (bc (bc (bc (bc (bc (decide ((0 : Int) ≤ U.int (List.getD (List.getD X (Int.toNat i) []) (Nat.succ (0 : Nat)) (U.i (0 : Int))))) (Nat.blt (Int.toNat (U.int (List.getD (List.getD X (Int.toNat i) []) (Nat.succ (0 : Nat)) (U.i (0 : Int))))) m) false) true false) (bc (Nat.blt (Int.toNat (U.int (List.getD (List.getD X (Int.toNat i) []) (Nat.succ (0 : Nat)) (U.i (0 : Int))))) (List.length e)) (bc (bc (bc (decide ((0 : Int) ≤ IntKind.wrap IntKind.i64 (U.int (List.getD (List.getD X (Int.toNat i) []) (Nat.succ (0 : Nat)) (U.i (0 : Int))) + (1 : Int)))) (Nat.blt (Int.toNat (IntKind.wrap IntKind.i64 (U.int (List.getD (List.getD X (Int.toNat i) []) (Nat.succ (0 : Nat)) (U.i (0 : Int))) + (1 : Int)))) m) false) true false) (bc (Nat.blt (Int.toNat (IntKind.wrap IntKind.i64 (U.int (List.getD (List.getD X (Int.toNat i) []) (Nat.succ (0 : Nat)) (U.i (0 : Int))) + (1 : Int)))) (List.length (List.set e (Int.toNat (U.int (List.getD (List.getD X (Int.toNat i) []) (Nat.succ (0 : Nat)) (U.i (0 : Int))))) (List.getD e (Int.toNat (IntKind.wrap IntKind.i64 (U.int (List.getD (List.getD X (Int.toNat i) []) (Nat.succ (0 : Nat)) (U.i (0 : Int))) + (1 : Int)))) (0 : Int))))) true false) false) false) false) (bc (bc (bc (decide (U.int (List.getD (List.getD X (Int.toNat i) []) (Nat.succ (0 : Nat)) (U.i (0 : Int))) = U.int (List.getD (List.getD X (Int.toNat i) []) (Nat.succ (0 : Nat)) (U.i (0 : Int))))) true false) true false) true false) false) (.at (sD (n) (X) (P) (m) (List.set (List.set e (Int.toNat (U.int (List.getD (List.getD X (Int.toNat i) []) (Nat.succ (0 : Nat)) (U.i (0 : Int))))) (List.getD e (Int.toNat (IntKind.wrap IntKind.i64 (U.int (List.getD (List.getD X (Int.toNat i) []) (Nat.succ (0 : Nat)) (U.i (0 : Int))) + (1 : Int)))) (0 : Int))) (Int.toNat (IntKind.wrap IntKind.i64 (U.int (List.getD (List.getD X (Int.toNat i) []) (Nat.succ (0 : Nat)) (U.i (0 : Int))) + (1 : Int)))) (List.getD e (Int.toNat (U.int (List.getD (List.getD X (Int.toNat i) []) (Nat.succ (0 : Nat)) (U.i (0 : Int))))) (0 : Int))) (nn) (IntKind.wrap IntKind.i64 (i + (1 : Int))))) .bad))) (bc (List.getD e (Int.toNat (IntKind.wrap IntKind.i64 (U.int (List.getD (List.getD X (Int.toNat i) []) (Nat.succ (0 : Nat)) (U.i (0 : Int))) + (1 : Int)))) (0 : Int) != U.int (List.getD (List.getD X (Int.toNat i) []) (Nat.succ (Nat.succ (Nat.succ (0 : Nat)))) (U.i (0 : Int)))) (bc (List.getD e (Int.toNat (IntKind.wrap IntKind.i64 (U.int (List.getD (List.getD X (Int.toNat i) []) (Nat.succ (0 : Nat)) (U.i (0 : Int))) + (1 : Int)))) (0 : Int) != U.int (List.getD (List.getD X (Int.toNat i) []) (Nat.succ (Nat.succ (0 : Nat))) (U.i (0 : Int)))) (.done (EV.v (Value.int IntKind.i64 (6))) [] 0) (bc (List.getD e (Int.toNat (U.int (List.getD (List.getD X (Int.toNat i) []) (Nat.succ (0 : Nat)) (U.i (0 : Int))))) (0 : Int) != U.int (List.getD (List.getD X (Int.toNat i) []) (Nat.succ (Nat.succ (Nat.succ (0 : Nat)))) (U.i (0 : Int)))) (.done (EV.v (Value.int IntKind.i64 (6))) [] 0) (bc (bc (bc (bc (bc (decide ((0 : Int) ≤ U.int (List.getD (List.getD X (Int.toNat i) []) (Nat.succ (0 : Nat)) (U.i (0 : Int))))) (Nat.blt (Int.toNat (U.int (List.getD (List.getD X (Int.toNat i) []) (Nat.succ (0 : Nat)) (U.i (0 : Int))))) m) false) true false) (bc (Nat.blt (Int.toNat (U.int (List.getD (List.getD X (Int.toNat i) []) (Nat.succ (0 : Nat)) (U.i (0 : Int))))) (List.length e)) (bc (bc (bc (decide ((0 : Int) ≤ IntKind.wrap IntKind.i64 (U.int (List.getD (List.getD X (Int.toNat i) []) (Nat.succ (0 : Nat)) (U.i (0 : Int))) + (1 : Int)))) (Nat.blt (Int.toNat (IntKind.wrap IntKind.i64 (U.int (List.getD (List.getD X (Int.toNat i) []) (Nat.succ (0 : Nat)) (U.i (0 : Int))) + (1 : Int)))) m) false) true false) (bc (Nat.blt (Int.toNat (IntKind.wrap IntKind.i64 (U.int (List.getD (List.getD X (Int.toNat i) []) (Nat.succ (0 : Nat)) (U.i (0 : Int))) + (1 : Int)))) (List.length (List.set e (Int.toNat (U.int (List.getD (List.getD X (Int.toNat i) []) (Nat.succ (0 : Nat)) (U.i (0 : Int))))) (List.getD e (Int.toNat (IntKind.wrap IntKind.i64 (U.int (List.getD (List.getD X (Int.toNat i) []) (Nat.succ (0 : Nat)) (U.i (0 : Int))) + (1 : Int)))) (0 : Int))))) true false) false) false) false) (bc (bc (bc (decide (U.int (List.getD (List.getD X (Int.toNat i) []) (Nat.succ (0 : Nat)) (U.i (0 : Int))) = U.int (List.getD (List.getD X (Int.toNat i) []) (Nat.succ (0 : Nat)) (U.i (0 : Int))))) true false) true false) true false) false) (.at (sD (n) (X) (P) (m) (List.set (List.set e (Int.toNat (U.int (List.getD (List.getD X (Int.toNat i) []) (Nat.succ (0 : Nat)) (U.i (0 : Int))))) (List.getD e (Int.toNat (IntKind.wrap IntKind.i64 (U.int (List.getD (List.getD X (Int.toNat i) []) (Nat.succ (0 : Nat)) (U.i (0 : Int))) + (1 : Int)))) (0 : Int))) (Int.toNat (IntKind.wrap IntKind.i64 (U.int (List.getD (List.getD X (Int.toNat i) []) (Nat.succ (0 : Nat)) (U.i (0 : Int))) + (1 : Int)))) (List.getD e (Int.toNat (U.int (List.getD (List.getD X (Int.toNat i) []) (Nat.succ (0 : Nat)) (U.i (0 : Int))))) (0 : Int))) (nn) (IntKind.wrap IntKind.i64 (i + (1 : Int))))) .bad))) (bc (bc (bc (bc (bc (decide ((0 : Int) ≤ U.int (List.getD (List.getD X (Int.toNat i) []) (Nat.succ (0 : Nat)) (U.i (0 : Int))))) (Nat.blt (Int.toNat (U.int (List.getD (List.getD X (Int.toNat i) []) (Nat.succ (0 : Nat)) (U.i (0 : Int))))) m) false) true false) (bc (Nat.blt (Int.toNat (U.int (List.getD (List.getD X (Int.toNat i) []) (Nat.succ (0 : Nat)) (U.i (0 : Int))))) (List.length e)) (bc (bc (bc (decide ((0 : Int) ≤ IntKind.wrap IntKind.i64 (U.int (List.getD (List.getD X (Int.toNat i) []) (Nat.succ (0 : Nat)) (U.i (0 : Int))) + (1 : Int)))) (Nat.blt (Int.toNat (IntKind.wrap IntKind.i64 (U.int (List.getD (List.getD X (Int.toNat i) []) (Nat.succ (0 : Nat)) (U.i (0 : Int))) + (1 : Int)))) m) false) true false) (bc (Nat.blt (Int.toNat (IntKind.wrap IntKind.i64 (U.int (List.getD (List.getD X (Int.toNat i) []) (Nat.succ (0 : Nat)) (U.i (0 : Int))) + (1 : Int)))) (List.length (List.set e (Int.toNat (U.int (List.getD (List.getD X (Int.toNat i) []) (Nat.succ (0 : Nat)) (U.i (0 : Int))))) (List.getD e (Int.toNat (IntKind.wrap IntKind.i64 (U.int (List.getD (List.getD X (Int.toNat i) []) (Nat.succ (0 : Nat)) (U.i (0 : Int))) + (1 : Int)))) (0 : Int))))) true false) false) false) false) (bc (bc (bc (decide (U.int (List.getD (List.getD X (Int.toNat i) []) (Nat.succ (0 : Nat)) (U.i (0 : Int))) = U.int (List.getD (List.getD X (Int.toNat i) []) (Nat.succ (0 : Nat)) (U.i (0 : Int))))) true false) true false) true false) false) (.at (sD (n) (X) (P) (m) (List.set (List.set e (Int.toNat (U.int (List.getD (List.getD X (Int.toNat i) []) (Nat.succ (0 : Nat)) (U.i (0 : Int))))) (List.getD e (Int.toNat (IntKind.wrap IntKind.i64 (U.int (List.getD (List.getD X (Int.toNat i) []) (Nat.succ (0 : Nat)) (U.i (0 : Int))) + (1 : Int)))) (0 : Int))) (Int.toNat (IntKind.wrap IntKind.i64 (U.int (List.getD (List.getD X (Int.toNat i) []) (Nat.succ (0 : Nat)) (U.i (0 : Int))) + (1 : Int)))) (List.getD e (Int.toNat (U.int (List.getD (List.getD X (Int.toNat i) []) (Nat.succ (0 : Nat)) (U.i (0 : Int))))) (0 : Int))) (nn) (IntKind.wrap IntKind.i64 (i + (1 : Int))))) .bad))) .bad) .bad) .bad) (.done (EV.v (Value.int IntKind.i64 (0))) [] 0)) := by kernel_rfl
theorem stepA {n : Int} {X P : List (List U)} {i : Nat} (hi : i < X.length) (hX : X.length ≤ 20000) (h2 : 2 ≤ n) (hn : n ≤ 48) : RUN (stOf (sA n X P i)) = bc (okX n X[i]) (.at (sA n X P (i + 1 : Nat))) (.done (iv 2) [] 0) := by
  rw [a_t]; have e : X.getD i [] = X[i] := getD_at hi; rw [to_nat, e]; have e1 : U.int (List.getD X[i] (Nat.succ 0) (U.i 0)) = xA X[i] := rfl; have e2 : U.int (List.getD X[i] 0 (U.i 0)) = xW X[i] := rfl; rw [e1, e2]; unfold okX; have f1 : decide (xA X[i] < 0) = !decide (0 ≤ xA X[i]) := by simp [← Int.not_le]
  have f2 : decide (n - 2 < xA X[i]) = !decide (xA X[i] ≤ n - 2) := by simp [← Int.not_le]
  have f3 : decide (xW X[i] < 0) = !decide (0 ≤ xW X[i]) := by simp [← Int.not_le]
  rw [wrap_in (n - 2) (by omega) (by omega), f1, f2, f3]; simp (disch := omega) only [Nat.add_eq, eqSy_self, eqN_self, bc_same, List.length_cons, ofn, wrap_in, dt, df, bltD, bltN, ble_of, bleN, beqD, bc_t, bc_f, nn_ok, Nat.zero_add, to_nat, Int.zero_add, Int.sub_zero, Int.sub_self, Int.cast_ofNat_Int, Int.natCast_zero, Int.toNat_zero, List.take_zero, List.nil_append, List.length_append, List.length_nil]; cases decide (0 ≤ xA X[i])
  · rfl
  cases decide (xA X[i] ≤ n - 2)
  · rfl
  cases decide (0 ≤ xW X[i]) <;> rfl
theorem lastA {n : Int} {X P : List (List U)} {i : Nat} (hi : X.length ≤ i) : RUN (stOf (sA n X P i)) = .at (sB n X P (0 : Nat)) := by
  rw [a_t]; simp (disch := omega) only [Nat.add_eq, eqSy_self, eqN_self, bc_same, List.length_cons, ofn, wrap_in, dt, df, bltD, bltN, ble_of, bleN, beqD, bc_t, bc_f, nn_ok, Nat.zero_add, to_nat, Int.zero_add, Int.sub_zero, Int.sub_self, Int.cast_ofNat_Int, Int.natCast_zero, Int.toNat_zero, List.take_zero, List.nil_append, List.length_append, List.length_nil]
theorem badA {n : Int} {X P : List (List U)} (hX : X.length ≤ 20000) (h2 : 2 ≤ n) (hn : n ≤ 48) : ∀ (k i : Nat), i + k = X.length → (X.drop i).all (okX n) = false → EndZ 120 .nil false (stOf (sA n X P i)) (iv 2) [] 0
  | 0, i, h, hb => by
    rw [List.drop_eq_nil_of_le (by omega)] at hb; cases hb
  | k + 1, i, h, hb => by
    have hi : i < X.length := by omega
    have h1 := stepA (P := P) hi hX h2 hn; rw [List.drop_eq_getElem_cons hi, List.all_cons] at hb; cases ho : okX n X[i] <;> rw [ho] at h1 hb
    · exact .done h1
    · exact .at (.nil _) h1 (badA hX h2 hn k (i + 1) (by omega) hb)
theorem goodA {n : Int} {X P : List (List U)} (hX : X.length ≤ 20000) (h2 : 2 ≤ n) (hn : n ≤ 48) : ∀ (k i : Nat), i + k = X.length → (X.drop i).all (okX n) = true → LeadsZ Try.prog (stOf (sA n X P i)) (stOf (sB n X P (0 : Nat)))
  | 0, i, h, hb => leadsZ (.nil _) (lastA (by omega))
  | k + 1, i, h, hb => by
    have hi : i < X.length := by omega
    have h1 := stepA (P := P) hi hX h2 hn; rw [List.drop_eq_getElem_cons hi, List.all_cons, Bool.and_eq_true] at hb; rw [hb.1] at h1; exact (leadsZ (.nil _) h1).trans (goodA hX h2 hn k (i + 1) (by omega) hb.2)
theorem stepB {n : Int} {X P : List (List U)} {i : Nat} (hi : i < P.length) (hX : P.length ≤ 6400) (h2 : 2 ≤ n) (hn : n ≤ 48) : RUN (stOf (sB n X P i)) = bc (okP n P[i]) (.at (sB n X P (i + 1 : Nat))) (.done (iv 2) [] 0) := by
  rw [b_t]; have e : P.getD i [] = P[i] := getD_at hi; rw [to_nat, e]; have e1 : U.int (List.getD P[i] (Nat.succ 0) (U.i 0)) = xA P[i] := rfl; have e2 : U.int (List.getD P[i] 0 (U.i 0)) = xW P[i] := rfl; have e3 : U.int (List.getD P[i] (Nat.succ (Nat.succ 0)) (U.i 0)) = xO P[i] := rfl; have e4 : U.int (List.getD P[i] (Nat.succ (Nat.succ (Nat.succ 0))) (U.i 0)) = xU P[i] := rfl; rw [e1, e2, e3, e4]; unfold okP okX; have f1 : decide (xA P[i] < 0) = !decide (0 ≤ xA P[i]) := by simp [← Int.not_le]
  have f2 : decide (n - 2 < xA P[i]) = !decide (xA P[i] ≤ n - 2) := by simp [← Int.not_le]
  have f3 : decide (xW P[i] < 0) = !decide (0 ≤ xW P[i]) := by simp [← Int.not_le]
  have f4 : decide (xO P[i] < 0) = !decide (0 ≤ xO P[i]) := by simp [← Int.not_le]
  have f5 : decide (n ≤ xO P[i]) = !decide (xO P[i] ≤ n - 1) := by
    by_cases q : n ≤ xO P[i]
    · rw [dt q, df (show ¬ xO P[i] ≤ n - 1 by omega)]; rfl
    · rw [df q, dt (show xO P[i] ≤ n - 1 by omega)]; rfl
  have f6 : decide (xU P[i] < 0) = !decide (0 ≤ xU P[i]) := by simp [← Int.not_le]
  have f7 : decide (n ≤ xU P[i]) = !decide (xU P[i] ≤ n - 1) := by
    by_cases q : n ≤ xU P[i]
    · rw [dt q, df (show ¬ xU P[i] ≤ n - 1 by omega)]; rfl
    · rw [df q, dt (show xU P[i] ≤ n - 1 by omega)]; rfl
  rw [wrap_in (n - 2) (by omega) (by omega), f1, f2, f3, f4, f5, f6, f7]; simp (disch := omega) only [Nat.add_eq, eqSy_self, eqN_self, bc_same, List.length_cons, ofn, wrap_in, dt, df, bltD, bltN, ble_of, bleN, beqD, bc_t, bc_f, nn_ok, Nat.zero_add, to_nat, Int.zero_add, Int.sub_zero, Int.sub_self, Int.cast_ofNat_Int, Int.natCast_zero, Int.toNat_zero, List.take_zero, List.nil_append, List.length_append, List.length_nil, bne]; cases decide (0 ≤ xA P[i])
  · rfl
  cases decide (xA P[i] ≤ n - 2)
  · rfl
  cases decide (0 ≤ xW P[i])
  · rfl
  cases decide (0 ≤ xO P[i])
  · rfl
  cases decide (xO P[i] ≤ n - 1)
  · rfl
  cases decide (0 ≤ xU P[i])
  · rfl
  cases decide (xU P[i] ≤ n - 1)
  · rfl
  cases (xO P[i] == xU P[i]) <;> rfl
theorem lastB {n : Int} {X P : List (List U)} {i : Nat} (hi : P.length ≤ i) : RUN (stOf (sB n X P i)) = .at (sC n X P [] false (0 : Nat)) := by
  rw [b_t]; simp (disch := omega) only [Nat.add_eq, eqSy_self, eqN_self, bc_same, List.length_cons, ofn, wrap_in, dt, df, bltD, bltN, ble_of, bleN, beqD, bc_t, bc_f, nn_ok, Nat.zero_add, to_nat, Int.zero_add, Int.sub_zero, Int.sub_self, Int.cast_ofNat_Int, Int.natCast_zero, Int.toNat_zero, List.take_zero, List.nil_append, List.length_append, List.length_nil]
theorem badB {n : Int} {X P : List (List U)} (hX : P.length ≤ 6400) (h2 : 2 ≤ n) (hn : n ≤ 48) : ∀ (k i : Nat), i + k = P.length → (P.drop i).all (okP n) = false → EndZ 120 .nil false (stOf (sB n X P i)) (iv 2) [] 0
  | 0, i, h, hb => by
    rw [List.drop_eq_nil_of_le (by omega)] at hb; cases hb
  | k + 1, i, h, hb => by
    have hi : i < P.length := by omega
    have h1 := stepB (X := X) hi hX h2 hn; rw [List.drop_eq_getElem_cons hi, List.all_cons] at hb; cases ho : okP n P[i] <;> rw [ho] at h1 hb
    · exact .done h1
    · exact .at (.nil _) h1 (badB hX h2 hn k (i + 1) (by omega) hb)
theorem goodB {n : Int} {X P : List (List U)} (hX : P.length ≤ 6400) (h2 : 2 ≤ n) (hn : n ≤ 48) : ∀ (k i : Nat), i + k = P.length → (P.drop i).all (okP n) = true → LeadsZ Try.prog (stOf (sB n X P i)) (stOf (sC n X P [] false (0 : Nat)))
  | 0, i, h, hb => leadsZ (.nil _) (lastB (by omega))
  | k + 1, i, h, hb => by
    have hi : i < P.length := by omega
    have h1 := stepB (X := X) hi hX h2 hn; rw [List.drop_eq_getElem_cons hi, List.all_cons, Bool.and_eq_true] at hb; rw [hb.1] at h1; exact (leadsZ (.nil _) h1).trans (goodB hX h2 hn k (i + 1) (by omega) hb.2)
theorem loopC {n : Nat} {X P : List (List U)} (hn : n ≤ 48) : ∀ (k i : Nat) (nn : Bool), i + k = n → ∃ nn', LeadsZ Try.prog (stOf (sC n X P (lnI i) nn i)) (stOf (sD n X P n (lnI n) nn' (0 : Nat)))
  | 0, i, nn, h => by
    obtain rfl : i = n := by omega
    have h1 := c_t i X P (lnI i) nn i; rw [df (show ¬ (i : Int) < i by omega), bc_f, lnI_len] at h1; exact ⟨nn, leadsZ (.nil _) h1⟩
  | k + 1, i, nn, h => by
    have h1 : RUN (stOf (sC n X P (lnI i) nn i)) = .at (sC n X P (lnI (i + 1)) (bc nn true true) (i + 1 : Nat)) := by
      rw [c_t, lnI_succ]; have hl := lnI_len i; simp (disch := omega) only [Nat.add_eq, eqSy_self, eqN_self, bc_same, List.length_cons, ofn, wrap_in, dt, df, bltD, bltN, ble_of, bleN, beqD, bc_t, bc_f, nn_ok, Nat.zero_add, to_nat, Int.zero_add, Int.sub_zero, Int.sub_self, Int.cast_ofNat_Int, Int.natCast_zero, Int.toNat_zero, List.take_zero, List.nil_append, List.length_append, List.length_nil, List.map_cons, List.map_nil]; rfl
    obtain ⟨nn', h2⟩ := loopC (X := X) (P := P) hn k (i + 1) (bc nn true true) (by omega); exact ⟨nn', (leadsZ (.nil _) h1).trans h2⟩
theorem stepD {n : Nat} {X P : List (List U)} {e : List Int} {nn : Bool} {i : Nat} (hi : i < X.length) (hX : X.length ≤ 20000) (he : e.length = n) (hn : n ≤ 48) (hok : okX n X[i] = true) : RUN (stOf (sD n X P n e nn i)) = bc (enB e X[i]) (.at (sD n X P n (swp e (xA X[i]).toNat) nn (i + 1 : Nat))) (.done (iv 6) [] 0) := by
  rw [d_t]; have e0 : X.getD i [] = X[i] := getD_at hi; rw [to_nat, e0]; have e1 : U.int (List.getD X[i] (Nat.succ 0) (U.i 0)) = xA X[i] := rfl; have e3 : U.int (List.getD X[i] (Nat.succ (Nat.succ 0)) (U.i 0)) = xO X[i] := rfl; have e4 : U.int (List.getD X[i] (Nat.succ (Nat.succ (Nat.succ 0))) (U.i 0)) = xU X[i] := rfl; rw [e1, e3, e4]; unfold okX at hok; obtain ⟨a1, h1⟩ := bcT hok; obtain ⟨a2, _⟩ := bcT h1; have a1 := of_decide_eq_true a1; have a2 := of_decide_eq_true a2; unfold enB; obtain ⟨a, ha⟩ := Int.eq_ofNat_of_zero_le a1; rw [ha] at a2 ⊢
  have w1 : IntKind.i64.wrap ((a : Int) + 1) = ((a + 1 : Nat) : Int) := by rw [wrap_in _ (by omega) (by omega)]; rfl
  rw [w1]; simp (disch := omega) only [Nat.add_eq, eqSy_self, eqN_self, bc_same, List.length_cons, ofn, wrap_in, dt, df, bltD, bltN, ble_of, bleN, beqD, bc_t, bc_f, nn_ok, Nat.zero_add, to_nat, Int.zero_add, Int.sub_zero, Int.sub_self, Int.cast_ofNat_Int, Int.natCast_zero, Int.toNat_zero, List.take_zero, List.nil_append, List.length_append, List.length_nil, List.length_set, bne, decide_true]; cases (e.getD a 0 == xO X[i]) <;> cases (e.getD (a + 1) 0 == xU X[i]) <;> cases (e.getD a 0 == xU X[i]) <;> cases (e.getD (a + 1) 0 == xO X[i]) <;> rfl
theorem lastD {n : Int} {X P : List (List U)} {m : Nat} {e : List Int} {nn : Bool} {i : Nat} (hi : X.length ≤ i) : RUN (stOf (sD n X P m e nn i)) = .done (iv 0) [] 0 := by
  rw [d_t]; simp (disch := omega) only [Nat.add_eq, eqSy_self, eqN_self, bc_same, List.length_cons, ofn, wrap_in, dt, df, bltD, bltN, ble_of, bleN, beqD, bc_t, bc_f, nn_ok, Nat.zero_add, to_nat, Int.zero_add, Int.sub_zero, Int.sub_self, Int.cast_ofNat_Int, Int.natCast_zero, Int.toNat_zero, List.take_zero, List.nil_append, List.length_append, List.length_nil]
theorem loopD {n : Nat} {X P : List (List U)} {nn : Bool} (hX : X.length ≤ 20000) (hn : n ≤ 48) (hok : ∀ r, r ∈ X → okX n r = true) : ∀ (k i : Nat) (e : List Int), i + k = X.length → e.length = n → EndZ 120 .nil false (stOf (sD n X P n e nn i)) (iv (bc (enF e (X.drop i)) 0 6)) [] 0
  | 0, i, e, h, he => by
    rw [List.drop_eq_nil_of_le (by omega)]; exact .done (lastD (by omega))
  | k + 1, i, e, h, he => by
    have hi : i < X.length := by omega
    have h1 := stepD (P := P) (nn := nn) hi hX he hn (hok _ (List.getElem_mem hi)); rw [List.drop_eq_getElem_cons hi]; unfold enF; cases hb : enB e X[i] <;> rw [hb] at h1
    · exact .done h1
    · exact .at (.nil _) h1 (loopD hX hn hok k (i + 1) _ (by omega) (by rw [swp_len]; exact he))
theorem ends (n : Int) (X P : List (List U)) : EndZ 120 .nil false (st0 120 [clE n X P]) (iv (chk17 n X P)) [] 0 := by
  have h := in_t n X P; unfold chk17
  by_cases h1 : 48 < n
  · simp only [ofn, dt h1, bc_t] at h ⊢; exact .done h
  by_cases h2 : 20000 < (X.length : Int)
  · simp only [ofn, df h1, dt h2, bc_t, bc_f] at h ⊢; exact .done h
  by_cases h3 : 6400 < (P.length : Int)
  · simp only [ofn, df h1, df h2, dt h3, bc_t, bc_f] at h ⊢; exact .done h
  simp only [ofn, df h1, df h2, df h3, bc_f] at h ⊢; unfold numB
  by_cases h4 : n < 2
  · rw [dt h4, bc_t] at h; rw [df (show ¬ 2 ≤ n by omega)]; exact .done h
  rw [df h4, bc_f] at h; rw [dt (show 2 ≤ n by omega), bc_t]
  cases hA : X.all (okX n) with
  | false => exact .at (.nil _) h (badA (by omega) (by omega) (by omega) X.length 0 (by omega) hA)
  | true =>
    rw [bc_t]; have hl := (leadsZ (.nil _) h).trans (goodA (P := P) (by omega) (by omega) (by omega) X.length 0 (by omega) hA)
    cases hB : P.all (okP n) with
    | false => exact .lead hl (badB (by omega) (by omega) (by omega) P.length 0 (by omega) hB)
    | true =>
      rw [bc_t]; have hl2 := hl.trans (goodB (X := X) (by omega) (by omega) (by omega) P.length 0 (by omega) hB); obtain ⟨n, rfl⟩ := Int.eq_ofNat_of_zero_le (show 0 ≤ n by omega); obtain ⟨nn', h5⟩ := loopC (n := n) (X := X) (P := P) (by omega) n 0 false (by omega); exact .lead (hl2.trans h5) (loopD (n := n) (P := P) (by omega) (by omega) (fun r hr => List.all_eq_true.1 hA r hr) X.length 0 (lnI n) (by omega) (lnI_len n))
end RChk
noncomputable def spRCk17 : ZCT := fun ax => match ax with
  | [.agg [.v (.int .i64 n), .lst (.recs [.int .i64, .int .i64, .int .i64, .int .i64] X), .lst (.recs [.int .i64, .int .i64, .int .i64, .int .i64] P)]] => some ⟨decide (True), iv (chk17 n X P), [], 0⟩
  | _ => none
theorem spRCk17_ok : ZCtOk Try.prog 120 spRCk17 := fun γ w us ax r hs hc hax hN hfz => by
  unfold spRCk17 at hs; split at hs
  case h_2 => cases hs
  rename_i n X P; obtain ⟨rfl⟩ := Option.some.inj hs; have hc_0 : decide (True) = true := hc; have hc := of_decide_eq_true hc_0; exact EndZ.calls (RChk.ends n X P) (.nil _) (by kernel_rfl) hax hN hfz
end Go.Proofs.Ytonbfalbfdkieaa.Ev
namespace Go.Proofs.Ytonbfalbfdkieaa.Ev
noncomputable def fiE (n m : Int) (X P Y Q : List (List U)) : Int := bc (chk17 n X P != 0) (chk17 n X P) (bc (chk17 m Y Q != 0) (chk17 m Y Q) (bc (n != m) 2 0))
end Go.Proofs.Ytonbfalbfdkieaa.Ev
namespace Go.Proofs.Ytonbfalbfdkieaa.Ev
open Go.Proofs
namespace RHis
end RHis
namespace RPar
end RPar
namespace RFir
end RFir
end Go.Proofs.Ytonbfalbfdkieaa.Ev
namespace Go.Proofs.Ytonbfalbfdkieaa.Ev
open Go.Proofs
namespace PBot
end PBot
noncomputable def ctPF : Tr ZCC := (Tr.nil.put 114 (some (dC spPCk17))).put 82 (some (dC spThr))
theorem ctPF_ok : ZCtsOk Try.prog ctPF := ((ZCtsOk.nil _).add rfl spPCk17_ok).add rfl spThr_ok
namespace PFir
end PFir
end Go.Proofs.Ytonbfalbfdkieaa.Ev
namespace Go.Proofs.Ytonbfalbfdkieaa.Ev
open Go.Proofs
namespace PFir
end PFir
def eqR (a b : List (List U)) : Prop := a = b
noncomputable instance (a b : List (List U)) : Decidable (eqR a b) := Classical.propDecidable _
end Go.Proofs.Ytonbfalbfdkieaa.Ev
namespace Go.Proofs.Ytonbfalbfdkieaa.Ev
theorem rowsH_len (n : Nat) (X : List (List U)) : (rowsT (thF X 0 (th0 n))).length = n := by rw [rowsT_len, thF_len]; unfold th0; simp
end Go.Proofs.Ytonbfalbfdkieaa.Ev
namespace Go.Proofs.Ytonbfalbfdkieaa.Ev

noncomputable def rA (r : List U) : List Int := List.map (fun r => U.int (List.headD r (U.i 0))) (U.list (r.getD 1 (U.i 0)))
noncomputable def nxtF (D : List Int) (R : List (List U)) (t : Int) : Int := bc (decide (0 ≤ D.getD t.toNat 0)) (bc (decide (D.getD t.toNat 0 < (rA (R.getD t.toNat [])).length)) ((rA (R.getD t.toNat [])).getD (D.getD t.toNat 0).toNat 0) (-1)) (-1)

noncomputable def atF (t : Int) : List (List U) → Nat → List Int
  | [], _ => []
  | r :: q, i => (bc (decide (xO r = t)) [(i : Int)] []) ++ (bc (decide (xU r = t)) [(i : Int)] []) ++ atF t q (i + 1)
theorem atF_len (t : Int) : ∀ (l : List (List U)) (i : Nat), (atF t l i).length ≤ 2 * l.length
  | [], _ => Nat.le_refl _
  | r :: q, i => by
    have := atF_len t q (i + 1); unfold atF; rw [List.length_append, List.length_append, List.length_cons]; cases decide (xO r = t) <;> cases decide (xU r = t) <;> simp [bc] <;> omega
theorem atF_mem {t : Int} : ∀ (l : List (List U)) (i : Nat) (a : Int), a ∈ atF t l i → ∃ k : Nat, a = (i + k : Nat) ∧ k < l.length ∧ (xO (l.getD k []) = t ∨ xU (l.getD k []) = t)
  | [], _, a, h => by cases h
  | r :: q, i, a, h => by
    unfold atF at h; rcases List.mem_append.1 h with h | h
    · rcases List.mem_append.1 h with h | h
      · by_cases e : xO r = t
        · rw [dt e, bc_t] at h; exact ⟨0, by simpa using h, by simp, .inl e⟩
        · rw [df e, bc_f] at h; cases h
      · by_cases e : xU r = t
        · rw [dt e, bc_t] at h; exact ⟨0, by simpa using h, by simp, .inr e⟩
        · rw [df e, bc_f] at h; cases h
    · obtain ⟨k, h1, h2, h3⟩ := atF_mem q (i + 1) a h; exact ⟨k + 1, by rw [h1]; congr 1; omega, by simp; omega, by simpa using h3⟩
theorem thF_at (t : Nat) : ∀ (l : List (List U)) (i : Nat) (T : Hs), t < T.length → (∀ r, r ∈ l → 0 ≤ xO r ∧ xO r < T.length ∧ 0 ≤ xU r ∧ xU r < T.length) → (getT (thF l i T) t).2 = (getT T t).2 ++ atF t l i
  | [], _, T, _, _ => by unfold thF atF; simp
  | r :: q, i, T, ht, hr => by
    have h1 := hr r List.mem_cons_self; unfold thF atF; rw [thF_at t q (i + 1) (upX T r i) (by rw [upX_len]; exact ht) (fun r' h' => by rw [upX_len]; exact hr r' (List.mem_cons_of_mem _ h'))]; unfold upX; rw [getT_add (by rw [addT_len]; omega), getT_add (by omega), getT_add (by omega)]; have e1 : decide (xO r = (t : Int)) = decide ((xO r).toNat = t) := by
      apply Bool.eq_iff_iff.2; simp only [decide_eq_true_eq]; omega
    have e2 : decide (xU r = (t : Int)) = decide ((xU r).toNat = t) := by
      apply Bool.eq_iff_iff.2; simp only [decide_eq_true_eq]; omega
    rw [e1, e2]
    by_cases a1 : (xO r).toNat = t <;> by_cases a2 : (xU r).toNat = t
    · have a3 : (xU r).toNat = (xO r).toNat := by omega
      simp [a1, a2, a3, bc]
    · have a3 : ¬ t = (xU r).toNat := fun e => a2 e.symm; simp [a1, a2, a3, bc]
    · have a3 : ¬ t = (xO r).toNat := fun e => a1 e.symm; have a4 : ¬ (xU r).toNat = (xO r).toNat := by omega
      simp [a1, a2, a3, a4, bc]
    · have a3 : ¬ t = (xO r).toNat := fun e => a1 e.symm; have a4 : ¬ t = (xU r).toNat := fun e => a2 e.symm; simp [a1, a2, a3, a4, bc]
theorem rowsA {n t : Nat} {X : List (List U)} (tx : thrs n X) (ht : t < n) : rA ((rowsT (thF X 0 (th0 n))).getD t []) = atF t X 0 := by
  have l0 : (th0 n).length = n := by unfold th0; simp
  have g0 : (getT (th0 n) t).2 = [] := by
    unfold getT th0; rw [List.getD_eq_getElem?_getD, List.getElem?_replicate, if_pos ht]; rfl
  have h1 := thF_at t X 0 (th0 n) (by omega) (fun r hr => by rw [l0]; exact tx r hr); rw [g0, List.nil_append] at h1; unfold rA; rw [getA (by rw [thF_len, l0]; exact ht), mapA, h1]
noncomputable def comB (Y R : List (List U)) (D : List Int) (r : List U) : Bool := bc (decide (nxtF D R (xO r) < 0)) false (bc (nxtF D R (xO r) != nxtF D R (xU r)) false (bc (xO (Y.getD (nxtF D R (xO r)).toNat []) != xO r) false true))
noncomputable def incD (D : List Int) (j : Nat) : List Int := D.set j (D.getD j 0 + 1)
noncomputable def stepD (b : Bool) (D : List Int) (r : List U) : List Int := bc b (incD (incD D (xO r).toNat) (xU r).toNat) ((D.set (xO r).toNat (-1)).set (xU r).toNat (-1))
noncomputable def comF (Y R : List (List U)) : List (List U) → Nat → List Int → List Int × List Int
  | [], _, _ => ([], [])
  | r :: q, i, D => bc (comB Y R D r) ((i : Int) :: (comF Y R q (i + 1) (stepD (comB Y R D r) D r)).1, nxtF D R (xO r) :: (comF Y R q (i + 1) (stepD (comB Y R D r) D r)).2) (comF Y R q (i + 1) (stepD (comB Y R D r) D r))
theorem incD_len (D : List Int) (j : Nat) : (incD D j).length = D.length := by unfold incD; simp
theorem stepD_len (b : Bool) (D : List Int) (r : List U) : (stepD b D r).length = D.length := by
  unfold stepD; cases b
  · rw [bc_f]; simp
  · rw [bc_t, incD_len, incD_len]

def Cnt (D : List Int) (b : Int) : Prop := ∀ j : Nat, -1 ≤ D.getD j 0 ∧ D.getD j 0 ≤ b
theorem Cnt.set {D : List Int} {b c x : Int} {j : Nat} (h : Cnt D b) (h1 : -1 ≤ x) (h2 : x ≤ c) (h3 : b ≤ c) : Cnt (D.set j x) c := fun k => by
  rw [List.getD_eq_getElem?_getD, List.getElem?_set]; have := h k; split
  · split
    · simp; omega
    · simp; have := h D.length; rw [List.getD_eq_getElem?_getD, List.getElem?_eq_none (Nat.le_refl _)] at this; simp at this; omega
  · rw [← List.getD_eq_getElem?_getD]; omega
theorem Cnt.inc {D : List Int} {b : Int} {j : Nat} (h : Cnt D b) (hb : 0 ≤ b) : Cnt (incD D j) (b + 1) := by
  have := h j; exact h.set (by omega) (by omega) (by omega)
theorem Cnt.step {D : List Int} {b : Int} {q : Bool} {r : List U} (h : Cnt D b) (hb : 0 ≤ b) : Cnt (stepD q D r) (b + 2) := by
  unfold stepD; cases q
  · rw [bc_f]; exact (h.set (c := b) (by omega) (by omega) (by omega)).set (by omega) (by omega) (by omega)
  · rw [bc_t]; have := (h.inc (j := (xO r).toNat) hb).inc (j := (xU r).toNat) (by omega); rw [show b + 2 = b + 1 + 1 by omega]; exact this
theorem nxtF_at {n t : Nat} {D : List Int} {Y : List (List U)} (ty : thrs n Y) (ht : t < n) : nxtF D (rowsT (thF Y 0 (th0 n))) t = bc (decide (0 ≤ D.getD t 0)) (bc (decide (D.getD t 0 < (atF t Y 0).length)) ((atF t Y 0).getD (D.getD t 0).toNat 0) (-1)) (-1) := by
  unfold nxtF; rw [show ((t : Int)).toNat = t from rfl, rowsA ty ht]
theorem nxtF_lt {n t : Nat} {D : List Int} {Y : List (List U)} (ty : thrs n Y) (ht : t < n) : nxtF D (rowsT (thF Y 0 (th0 n))) t < 0 ∨ ∃ k : Nat, nxtF D (rowsT (thF Y 0 (th0 n))) t = k ∧ k < Y.length := by
  rw [nxtF_at ty ht]
  by_cases h1 : 0 ≤ D.getD t 0
  · rw [dt h1, bc_t]
    by_cases h2 : D.getD t 0 < (atF t Y 0).length
    · rw [dt h2, bc_t]; have h3 : (D.getD t 0).toNat < (atF t Y 0).length := by omega
      rw [getD_at h3]; obtain ⟨k, e1, e2, _⟩ := atF_mem Y 0 _ (List.getElem_mem h3); exact .inr ⟨k, by rw [e1]; congr 1; omega, e2⟩
    · rw [df h2, bc_f]; exact .inl (by omega)
  · rw [df h1, bc_f]; exact .inl (by omega)
noncomputable def coP (n m : Int) (X P Y Q : List (List U)) : List Int × List Int := bc (fiE n m X P Y Q != 0) ([], []) (comF Y (rowsT (thF Y 0 (th0 n.toNat))) X 0 (zerosL n.toNat))
end Go.Proofs.Ytonbfalbfdkieaa.Ev
namespace Go.Proofs.Ytonbfalbfdkieaa.Ev
open Go.Proofs
namespace PNxt
noncomputable def K0 (D : List Int) (R : List (List U)) : List (Nat × EK) := [(0, .cells 34 [.slO 2 1 D.length true] true), (1, .cells 99 [.lst (.recs [.list [.int .i64, .bool], .list [.int .i64]] R)] true), (2, .seq 3 (.ints .i64 D) true)]
noncomputable def RM (s : ES) : ZF := RMs 3 119 .nil [] [] [] s
theorem in_t (t : Int) (D : List Int) (R : List (List U)) : RM (st0m 119 [iv t, .ptr 0 0, .ptr 1 0] (K0 D R) 3) = (bc (bc (bc (decide ((0 : Int) ≤ t)) (Nat.blt (Int.toNat t) (List.length D)) false) true false) (bc (bc (Nat.blt (Int.toNat t) (List.length D)) true false) (bc (decide ((0 : Int) ≤ List.getD D (Int.toNat t) (0 : Int))) (bc (bc (bc (decide ((0 : Int) ≤ t)) (Nat.blt (Int.toNat t) (List.length R)) false) true false) (bc (bc (Nat.blt (Int.toNat t) (List.length R)) true false) (bc (decide (List.getD D (Int.toNat t) (0 : Int) < Int.ofNat (List.length (List.map (fun r => U.int (List.headD r (U.i (0 : Int)))) (U.list (List.getD (List.getD R (Int.toNat t) []) (Nat.add (0 : Nat) (1 : Nat)) (U.i (0 : Int)))))))) (bc (bc (bc (decide ((0 : Int) ≤ t)) (Nat.blt (Int.toNat t) (List.length R)) false) true false) (bc (bc (Nat.blt (Int.toNat t) (List.length R)) true false) (bc (bc (bc (decide ((0 : Int) ≤ List.getD D (Int.toNat t) (0 : Int))) (Nat.blt (Int.toNat (List.getD D (Int.toNat t) (0 : Int))) (List.length (List.map (fun r => U.int (List.headD r (U.i (0 : Int)))) (U.list (List.getD (List.getD R (Int.toNat t) []) (Nat.add (0 : Nat) (1 : Nat)) (U.i (0 : Int))))))) false) true false) (bc (bc (Nat.blt (Int.toNat (List.getD D (Int.toNat t) (0 : Int))) (List.length (List.map (fun r => U.int (List.headD r (U.i (0 : Int)))) (U.list (List.getD (List.getD R (Int.toNat t) []) (Nat.add (0 : Nat) (1 : Nat)) (U.i (0 : Int))))))) true false) (.done (EV.v (Value.int IntKind.i64 (List.getD (List.map (fun r => U.int (List.headD r (U.i (0 : Int)))) (U.list (List.getD (List.getD R (Int.toNat t) []) (Nat.add (0 : Nat) (1 : Nat)) (U.i (0 : Int))))) (Int.toNat (List.getD D (Int.toNat t) (0 : Int))) (0 : Int)))) [(0, (EK.cells 34 [(EV.slO 2 1 (List.length D) true)] true)), (1, (EK.cells 99 [(EV.lst (SyC.recs [(Sh.list [(Sh.int IntKind.i64), Sh.bool]), (Sh.list [(Sh.int IntKind.i64)])] (R)))] true)), (2, (EK.seq 3 (SyC.ints IntKind.i64 (D)) true))] 3) .bad) .bad) .bad) .bad) (.done (EV.v (Value.int IntKind.i64 (-1))) [(0, (EK.cells 34 [(EV.slO 2 1 (List.length D) true)] true)), (1, (EK.cells 99 [(EV.lst (SyC.recs [(Sh.list [(Sh.int IntKind.i64), Sh.bool]), (Sh.list [(Sh.int IntKind.i64)])] (R)))] true)), (2, (EK.seq 3 (SyC.ints IntKind.i64 (D)) true))] 3)) .bad) .bad) (.done (EV.v (Value.int IntKind.i64 (-1))) [(0, (EK.cells 34 [(EV.slO 2 1 (List.length D) true)] true)), (1, (EK.cells 99 [(EV.lst (SyC.recs [(Sh.list [(Sh.int IntKind.i64), Sh.bool]), (Sh.list [(Sh.int IntKind.i64)])] (R)))] true)), (2, (EK.seq 3 (SyC.ints IntKind.i64 (D)) true))] 3)) .bad) .bad) := by kernel_rfl
theorem ends {t : Int} {D : List Int} {R : List (List U)} (h0 : 0 ≤ t) (hD : t < D.length) (hR : t < R.length) (hL : (rA (R.getD t.toNat [])).length ≤ 100000) : EndM 3 119 .nil (st0m 119 [iv t, .ptr 0 0, .ptr 1 0] (K0 D R) 3) (iv (nxtF D R t)) (K0 D R) 3 := by
  obtain ⟨t, rfl⟩ := Int.eq_ofNat_of_zero_le h0; have h := in_t t D R; have e1 : List.map (fun r => U.int (List.headD r (U.i 0))) (U.list (List.getD (List.getD R t []) (Nat.add 0 1) (U.i 0))) = rA (R.getD t []) := rfl; rw [to_nat, e1] at h; unfold nxtF; rw [to_nat]; generalize rA (R.getD t []) = q at *; generalize hd : D.getD t 0 = d at *
  by_cases g1 : 0 ≤ d
  · obtain ⟨d, rfl⟩ := Int.eq_ofNat_of_zero_le g1
    by_cases g2 : d < q.length
    · simp (disch := omega) only [Nat.add_eq, eqSy_self, eqN_self, bc_same, List.length_cons, ofn, wrap_in, dt, df, bltD, bltN, ble_of, bleN, beqD, bc_t, bc_f, nn_ok, Nat.zero_add, to_nat, Int.zero_add, Int.sub_zero, Int.sub_self, Int.cast_ofNat_Int, Int.natCast_zero, Int.toNat_zero, List.take_zero, List.nil_append, List.length_append, List.length_nil] at h; rw [dt g1, bc_t, dt (show (d : Int) < (q.length : Int) by omega), bc_t, to_nat]; exact .done h
    · simp (disch := omega) only [Nat.add_eq, eqSy_self, eqN_self, bc_same, List.length_cons, ofn, wrap_in, dt, df, bltD, bltN, ble_of, bleN, beqD, bc_t, bc_f, nn_ok, Nat.zero_add, to_nat, Int.zero_add, Int.sub_zero, Int.sub_self, Int.cast_ofNat_Int, Int.natCast_zero, Int.toNat_zero, List.take_zero, List.nil_append, List.length_append, List.length_nil] at h; rw [dt g1, bc_t, df (show ¬ (d : Int) < (q.length : Int) by omega), bc_f]; exact .done h
  · simp (disch := omega) only [Nat.add_eq, eqSy_self, eqN_self, bc_same, List.length_cons, ofn, wrap_in, dt, df, bltD, bltN, ble_of, bleN, beqD, bc_t, bc_f, nn_ok, Nat.zero_add, to_nat, Int.zero_add, Int.sub_zero, Int.sub_self, Int.cast_ofNat_Int, Int.natCast_zero, Int.toNat_zero, List.take_zero, List.nil_append, List.length_append, List.length_nil] at h; rw [df g1, bc_f]; exact .done h
end PNxt
noncomputable def spNxt : ZMT := fun ax K0 m => match ax, K0 with
  | [.v (.int .i64 t), .ptr 0 0, .ptr 1 0], [(0, .cells 34 [.slO 2 1 v_0 v_1] v_2), (1, .cells 99 [.lst (.recs [.list [.int .i64, .bool], .list [.int .i64]] R)] v_3), (2, .seq 3 (.ints .i64 D) v_4)] => bc (Nat.beq m (3)) (some ⟨bc (Nat.beq v_0 (D.length)) (bc (eqN v_1 (true)) (bc (eqN v_2 (true)) (bc (eqN v_3 (true)) (bc (eqN v_4 (true)) (decide (0 ≤ t ∧ t < D.length ∧ t < R.length ∧ (rA (R.getD t.toNat [])).length ≤ 100000)) false) false) false) false) false, .v (.int .i64 (nxtF D R t)), PNxt.K0 D R, 3, 3⟩) none
  | _, _ => none
theorem spNxt_ok : ZMtOk Try.prog 119 spNxt := fun γ w0 w us ax K0 m r hs hc hres hax hH => by
  unfold spNxt at hs; split at hs
  case h_2 => cases hs
  rename_i t v_0 v_1 v_2 R v_3 D v_4; obtain ⟨hm, rfl⟩ := noN hs; have hm := Nat.eq_of_beq_eq_true hm; subst hm; have hc_0 : bc (Nat.beq v_0 (D.length)) (bc (eqN v_1 (true)) (bc (eqN v_2 (true)) (bc (eqN v_3 (true)) (bc (eqN v_4 (true)) (decide (0 ≤ t ∧ t < D.length ∧ t < R.length ∧ (rA (R.getD t.toNat [])).length ≤ 100000)) false) false) false) false) false = true := hc; obtain ⟨q_0, hc_1⟩ := bcT hc_0; have p_0 := (Nat.eq_of_beq_eq_true q_0).symm; subst p_0; obtain ⟨q_1, hc_2⟩ := bcT hc_1; have p_1 := (eqN_ok q_1).symm; subst p_1; obtain ⟨q_2, hc_3⟩ := bcT hc_2; have p_2 := (eqN_ok q_2).symm
  subst p_2; obtain ⟨q_3, hc_4⟩ := bcT hc_3; have p_3 := (eqN_ok q_3).symm; subst p_3; obtain ⟨q_4, hc_5⟩ := bcT hc_4; have p_4 := (eqN_ok q_4).symm; subst p_4; have hc := of_decide_eq_true hc_5; exact EndM.calls (PNxt.ends hc.1 hc.2.1 hc.2.2.1 hc.2.2.2) (.nil _) (by kernel_rfl) hres hax hH
noncomputable def ctPC : Tr ZCC := ctPF.put 119 (some (mC spNxt))
theorem ctPC_ok : ZCtsOk Try.prog ctPC := ctPF_ok.addM rfl spNxt_ok
namespace PCom
noncomputable def RUN (s : ES) : ZF := RZ 48 ctPC (atS 0 48 8) [] [[(3,none),(4,some (1, 3, .ints .i64 [])),(5,some (1, 3, .ints .i64 [])),(8,none),(9,none),(10,none),(27,none),(28,none),(29,none)]] false s

noncomputable def sC (m : Int) (X Y Q R : List (List U)) (D x y : List Int) (d : Nat) (nx ny : Bool) (z i : Int) : NS := ⟨[⟨48, 92, [(3, (EV.ptr 0 0)), (4, EV.slO 1 1 x.length nx), (5, EV.slO 2 1 y.length ny), (8, (EV.ptr 3 0)), (9, (EV.ptr 4 0)), (10, (EV.fn 119 [(EV.ptr 4 0), (EV.ptr 3 0)])), (27, (EV.lst (SyC.recs [(Sh.int IntKind.i64), (Sh.int IntKind.i64), (Sh.int IntKind.i64), (Sh.int IntKind.i64)] (X)))), (28, iv z), (29, iv i)], [.it (.code (nav [1, 1, 1, 1, 1, 0, 1, 0, 0] (bodyOf Try.f48))), .it (.inLoop (nav [1, 1, 1, 1, 1, 0, 1, 0, 0] (bodyOf Try.f48))), .it (.inBlock 0), .it (.code (nav [1, 1, 1, 1, 1, 1] (bodyOf Try.f48)))], [], Option.none⟩], [(0, (EK.cells 25 [(EV.v (Value.int IntKind.i64 (m))), (EV.lst (SyC.recs [(Sh.int IntKind.i64), (Sh.int IntKind.i64), (Sh.int IntKind.i64), (Sh.int IntKind.i64)] (Y))), (EV.lst (SyC.recs [(Sh.int IntKind.i64), (Sh.int IntKind.i64), (Sh.int IntKind.i64), (Sh.int IntKind.i64)] (Q)))] true)), (1, EK.seq 3 (.ints .i64 x) nx), (2, EK.seq 3 (.ints .i64 y) ny), (3, EK.cells 99 [.lst (.recs shT R)] true), (4, EK.cells 34 [EV.slO 5 1 d true] true), (5, EK.seq 3 (.ints .i64 D) true)], 6⟩
theorem in_t (n m : Int) (X P Y Q : List (List U)) : RUN (st0 48 [clE n X P, clE m Y Q]) = (bc (chk17 n X P != (0 : Int)) (bc (chk17 n X P != (0 : Int)) (.done (EV.tup [(EV.v (Value.slice Option.none 0 0)), (EV.v (Value.slice Option.none 0 0)), (EV.v (Value.int IntKind.i64 (chk17 n X P)))]) [] 0) (bc (decide ((0 : Int) ≤ m ∧ m ≤ (48 : Int) ∧ List.length Y ≤ (20000 : Nat) ∧ thrs m Y)) (bc (bc (decide ((0 : Int) ≤ n)) (bc (decide (n ≤ n)) (decide (n ≤ (65536 : Int))) false) false) (.at (sC (m) (X) (Y) (Q) (rowsT (thF Y (0 : Nat) (th0 (Int.toNat m)))) (zerosL (Int.toNat n)) ([]) ([]) (List.length (zerosL (Int.toNat n))) (false) (false) (Int.ofNat (List.length X)) ((0 : Int)))) .bad) .bad)) (bc (chk17 m Y Q != (0 : Int)) (bc (chk17 m Y Q != (0 : Int)) (.done (EV.tup [(EV.v (Value.slice Option.none 0 0)), (EV.v (Value.slice Option.none 0 0)), (EV.v (Value.int IntKind.i64 (chk17 m Y Q)))]) [] 0) (bc (decide ((0 : Int) ≤ m ∧ m ≤ (48 : Int) ∧ List.length Y ≤ (20000 : Nat) ∧ thrs m Y)) (bc (bc (decide ((0 : Int) ≤ n)) (bc (decide (n ≤ n)) (decide (n ≤ (65536 : Int))) false) false) (.at (sC (m) (X) (Y) (Q) (rowsT (thF Y (0 : Nat) (th0 (Int.toNat m)))) (zerosL (Int.toNat n)) ([]) ([]) (List.length (zerosL (Int.toNat n))) (false) (false) (Int.ofNat (List.length X)) ((0 : Int)))) .bad) .bad)) (bc (n != m) (.done (EV.tup [(EV.v (Value.slice Option.none 0 0)), (EV.v (Value.slice Option.none 0 0)), (EV.v (Value.int IntKind.i64 (2)))]) [] 0) (bc (decide ((0 : Int) ≤ m ∧ m ≤ (48 : Int) ∧ List.length Y ≤ (20000 : Nat) ∧ thrs m Y)) (bc (bc (decide ((0 : Int) ≤ n)) (bc (decide (n ≤ n)) (decide (n ≤ (65536 : Int))) false) false) (.at (sC (m) (X) (Y) (Q) (rowsT (thF Y (0 : Nat) (th0 (Int.toNat m)))) (zerosL (Int.toNat n)) ([]) ([]) (List.length (zerosL (Int.toNat n))) (false) (false) (Int.ofNat (List.length X)) ((0 : Int)))) .bad) .bad)))) := by kernel_rfl
theorem step_t (m : Int) (X Y Q R : List (List U)) (D x y : List Int) (d : Nat) (nx ny : Bool) (z i : Int) : RUN (stOf (sC m X Y Q R D x y d nx ny z i)) = (bc (decide (i < z)) (bc (bc (bc (decide ((0 : Int) ≤ i)) (Nat.blt (Int.toNat i) (List.length X)) false) true false) (bc (bc (Nat.blt (Int.toNat i) (List.length X)) true false) (bc (bc (bc (Nat.beq d (List.length D)) (decide ((0 : Int) ≤ U.int (List.getD (List.getD X (Int.toNat i) []) (Nat.succ (Nat.succ (0 : Nat))) (U.i (0 : Int))) ∧ U.int (List.getD (List.getD X (Int.toNat i) []) (Nat.succ (Nat.succ (0 : Nat))) (U.i (0 : Int))) < (Nat.cast (List.length D) : Int) ∧ U.int (List.getD (List.getD X (Int.toNat i) []) (Nat.succ (Nat.succ (0 : Nat))) (U.i (0 : Int))) < (Nat.cast (List.length R) : Int) ∧ List.length (rA (List.getD R (Int.toNat (U.int (List.getD (List.getD X (Int.toNat i) []) (Nat.succ (Nat.succ (0 : Nat))) (U.i (0 : Int))))) [])) ≤ (100000 : Nat))) false) true false) (bc (decide (nxtF D R (U.int (List.getD (List.getD X (Int.toNat i) []) (Nat.succ (Nat.succ (0 : Nat))) (U.i (0 : Int)))) < (0 : Int))) (bc (bc (bc (eqB (decide (nxtF D R (U.int (List.getD (List.getD X (Int.toNat i) []) (Nat.succ (Nat.succ (0 : Nat))) (U.i (0 : Int)))) < (0 : Int))) true) true false) true false) (bc (bc (bc (bc (bc (decide ((0 : Int) ≤ U.int (List.getD (List.getD X (Int.toNat i) []) (Nat.succ (Nat.succ (0 : Nat))) (U.i (0 : Int))))) (Nat.blt (Int.toNat (U.int (List.getD (List.getD X (Int.toNat i) []) (Nat.succ (Nat.succ (0 : Nat))) (U.i (0 : Int))))) (List.length D)) false) true false) (bc (Nat.blt (Int.toNat (U.int (List.getD (List.getD X (Int.toNat i) []) (Nat.succ (Nat.succ (0 : Nat))) (U.i (0 : Int))))) (List.length D)) (bc (bc (bc (decide ((0 : Int) ≤ U.int (List.getD (List.getD X (Int.toNat i) []) (Nat.succ (Nat.succ (Nat.succ (0 : Nat)))) (U.i (0 : Int))))) (Nat.blt (Int.toNat (U.int (List.getD (List.getD X (Int.toNat i) []) (Nat.succ (Nat.succ (Nat.succ (0 : Nat)))) (U.i (0 : Int))))) (List.length D)) false) true false) (bc (Nat.blt (Int.toNat (U.int (List.getD (List.getD X (Int.toNat i) []) (Nat.succ (Nat.succ (Nat.succ (0 : Nat)))) (U.i (0 : Int))))) (List.length (List.set D (Int.toNat (U.int (List.getD (List.getD X (Int.toNat i) []) (Nat.succ (Nat.succ (0 : Nat))) (U.i (0 : Int))))) (-1 : Int)))) true false) false) false) false) (bc (bc (bc (bc (Nat.beq (List.length D) (List.length D)) (eqN true true) false) true false) (bc (bc (decide (U.int (List.getD (List.getD X (Int.toNat i) []) (Nat.succ (Nat.succ (Nat.succ (0 : Nat)))) (U.i (0 : Int))) = U.int (List.getD (List.getD X (Int.toNat i) []) (Nat.succ (Nat.succ (Nat.succ (0 : Nat)))) (U.i (0 : Int))))) true false) true false) false) true false) false) (.at (sC (m) (X) (Y) (Q) (R) (List.set (List.set D (Int.toNat (U.int (List.getD (List.getD X (Int.toNat i) []) (Nat.succ (Nat.succ (0 : Nat))) (U.i (0 : Int))))) (-1 : Int)) (Int.toNat (U.int (List.getD (List.getD X (Int.toNat i) []) (Nat.succ (Nat.succ (Nat.succ (0 : Nat)))) (U.i (0 : Int))))) (-1 : Int)) (x) (y) (List.length D) (nx) (ny) (z) (IntKind.wrap IntKind.i64 (i + (1 : Int))))) .bad) .bad) (bc (nxtF D R (U.int (List.getD (List.getD X (Int.toNat i) []) (Nat.succ (Nat.succ (0 : Nat))) (U.i (0 : Int)))) != nxtF D R (U.int (List.getD (List.getD X (Int.toNat i) []) (Nat.succ (Nat.succ (Nat.succ (0 : Nat)))) (U.i (0 : Int))))) (bc (bc (bc (eqB (decide (nxtF D R (U.int (List.getD (List.getD X (Int.toNat i) []) (Nat.succ (Nat.succ (0 : Nat))) (U.i (0 : Int)))) < (0 : Int))) false) (bc (bc (bc (Nat.beq (List.length D) (List.length D)) (decide ((0 : Int) ≤ U.int (List.getD (List.getD X (Int.toNat i) []) (Nat.succ (Nat.succ (Nat.succ (0 : Nat)))) (U.i (0 : Int))) ∧ U.int (List.getD (List.getD X (Int.toNat i) []) (Nat.succ (Nat.succ (Nat.succ (0 : Nat)))) (U.i (0 : Int))) < (Nat.cast (List.length D) : Int) ∧ U.int (List.getD (List.getD X (Int.toNat i) []) (Nat.succ (Nat.succ (Nat.succ (0 : Nat)))) (U.i (0 : Int))) < (Nat.cast (List.length R) : Int) ∧ List.length (rA (List.getD R (Int.toNat (U.int (List.getD (List.getD X (Int.toNat i) []) (Nat.succ (Nat.succ (Nat.succ (0 : Nat)))) (U.i (0 : Int))))) [])) ≤ (100000 : Nat))) false) true false) (bc (eqB (nxtF D R (U.int (List.getD (List.getD X (Int.toNat i) []) (Nat.succ (Nat.succ (0 : Nat))) (U.i (0 : Int)))) != nxtF D R (U.int (List.getD (List.getD X (Int.toNat i) []) (Nat.succ (Nat.succ (Nat.succ (0 : Nat)))) (U.i (0 : Int))))) true) true false) false) false) true false) (bc (bc (bc (bc (bc (decide ((0 : Int) ≤ U.int (List.getD (List.getD X (Int.toNat i) []) (Nat.succ (Nat.succ (0 : Nat))) (U.i (0 : Int))))) (Nat.blt (Int.toNat (U.int (List.getD (List.getD X (Int.toNat i) []) (Nat.succ (Nat.succ (0 : Nat))) (U.i (0 : Int))))) (List.length D)) false) true false) (bc (Nat.blt (Int.toNat (U.int (List.getD (List.getD X (Int.toNat i) []) (Nat.succ (Nat.succ (0 : Nat))) (U.i (0 : Int))))) (List.length D)) (bc (bc (bc (decide ((0 : Int) ≤ U.int (List.getD (List.getD X (Int.toNat i) []) (Nat.succ (Nat.succ (Nat.succ (0 : Nat)))) (U.i (0 : Int))))) (Nat.blt (Int.toNat (U.int (List.getD (List.getD X (Int.toNat i) []) (Nat.succ (Nat.succ (Nat.succ (0 : Nat)))) (U.i (0 : Int))))) (List.length D)) false) true false) (bc (Nat.blt (Int.toNat (U.int (List.getD (List.getD X (Int.toNat i) []) (Nat.succ (Nat.succ (Nat.succ (0 : Nat)))) (U.i (0 : Int))))) (List.length (List.set D (Int.toNat (U.int (List.getD (List.getD X (Int.toNat i) []) (Nat.succ (Nat.succ (0 : Nat))) (U.i (0 : Int))))) (-1 : Int)))) true false) false) false) false) (bc (bc (bc (bc (Nat.beq (List.length D) (List.length D)) (eqN true true) false) true false) (bc (bc (decide (U.int (List.getD (List.getD X (Int.toNat i) []) (Nat.succ (Nat.succ (Nat.succ (0 : Nat)))) (U.i (0 : Int))) = U.int (List.getD (List.getD X (Int.toNat i) []) (Nat.succ (Nat.succ (Nat.succ (0 : Nat)))) (U.i (0 : Int))))) true false) true false) false) true false) false) (.at (sC (m) (X) (Y) (Q) (R) (List.set (List.set D (Int.toNat (U.int (List.getD (List.getD X (Int.toNat i) []) (Nat.succ (Nat.succ (0 : Nat))) (U.i (0 : Int))))) (-1 : Int)) (Int.toNat (U.int (List.getD (List.getD X (Int.toNat i) []) (Nat.succ (Nat.succ (Nat.succ (0 : Nat)))) (U.i (0 : Int))))) (-1 : Int)) (x) (y) (List.length D) (nx) (ny) (z) (IntKind.wrap IntKind.i64 (i + (1 : Int))))) .bad) .bad) (bc (bc (bc (eqB (decide (nxtF D R (U.int (List.getD (List.getD X (Int.toNat i) []) (Nat.succ (Nat.succ (0 : Nat))) (U.i (0 : Int)))) < (0 : Int))) false) (bc (bc (bc (Nat.beq (List.length D) (List.length D)) (decide ((0 : Int) ≤ U.int (List.getD (List.getD X (Int.toNat i) []) (Nat.succ (Nat.succ (Nat.succ (0 : Nat)))) (U.i (0 : Int))) ∧ U.int (List.getD (List.getD X (Int.toNat i) []) (Nat.succ (Nat.succ (Nat.succ (0 : Nat)))) (U.i (0 : Int))) < (Nat.cast (List.length D) : Int) ∧ U.int (List.getD (List.getD X (Int.toNat i) []) (Nat.succ (Nat.succ (Nat.succ (0 : Nat)))) (U.i (0 : Int))) < (Nat.cast (List.length R) : Int) ∧ List.length (rA (List.getD R (Int.toNat (U.int (List.getD (List.getD X (Int.toNat i) []) (Nat.succ (Nat.succ (Nat.succ (0 : Nat)))) (U.i (0 : Int))))) [])) ≤ (100000 : Nat))) false) true false) (bc (eqB (nxtF D R (U.int (List.getD (List.getD X (Int.toNat i) []) (Nat.succ (Nat.succ (0 : Nat))) (U.i (0 : Int)))) != nxtF D R (U.int (List.getD (List.getD X (Int.toNat i) []) (Nat.succ (Nat.succ (Nat.succ (0 : Nat)))) (U.i (0 : Int))))) false) (bc (bc (bc (decide ((0 : Int) ≤ nxtF D R (U.int (List.getD (List.getD X (Int.toNat i) []) (Nat.succ (Nat.succ (0 : Nat))) (U.i (0 : Int)))))) (Nat.blt (Int.toNat (nxtF D R (U.int (List.getD (List.getD X (Int.toNat i) []) (Nat.succ (Nat.succ (0 : Nat))) (U.i (0 : Int)))))) (List.length Y)) false) true false) (bc (bc (Nat.blt (Int.toNat (nxtF D R (U.int (List.getD (List.getD X (Int.toNat i) []) (Nat.succ (Nat.succ (0 : Nat))) (U.i (0 : Int)))))) (List.length Y)) true false) true false) false) false) false) false) true false) (bc (U.int (List.getD (List.getD Y (Int.toNat (nxtF D R (U.int (List.getD (List.getD X (Int.toNat i) []) (Nat.succ (Nat.succ (0 : Nat))) (U.i (0 : Int)))))) []) (Nat.add (0 : Nat) (2 : Nat)) (U.i (0 : Int))) != U.int (List.getD (List.getD X (Int.toNat i) []) (Nat.succ (Nat.succ (0 : Nat))) (U.i (0 : Int)))) (bc (bc (bc (bc (bc (decide ((0 : Int) ≤ U.int (List.getD (List.getD X (Int.toNat i) []) (Nat.succ (Nat.succ (0 : Nat))) (U.i (0 : Int))))) (Nat.blt (Int.toNat (U.int (List.getD (List.getD X (Int.toNat i) []) (Nat.succ (Nat.succ (0 : Nat))) (U.i (0 : Int))))) (List.length D)) false) true false) (bc (Nat.blt (Int.toNat (U.int (List.getD (List.getD X (Int.toNat i) []) (Nat.succ (Nat.succ (0 : Nat))) (U.i (0 : Int))))) (List.length D)) (bc (bc (bc (decide ((0 : Int) ≤ U.int (List.getD (List.getD X (Int.toNat i) []) (Nat.succ (Nat.succ (Nat.succ (0 : Nat)))) (U.i (0 : Int))))) (Nat.blt (Int.toNat (U.int (List.getD (List.getD X (Int.toNat i) []) (Nat.succ (Nat.succ (Nat.succ (0 : Nat)))) (U.i (0 : Int))))) (List.length D)) false) true false) (bc (Nat.blt (Int.toNat (U.int (List.getD (List.getD X (Int.toNat i) []) (Nat.succ (Nat.succ (Nat.succ (0 : Nat)))) (U.i (0 : Int))))) (List.length (List.set D (Int.toNat (U.int (List.getD (List.getD X (Int.toNat i) []) (Nat.succ (Nat.succ (0 : Nat))) (U.i (0 : Int))))) (-1 : Int)))) true false) false) false) false) (bc (bc (bc (bc (Nat.beq (List.length D) (List.length D)) (eqN true true) false) true false) (bc (bc (decide (U.int (List.getD (List.getD X (Int.toNat i) []) (Nat.succ (Nat.succ (Nat.succ (0 : Nat)))) (U.i (0 : Int))) = U.int (List.getD (List.getD X (Int.toNat i) []) (Nat.succ (Nat.succ (Nat.succ (0 : Nat)))) (U.i (0 : Int))))) true false) true false) false) true false) false) (.at (sC (m) (X) (Y) (Q) (R) (List.set (List.set D (Int.toNat (U.int (List.getD (List.getD X (Int.toNat i) []) (Nat.succ (Nat.succ (0 : Nat))) (U.i (0 : Int))))) (-1 : Int)) (Int.toNat (U.int (List.getD (List.getD X (Int.toNat i) []) (Nat.succ (Nat.succ (Nat.succ (0 : Nat)))) (U.i (0 : Int))))) (-1 : Int)) (x) (y) (List.length D) (nx) (ny) (z) (IntKind.wrap IntKind.i64 (i + (1 : Int))))) .bad) (bc (bc (bc (decide ((0 : Int) ≤ U.int (List.getD (List.getD X (Int.toNat i) []) (Nat.succ (Nat.succ (0 : Nat))) (U.i (0 : Int))))) (Nat.blt (Int.toNat (U.int (List.getD (List.getD X (Int.toNat i) []) (Nat.succ (Nat.succ (0 : Nat))) (U.i (0 : Int))))) (List.length D)) false) true false) (bc (bc (Nat.blt (Int.toNat (U.int (List.getD (List.getD X (Int.toNat i) []) (Nat.succ (Nat.succ (0 : Nat))) (U.i (0 : Int))))) (List.length D)) true false) (bc (bc (bc (decide ((0 : Int) ≤ U.int (List.getD (List.getD X (Int.toNat i) []) (Nat.succ (Nat.succ (0 : Nat))) (U.i (0 : Int))))) (Nat.blt (Int.toNat (U.int (List.getD (List.getD X (Int.toNat i) []) (Nat.succ (Nat.succ (0 : Nat))) (U.i (0 : Int))))) (List.length D)) false) true false) (bc (Nat.blt (Int.toNat (U.int (List.getD (List.getD X (Int.toNat i) []) (Nat.succ (Nat.succ (0 : Nat))) (U.i (0 : Int))))) (List.length D)) (bc (bc (bc (decide ((0 : Int) ≤ U.int (List.getD (List.getD X (Int.toNat i) []) (Nat.succ (Nat.succ (Nat.succ (0 : Nat)))) (U.i (0 : Int))))) (Nat.blt (Int.toNat (U.int (List.getD (List.getD X (Int.toNat i) []) (Nat.succ (Nat.succ (Nat.succ (0 : Nat)))) (U.i (0 : Int))))) (List.length D)) false) true false) (bc (bc (Nat.blt (Int.toNat (U.int (List.getD (List.getD X (Int.toNat i) []) (Nat.succ (Nat.succ (Nat.succ (0 : Nat)))) (U.i (0 : Int))))) (List.length (List.set D (Int.toNat (U.int (List.getD (List.getD X (Int.toNat i) []) (Nat.succ (Nat.succ (0 : Nat))) (U.i (0 : Int))))) (IntKind.wrap IntKind.i64 (List.getD D (Int.toNat (U.int (List.getD (List.getD X (Int.toNat i) []) (Nat.succ (Nat.succ (0 : Nat))) (U.i (0 : Int))))) (0 : Int) + (1 : Int)))))) true false) (bc (bc (bc (decide ((0 : Int) ≤ U.int (List.getD (List.getD X (Int.toNat i) []) (Nat.succ (Nat.succ (Nat.succ (0 : Nat)))) (U.i (0 : Int))))) (Nat.blt (Int.toNat (U.int (List.getD (List.getD X (Int.toNat i) []) (Nat.succ (Nat.succ (Nat.succ (0 : Nat)))) (U.i (0 : Int))))) (List.length D)) false) true false) (bc (Nat.blt (Int.toNat (U.int (List.getD (List.getD X (Int.toNat i) []) (Nat.succ (Nat.succ (Nat.succ (0 : Nat)))) (U.i (0 : Int))))) (List.length (List.set D (Int.toNat (U.int (List.getD (List.getD X (Int.toNat i) []) (Nat.succ (Nat.succ (0 : Nat))) (U.i (0 : Int))))) (IntKind.wrap IntKind.i64 (List.getD D (Int.toNat (U.int (List.getD (List.getD X (Int.toNat i) []) (Nat.succ (Nat.succ (0 : Nat))) (U.i (0 : Int))))) (0 : Int) + (1 : Int)))))) (bc (bc (Nat.beq (List.length x) (List.length x)) (bc (Nat.ble (List.length x + List.length (List.map (fun r => U.int (List.headD r (U.i (0 : Int)))) [[U.i i]])) (65536 : Nat)) (bc nx true (bc nx false true)) false) false) (bc (bc (Nat.beq (List.length y) (List.length y)) (bc (Nat.ble (List.length y + List.length (List.map (fun r => U.int (List.headD r (U.i (0 : Int)))) [[U.i (nxtF D R (U.int (List.getD (List.getD X (Int.toNat i) []) (Nat.succ (Nat.succ (0 : Nat))) (U.i (0 : Int)))))]])) (65536 : Nat)) (bc ny true (bc ny false true)) false) false) (.at (sC (m) (X) (Y) (Q) (R) (List.set (List.set D (Int.toNat (U.int (List.getD (List.getD X (Int.toNat i) []) (Nat.succ (Nat.succ (0 : Nat))) (U.i (0 : Int))))) (IntKind.wrap IntKind.i64 (List.getD D (Int.toNat (U.int (List.getD (List.getD X (Int.toNat i) []) (Nat.succ (Nat.succ (0 : Nat))) (U.i (0 : Int))))) (0 : Int) + (1 : Int)))) (Int.toNat (U.int (List.getD (List.getD X (Int.toNat i) []) (Nat.succ (Nat.succ (Nat.succ (0 : Nat)))) (U.i (0 : Int))))) (IntKind.wrap IntKind.i64 (List.getD (List.set D (Int.toNat (U.int (List.getD (List.getD X (Int.toNat i) []) (Nat.succ (Nat.succ (0 : Nat))) (U.i (0 : Int))))) (IntKind.wrap IntKind.i64 (List.getD D (Int.toNat (U.int (List.getD (List.getD X (Int.toNat i) []) (Nat.succ (Nat.succ (0 : Nat))) (U.i (0 : Int))))) (0 : Int) + (1 : Int)))) (Int.toNat (U.int (List.getD (List.getD X (Int.toNat i) []) (Nat.succ (Nat.succ (Nat.succ (0 : Nat)))) (U.i (0 : Int))))) (0 : Int) + (1 : Int)))) (x ++ List.map (fun r => U.int (List.headD r (U.i (0 : Int)))) [[U.i i]]) (y ++ List.map (fun r => U.int (List.headD r (U.i (0 : Int)))) [[U.i (nxtF D R (U.int (List.getD (List.getD X (Int.toNat i) []) (Nat.succ (Nat.succ (0 : Nat))) (U.i (0 : Int)))))]]) (List.length D) (bc nx true (Nat.blt (0 : Nat) (List.length (List.map (fun r => U.int (List.headD r (U.i (0 : Int)))) [[U.i i]])))) (bc ny true (Nat.blt (0 : Nat) (List.length (List.map (fun r => U.int (List.headD r (U.i (0 : Int)))) [[U.i (nxtF D R (U.int (List.getD (List.getD X (Int.toNat i) []) (Nat.succ (Nat.succ (0 : Nat))) (U.i (0 : Int)))))]])))) (z) (IntKind.wrap IntKind.i64 (i + (1 : Int))))) .bad) .bad) .bad) .bad) .bad) .bad) .bad) .bad) .bad) .bad)) .bad))) .bad) .bad) .bad) (bc (bc (Nat.beq (List.length x) (List.length x)) (bc (Nat.beq (List.length y) (List.length y)) true false) false) (.done (EV.tup [(EV.lst (SyC.ints IntKind.i64 (x))), (EV.lst (SyC.ints IntKind.i64 (y))), (EV.v (Value.int IntKind.i64 (0)))]) [] 0) .bad)) := by kernel_rfl
end PCom
end Go.Proofs.Ytonbfalbfdkieaa.Ev
namespace Go.Proofs.Ytonbfalbfdkieaa.Ev
open Go.Proofs
namespace PCom
theorem step {n : Nat} {m : Int} {X Y Q : List (List U)} {D x y : List Int} {nx ny : Bool} {i : Nat} (hi : i < X.length) (hX : X.length ≤ 20000) (hY : Y.length ≤ 20000) (hn : n ≤ 48) (tx : thrs n X) (ty : thrs n Y) (hD : D.length = n) (hc : Cnt D (2 * i)) (hx : x.length ≤ i) (hy : y.length ≤ i) : RUN (stOf (sC m X Y Q (rowsT (thF Y 0 (th0 n))) D x y n nx ny X.length i)) = .at (sC m X Y Q (rowsT (thF Y 0 (th0 n))) (stepD (comB Y (rowsT (thF Y 0 (th0 n))) D X[i]) D X[i]) (x ++ bc (comB Y (rowsT (thF Y 0 (th0 n))) D X[i]) [(i : Int)] []) (y ++ bc (comB Y (rowsT (thF Y 0 (th0 n))) D X[i]) [nxtF D (rowsT (thF Y 0 (th0 n))) (xO X[i])] []) n (bc (comB Y (rowsT (thF Y 0 (th0 n))) D X[i]) true nx) (bc (comB Y (rowsT (thF Y 0 (th0 n))) D X[i]) true ny) X.length (i + 1 : Nat)) := by
  have h := step_t m X Y Q (rowsT (thF Y 0 (th0 n))) D x y n nx ny X.length i; have e : X.getD i [] = X[i] := getD_at hi; rw [to_nat, e] at h; have f1 : U.int (List.getD X[i] (Nat.succ (Nat.succ 0)) (U.i 0)) = xO X[i] := rfl; have f2 : U.int (List.getD X[i] (Nat.succ (Nat.succ (Nat.succ 0))) (U.i 0)) = xU X[i] := rfl; rw [f1, f2] at h; obtain ⟨h1, h2, h3, h4⟩ := tx _ (List.getElem_mem hi); generalize hr : X[i] = r at *; unfold comB stepD; generalize xU r = u at *; have f3 : ∀ k : Int, U.int (List.getD (Y.getD k.toNat []) (Nat.add 0 2) (U.i 0)) = xO (Y.getD k.toNat []) := fun _ => rfl
  rw [f3] at h; generalize xO r = o at *; obtain ⟨o, rfl⟩ := Int.eq_ofNat_of_zero_le h1; obtain ⟨u, rfl⟩ := Int.eq_ofNat_of_zero_le h3; have lo := atF_len o Y 0; have lu := atF_len u Y 0; have c1 : (0 : Int) ≤ (o : Int) ∧ (o : Int) < (D.length : Int) ∧ (o : Int) < ((rowsT (thF Y 0 (th0 n))).length : Int) ∧ (rA ((rowsT (thF Y 0 (th0 n))).getD ((o : Int)).toNat [])).length ≤ 100000 := ⟨by omega, by omega, by rw [rowsH_len]; omega, by rw [to_nat, rowsA ty (by omega)]; omega⟩
  have c2 : (0 : Int) ≤ (u : Int) ∧ (u : Int) < (D.length : Int) ∧ (u : Int) < ((rowsT (thF Y 0 (th0 n))).length : Int) ∧ (rA ((rowsT (thF Y 0 (th0 n))).getD ((u : Int)).toNat [])).length ≤ 100000 := ⟨by omega, by omega, by rw [rowsH_len]; omega, by rw [to_nat, rowsA ty (by omega)]; omega⟩; have n1 := nxtF_lt (D := D) ty (show o < n by omega); generalize rowsT (thF Y 0 (th0 n)) = R at *; rw [dt c1, dt c2] at h; have k1 := hc o; have k2 := hc u; have k3 := (hc.inc (j := o) (by omega)) u; have i1 : incD D o = D.set o (D.getD o 0 + 1) := rfl
  have i2 : incD (incD D o) u = (incD D o).set u ((incD D o).getD u 0 + 1) := rfl; rcases n1 with n1 | ⟨k, n1, n2⟩
  · simp (disch := omega) only [Nat.add_eq, eqSy_self, eqN_self, bc_same, List.length_cons, ofn, wrap_in, dt, df, bltD, bltN, ble_of, bleN, beqD, bc_t, bc_f, nn_ok, Nat.zero_add, to_nat, Int.zero_add, Int.sub_zero, Int.sub_self, Int.cast_ofNat_Int, Int.natCast_zero, Int.toNat_zero, List.take_zero, List.nil_append, List.length_append, List.length_nil, eqB, List.length_set, List.append_nil, decide_true, hD] at h ⊢; exact h
  · rw [n1] at h ⊢
    cases g1 : ((k : Int) != nxtF D R u) with
    | true =>
      rw [g1] at h; simp (disch := omega) only [Nat.add_eq, eqSy_self, eqN_self, bc_same, List.length_cons, ofn, wrap_in, dt, df, bltD, bltN, ble_of, bleN, beqD, bc_t, bc_f, nn_ok, Nat.zero_add, to_nat, Int.zero_add, Int.sub_zero, Int.sub_self, Int.cast_ofNat_Int, Int.natCast_zero, Int.toNat_zero, List.take_zero, List.nil_append, List.length_append, List.length_nil, eqB, List.length_set, List.append_nil, decide_true, hD] at h ⊢; exact h
    | false =>
      rw [g1] at h
      cases g2 : (xO (Y.getD ((k : Int)).toNat []) != (o : Int)) with
      | true =>
        rw [g2] at h; simp (disch := omega) only [Nat.add_eq, eqSy_self, eqN_self, bc_same, List.length_cons, ofn, wrap_in, dt, df, bltD, bltN, ble_of, bleN, beqD, bc_t, bc_f, nn_ok, Nat.zero_add, to_nat, Int.zero_add, Int.sub_zero, Int.sub_self, Int.cast_ofNat_Int, Int.natCast_zero, Int.toNat_zero, List.take_zero, List.nil_append, List.length_append, List.length_nil, eqB, List.length_set, List.append_nil, decide_true, hD] at h ⊢; exact h
      | false =>
        rw [g2] at h; have m1 : ∀ x : Int, List.map (fun r => U.int (List.headD r (U.i 0))) [[U.i x]] = [x] := fun _ => rfl; simp only [to_nat, m1] at h; rw [wrap_in (D.getD o 0 + 1) (by omega) (by omega), ← i1, wrap_in ((incD D o).getD u 0 + 1) (by omega) (by omega), ← i2] at h
        simp (disch := omega) only [Nat.add_eq, eqSy_self, eqN_self, bc_same, List.length_cons, ofn, wrap_in, dt, df, bltD, bltN, ble_of, bleN, beqD, bc_t, bc_f, nn_ok, Nat.zero_add, to_nat, Int.zero_add, Int.sub_zero, Int.sub_self, Int.cast_ofNat_Int, Int.natCast_zero, Int.toNat_zero, List.take_zero, List.nil_append, List.length_append, List.length_nil, eqB, List.length_set, List.append_nil, decide_true, hD, incD_len] at h ⊢; exact h
theorem last {m : Int} {X Y Q R : List (List U)} {D x y : List Int} {d : Nat} {nx ny : Bool} {i : Nat} (hi : X.length ≤ i) : RUN (stOf (sC m X Y Q R D x y d nx ny X.length i)) = .done (.tup [il x, il y, iv 0]) [] 0 := by
  have h := step_t m X Y Q R D x y d nx ny X.length i; simp (disch := omega) only [Nat.add_eq, eqSy_self, eqN_self, bc_same, List.length_cons, ofn, wrap_in, dt, df, bltD, bltN, ble_of, bleN, beqD, bc_t, bc_f, nn_ok, Nat.zero_add, to_nat, Int.zero_add, Int.sub_zero, Int.sub_self, Int.cast_ofNat_Int, Int.natCast_zero, Int.toNat_zero, List.take_zero, List.nil_append, List.length_append, List.length_nil] at h; exact h
theorem loop {n : Nat} {m : Int} {X Y Q : List (List U)} (hX : X.length ≤ 20000) (hY : Y.length ≤ 20000) (hn : n ≤ 48) (tx : thrs n X) (ty : thrs n Y) : ∀ (k i : Nat) (D x y : List Int) (nx ny : Bool), i + k = X.length → D.length = n → Cnt D (2 * i) → x.length ≤ i → y.length ≤ i → EndZ 48 ctPC false (stOf (sC m X Y Q (rowsT (thF Y 0 (th0 n))) D x y n nx ny X.length i)) (.tup [il (x ++ (comF Y (rowsT (thF Y 0 (th0 n))) (X.drop i) i D).1), il (y ++ (comF Y (rowsT (thF Y 0 (th0 n))) (X.drop i) i D).2), iv 0]) [] 0
  | 0, i, D, x, y, nx, ny, h, hD, hc, hx, hy => by
    rw [List.drop_eq_nil_of_le (by omega)]; show EndZ _ _ _ _ (.tup [il (x ++ []), il (y ++ []), iv 0]) _ _; rw [List.append_nil, List.append_nil]; exact .done (last (by omega))
  | k + 1, i, D, x, y, nx, ny, h, hD, hc, hx, hy => by
    have hi : i < X.length := by omega
    have h1 := step (m := m) (Q := Q) (nx := nx) (ny := ny) hi hX hY hn tx ty hD hc hx hy; refine .at ctPC_ok h1 ?_; have h2 := loop (m := m) (Q := Q) hX hY hn tx ty k (i + 1) (stepD (comB Y (rowsT (thF Y 0 (th0 n))) D X[i]) D X[i]) (x ++ bc (comB Y (rowsT (thF Y 0 (th0 n))) D X[i]) [(i : Int)] []) (y ++ bc (comB Y (rowsT (thF Y 0 (th0 n))) D X[i]) [nxtF D (rowsT (thF Y 0 (th0 n))) (xO X[i])] []) (bc (comB Y (rowsT (thF Y 0 (th0 n))) D X[i]) true nx) (bc (comB Y (rowsT (thF Y 0 (th0 n))) D X[i]) true ny) (by omega) (by rw [stepD_len]; exact hD) (by
      have := hc.step (q := comB Y (rowsT (thF Y 0 (th0 n))) D X[i]) (r := X[i]) (by omega); rw [show (2 * ((i + 1 : Nat) : Int)) = 2 * (i : Int) + 2 by omega]; exact this) (by
      rw [List.length_append]; cases comB Y (rowsT (thF Y 0 (th0 n))) D X[i] <;> simp [bc] <;> omega) (by
      rw [List.length_append]; cases comB Y (rowsT (thF Y 0 (th0 n))) D X[i] <;> simp [bc] <;> omega)
    rw [List.drop_eq_getElem_cons hi]; unfold comF; rw [List.append_assoc, List.append_assoc] at h2; revert h2; cases comB Y (rowsT (thF Y 0 (th0 n))) D X[i]
    · exact fun h2 => h2
    · exact fun h2 => h2
theorem ends (n m : Int) (X P Y Q : List (List U)) : EndZ 48 ctPC false (st0 48 [clE n X P, clE m Y Q]) (.tup [il (coP n m X P Y Q).1, il (coP n m X P Y Q).2, iv (fiE n m X P Y Q)]) [] 0 := by
  have h := in_t n m X P Y Q; have err : ∀ e : Int, fiE n m X P Y Q = e → e ≠ 0 → Weak (.tup [.v (.slice none 0 0), .v (.slice none 0 0), iv e]) (.tup [il (coP n m X P Y Q).1, il (coP n m X P Y Q).2, iv (fiE n m X P Y Q)]) := fun e he h0 => by
    unfold coP; rw [he, show (e != 0) = true by simp [h0], bc_t]; exact Weak.tup (.cons (Weak.nilI _) (.cons (Weak.nilI _) (.cons (Weak.refl _) .nil)))
  by_cases z1 : chk17 n X P = 0
  · have b1 : (chk17 n X P != 0) = false := by simp [z1]
    rw [b1, bc_f] at h
    by_cases z2 : chk17 m Y Q = 0
    · have b3 : (chk17 m Y Q != 0) = false := by simp [z2]
      rw [b3, bc_f] at h
      by_cases z3 : n = m
      · have b4 : (n != m) = false := by simp [z3]
        rw [b4, bc_f] at h; have hE : fiE n m X P Y Q = 0 := by unfold fiE; rw [b1, b3, b4]; rfl
        obtain ⟨c1, c2, c3, c4, c5, _⟩ := chk17_ok z1; obtain ⟨d1, d2, d3, d4, d5, _⟩ := chk17_ok z2; unfold coP; rw [hE]; subst z3; obtain ⟨n, rfl⟩ := Int.eq_ofNat_of_zero_le (show 0 ≤ n by omega); rw [dt (show (0 : Int) ≤ n ∧ (n : Int) ≤ 48 ∧ Y.length ≤ 20000 ∧ thrs n Y from ⟨by omega, by omega, by omega, d5⟩), bc_t] at h
        simp (disch := omega) only [Nat.add_eq, eqSy_self, eqN_self, bc_same, List.length_cons, ofn, wrap_in, dt, df, bltD, bltN, ble_of, bleN, beqD, bc_t, bc_f, nn_ok, Nat.zero_add, to_nat, Int.zero_add, Int.sub_zero, Int.sub_self, Int.cast_ofNat_Int, Int.natCast_zero, Int.toNat_zero, List.take_zero, List.nil_append, List.length_append, List.length_nil] at h; have hz : (zerosL n).length = n := by unfold zerosL; simp
        rw [hz] at h; exact .at ctPC_ok h (loop c3 d3 (by omega) c5 d5 X.length 0 (zerosL n) [] [] false false (by omega) hz (fun j => by
          unfold zerosL; rw [List.getD_eq_getElem?_getD, List.getElem?_replicate]; split <;> simp) (Nat.le_refl _) (Nat.le_refl _))
      · have b4 : (n != m) = true := by simp [z3]
        rw [b4, bc_t] at h; exact (EndZ.done h).weak (err 2 (by unfold fiE; rw [b1, b3, b4]; rfl) (by decide))
    · have b3 : (chk17 m Y Q != 0) = true := by simp [z2]
      rw [b3, bc_t, bc_t] at h; exact (EndZ.done h).weak (err _ (by unfold fiE; rw [b1, b3]; rfl) z2)
  · have b1 : (chk17 n X P != 0) = true := by simp [z1]
    rw [b1, bc_t, bc_t] at h; exact (EndZ.done h).weak (err _ (by unfold fiE; rw [b1]; rfl) z1)
end PCom
noncomputable def spPCom : ZCT := fun ax => match ax with
  | [.agg [.v (.int .i64 n), .lst (.recs [.int .i64, .int .i64, .int .i64, .int .i64] X), .lst (.recs [.int .i64, .int .i64, .int .i64, .int .i64] P)], .agg [.v (.int .i64 m), .lst (.recs [.int .i64, .int .i64, .int .i64, .int .i64] Y), .lst (.recs [.int .i64, .int .i64, .int .i64, .int .i64] Q)]] => some ⟨decide (True), .tup [il (coP n m X P Y Q).1, il (coP n m X P Y Q).2, iv (fiE n m X P Y Q)], [], 0⟩
  | _ => none
theorem spPCom_ok : ZCtOk Try.prog 48 spPCom := fun γ w us ax r hs hc hax hN hfz => by
  unfold spPCom at hs; split at hs
  case h_2 => cases hs
  rename_i n X P m Y Q; obtain ⟨rfl⟩ := Option.some.inj hs; have hc_0 : decide (True) = true := hc; have hc := of_decide_eq_true hc_0; exact EndZ.calls (PCom.ends n m X P Y Q) ctPC_ok (by kernel_rfl) hax hN hfz
end Go.Proofs.Ytonbfalbfdkieaa.Ev
namespace Go.Proofs.Ytonbfalbfdkieaa.Ev
open Go.Proofs

namespace PCom
end PCom
namespace PFir
end PFir
end Go.Proofs.Ytonbfalbfdkieaa.Ev
namespace Go.Proofs.Ytonbfalbfdkieaa.Ev
open Go.Proofs
namespace PCom
end PCom
namespace PFir
end PFir
end Go.Proofs.Ytonbfalbfdkieaa.Ev
namespace Go.Proofs.Ytonbfalbfdkieaa.Ev
open Go.Proofs
namespace PWit
theorem stepA {n : Nat} {l : List Int} {i : Nat} {s : List Int} (hi : i < n) (hn : n ≤ 50000) : RUN (stOf (sA n i l (esZ s))) = .at (sA n (i + 1 : Nat) l (esZ ((i : Int) :: outI i s))) := by
  have h := a_t n i l (esZ s); rw [esZ_keys, esZ_set] at h; simp (disch := omega) only [Nat.add_eq, eqSy_self, eqN_self, bc_same, List.length_cons, ofn, wrap_in, dt, df, bltD, bltN, ble_of, bleN, beqD, bc_t, bc_f, nn_ok, Nat.zero_add, to_nat, Int.zero_add, Int.sub_zero, Int.sub_self, Int.cast_ofNat_Int, Int.natCast_zero, Int.toNat_zero, List.take_zero, List.nil_append, List.length_append, List.length_nil] at h; exact h
theorem stepB {l : List Int} {i : Nat} {s : List Int} (hi : i < l.length) (hl : l.length ≤ 50000) : RUN (stOf (sB l l.length i (esZ s))) = .at (sB l l.length (i + 1 : Nat) (esZ (outI l[i] s))) := by
  have h := b_t l l.length i (esZ s); rw [to_nat, getD_at hi, esZ_keys, esZ_drop] at h; simp (disch := omega) only [Nat.add_eq, eqSy_self, eqN_self, bc_same, List.length_cons, ofn, wrap_in, dt, df, bltD, bltN, ble_of, bleN, beqD, bc_t, bc_f, nn_ok, Nat.zero_add, to_nat, Int.zero_add, Int.sub_zero, Int.sub_self, Int.cast_ofNat_Int, Int.natCast_zero, Int.toNat_zero, List.take_zero, List.nil_append, List.length_append, List.length_nil] at h; exact h
theorem loopB {n : Nat} {l : List Int} (hn : n ≤ 50000) (hl : l.length ≤ 50000) : ∀ (k i : Nat) (s : List Int), i + k = l.length → s.Sublist (dwn n) → EndZ 143 ctWi false (stOf (sB l l.length i (esZ s))) (il (sortZ (outA (l.drop i) s))) [] 0
  | 0, i, s, h, hs => by
    have h1 := b_t l l.length i (esZ s); have hk : KeysI (esZ s) := KeysI_esZ (fun a ha => by have := dwn_mem.1 (hs.subset ha); omega) (by have := hs.length_le; rw [dwn_len] at this; omega); rw [df (show ¬ (i : Int) < l.length by omega), bc_f, dt hk, keysI_esZ, Nat.beq_refl] at h1; rw [List.drop_eq_nil_of_le (by omega)]; exact .done h1
  | k + 1, i, s, h, hs => by
    have hi : i < l.length := by omega
    rw [List.drop_eq_getElem_cons hi]; exact .at ctWi_ok (stepB hi hl) (loopB hn hl k (i + 1) (outI l[i] s) (by omega) (List.filter_sublist.trans hs))
theorem loopA {n : Nat} {l : List Int} (hn : n ≤ 50000) (hl : l.length ≤ 50000) : ∀ (k i : Nat), i + k = n → EndZ 143 ctWi false (stOf (sA n i l (esZ (dwn i)))) (il (othF l 0 n)) [] 0
  | 0, i, h => by
    have h1 := a_t n i l (esZ (dwn i)); rw [df (show ¬ (i : Int) < n by omega), bc_f] at h1; have e : i = n := by omega
    subst e; have := loopB (n := i) hn hl l.length 0 (dwn i) (by omega) (List.Sublist.refl _); rw [List.drop_zero, out_oth] at this; exact .at ctWi_ok h1 this
  | k + 1, i, h => by
    have hi : i < n := by omega
    have e : outI i (dwn i) = dwn i := outI_id fun h => by have := dwn_mem.1 h; omega
    have h1 := stepA (l := l) (s := dwn i) hi hn; rw [e] at h1; exact .at ctWi_ok h1 (loopA hn hl k (i + 1) (by omega))
end PWit
noncomputable def spWit : ZCT := fun ax => match ax with
  | [.v (.int .i64 n), .lst (.ints .i64 l)] => some ⟨decide (0 ≤ n ∧ n ≤ 50000 ∧ l.length ≤ 50000), il (othF l 0 n.toNat), [], 0⟩
  | _ => none
theorem spWit_ok : ZCtOk Try.prog 143 spWit := fun γ w us ax r hs hc hax hN hfz => by
  unfold spWit at hs; split at hs
  case h_2 => cases hs
  rename_i n l; obtain ⟨rfl⟩ := Option.some.inj hs; have hc_0 : decide (0 ≤ n ∧ n ≤ 50000 ∧ l.length ≤ 50000) = true := hc; have hc := of_decide_eq_true hc_0; exact EndZ.calls (by
    obtain ⟨h1, h2, h3⟩ := hc; obtain ⟨n, rfl⟩ := Int.eq_ofNat_of_zero_le h1; have h := PWit.in_t n l; exact .at ctWi_ok h (PWit.loopA (by omega) h3 n 0 (by omega))) ctWi_ok (by kernel_rfl) hax hN hfz
noncomputable def ctPD : Tr ZCC := (Tr.nil.put 48 (some (dC spPCom))).put 143 (some (dC spWit))
theorem ctPD_ok : ZCtsOk Try.prog ctPD := ((ZCtsOk.nil _).add rfl spPCom_ok).add rfl spWit_ok
namespace PDif
noncomputable def RUN (s : ES) : ZF := RZ 75 ctPD (fun _ => false) [] [] false s
theorem in_t (n m : Int) (X P Y Q : List (List U)) : RUN (st0 75 [clE n X P, clE m Y Q]) = (bc (fiE n m X P Y Q != (0 : Int)) (.done (EV.tup [(EV.v (Value.slice Option.none 0 0)), (EV.v (Value.slice Option.none 0 0)), (EV.v (Value.int IntKind.i64 (fiE n m X P Y Q)))]) [] 0) (bc (bc (bc (decide ((0 : Int) ≤ Int.ofNat (List.length X) ∧ Int.ofNat (List.length X) ≤ (50000 : Int) ∧ List.length (Prod.fst (coP n m X P Y Q)) ≤ (50000 : Nat))) (bc (decide ((0 : Int) ≤ Int.ofNat (List.length Y) ∧ Int.ofNat (List.length Y) ≤ (50000 : Int) ∧ List.length (Prod.snd (coP n m X P Y Q)) ≤ (50000 : Nat))) true false) false) (bc (bc (bc (eqSy (SyC.recs shX Y) (SyC.recs shX Y)) true false) true false) true false) false) (.done (EV.tup [(EV.lst (SyC.ints IntKind.i64 (othF (Prod.fst (coP n m X P Y Q)) (0 : Nat) (Int.toNat (Int.ofNat (List.length X)))))), (EV.lst (SyC.ints IntKind.i64 (othF (Prod.snd (coP n m X P Y Q)) (0 : Nat) (Int.toNat (Int.ofNat (List.length Y)))))), (EV.v (Value.int IntKind.i64 (0)))]) [] 0) .bad)) := by kernel_rfl
end PDif
end Go.Proofs.Ytonbfalbfdkieaa.Ev
namespace Go.Proofs.Ytonbfalbfdkieaa.Ev
def Sm (r s : List U) : Prop := xW r = xW s ∧ xA r = xA s ∧ xO r = xO s ∧ xU r = xU s
noncomputable def shrB (x y : List U) : Bool := bc (xO x == xO y) true (bc (xO x == xU y) true (bc (xU x == xO y) true (xU x == xU y)))
theorem shrB_f {x y : List U} : shrB x y = false ↔ xO x ≠ xO y ∧ xO x ≠ xU y ∧ xU x ≠ xO y ∧ xU x ≠ xU y := by
  unfold shrB; simp only [bc_eq, beq_iff_eq]
  by_cases h1 : xO x = xO y
  · simp [h1]
  by_cases h2 : xO x = xU y
  · simp [h2]
  by_cases h3 : xU x = xO y
  · simp [h1, h2, h3]
  by_cases h4 : xU x = xU y
  · simp [h1, h2, h3, h4]
  simp [h1, h2, h3, h4]
inductive Ex1 : List (List U) → List (List U) → Prop
  | mk (l1 l2 : List (List U)) (x y x' y' : List U) (hx : Sm x' x) (hy : Sm y' y) (hs : shrB x y = false) : Ex1 (l1 ++ x :: y :: l2) (l1 ++ y' :: x' :: l2)
inductive Exs : List (List U) → List (List U) → Prop
  | refl (a : List (List U)) : Exs a a
  | step {a b c : List (List U)} (h : Ex1 a b) (t : Exs b c) : Exs a c
theorem enB_iff {l : List Int} {r : List U} : enB l r = true ↔ (l.getD (xA r).toNat 0 = xO r ∧ l.getD ((xA r).toNat + 1) 0 = xU r) ∨ (l.getD (xA r).toNat 0 = xU r ∧ l.getD ((xA r).toNat + 1) 0 = xO r) := by
  unfold enB; rw [bc_eq]; split
  · rename_i h; obtain ⟨h1, h2⟩ := bcT h; exact ⟨fun _ => .inl ⟨by simpa using h1, by simpa using h2⟩, fun _ => rfl⟩
  · rename_i h; constructor
    · intro k; obtain ⟨h1, h2⟩ := bcT k; exact .inr ⟨by simpa using h1, by simpa using h2⟩
    · rintro (⟨h1, h2⟩ | ⟨h1, h2⟩)
      · exact absurd (by rw [h1, h2]; simp [bc]) h
      · rw [h1, h2]; simp [bc]
theorem enF_cons (l : List Int) (r : List U) (q : List (List U)) : enF l (r :: q) = bc (enB l r) (enF (swp l (xA r).toNat) q) false := rfl
theorem okX_at {n : Int} {r : List U} (h : okX n r = true) : 0 ≤ xA r ∧ xA r ≤ n - 2 := by
  unfold okX at h; obtain ⟨a1, h⟩ := bcT h; obtain ⟨a2, _⟩ := bcT h; exact ⟨of_decide_eq_true a1, of_decide_eq_true a2⟩
theorem Ex1.len {a b : List (List U)} (h : Ex1 a b) : b.length = a.length := by
  cases h with
  | mk l1 l2 x y x' y' hx hy hs => simp
noncomputable def ctR (t : Int) (r : List U) : List (List U) := (bc (decide (xO r = t)) [mO r] []) ++ (bc (decide (xU r = t)) [mU r] [])
theorem hiF_cons (t : Int) (r : List U) (q : List (List U)) : hiF t (r :: q) = ctR t r ++ hiF t q := rfl
theorem hiF_app (t : Int) (b : List (List U)) : ∀ a : List (List U), hiF t (a ++ b) = hiF t a ++ hiF t b
  | [] => rfl
  | r :: a => by
    show hiF t (r :: (a ++ b)) = _; rw [hiF_cons, hiF_cons, hiF_app t b a, List.append_assoc]
theorem ctR_sm {t : Int} {x x' : List U} (h : Sm x' x) : ctR t x' = ctR t x := by
  unfold ctR mO mU; rw [h.2.2.1, h.2.2.2]
theorem ctR_no {t : Int} {r : List U} (h1 : xO r ≠ t) (h2 : xU r ≠ t) : ctR t r = [] := by
  unfold ctR; rw [df h1, df h2]; rfl
theorem Ex1.hi {a b : List (List U)} (h : Ex1 a b) (t : Int) : hiF t b = hiF t a := by
  cases h with
  | mk l1 l2 x y x' y' hx hy hs =>
    obtain ⟨s1, s2, s3, s4⟩ := shrB_f.1 hs; rw [hiF_app, hiF_app, hiF_cons, hiF_cons, hiF_cons, hiF_cons, ctR_sm hx, ctR_sm hy]; congr 1; rw [← List.append_assoc, ← List.append_assoc]; congr 1
    by_cases h1 : xO x = t ∨ xU x = t
    · have e : ctR t y = [] := ctR_no (by omega) (by omega); rw [e]; simp
    · have e : ctR t x = [] := ctR_no (fun e => h1 (.inl e)) (fun e => h1 (.inr e)); rw [e]; simp
theorem Exs.len {a b : List (List U)} (h : Exs a b) : b.length = a.length := by
  induction h with
  | refl a => rfl
  | step h t ih => rw [ih, h.len]
theorem Exs.hi {a b : List (List U)} (h : Exs a b) (t : Int) : hiF t b = hiF t a := by
  induction h with
  | refl a => rfl
  | step h k ih => rw [ih, h.hi]

end Go.Proofs.Ytonbfalbfdkieaa.Ev
namespace Go.Proofs.Ytonbfalbfdkieaa.Ev

def Two (b : List (List U)) : Prop := ∀ r, r ∈ b → xO r ≠ xU r
theorem enF_two {n : Nat} : ∀ (X : List (List U)) (l : List Int), n ≤ l.length → Dis l → (∀ r, r ∈ X → okX n r = true) → enF l X = true → Two X
  | [], _, _, _, _, _ => fun r hr => by cases hr
  | r :: q, l, hl, hd, hx, he => fun r' hr => by
    obtain ⟨a1, a2⟩ := okX_at (hx r List.mem_cons_self); rw [enF_cons] at he; obtain ⟨he1, he2⟩ := bcT he; rcases List.mem_cons.1 hr with rfl | hr
    · intro e; have h1 : l.getD (xA r').toNat 0 = l.getD ((xA r').toNat + 1) 0 := by
        rcases enB_iff.1 he1 with ⟨h1, h2⟩ | ⟨h1, h2⟩ <;> rw [h1, h2, e]
      have := hd _ _ (by omega) (by omega) h1; omega
    · exact enF_two q _ (by rw [swp_len]; exact hl) (hd.swp (by omega)) (fun r2 h2 => hx r2 (List.mem_cons_of_mem _ h2)) he2 r' hr
theorem Dis_lnI (n : Nat) : Dis (lnI n) := fun a b ha hb e => by
  rw [lnI_len] at ha hb; rw [lnI_get ha, lnI_get hb] at e; omega
theorem chk17_en {n : Nat} {X P : List (List U)} (h : chk17 n X P = 0) : enF (lnI n) X = true := by
  obtain ⟨c1, c2, c3, c4, c5, c6, c7⟩ := chk17_ok h; unfold chk17 numB at h; rw [c6, c7, df (show ¬ 48 < (n : Int) by omega), df (show ¬ 20000 < (X.length : Int) by omega), df (show ¬ 6400 < (P.length : Int) by omega), dt c1, bc_f, bc_f, bc_f, bc_t, bc_t, bc_t] at h
  cases e : enF (lnI n) X with
  | true => rfl
  | false =>
    rw [show ((n : Int)).toNat = n from rfl, e] at h
    cases h
theorem chk17_two {n : Nat} {X P : List (List U)} (h : chk17 n X P = 0) : Two X := by
  obtain ⟨c1, c2, c3, c4, c5, c6, c7⟩ := chk17_ok h; exact enF_two X (lnI n) (by rw [lnI_len]; exact Nat.le_refl _) (Dis_lnI n) (fun r hr => List.all_eq_true.1 c6 r hr) (chk17_en h)
theorem Two.tail {r : List U} {q : List (List U)} (h : Two (r :: q)) : Two q := fun x hx => h x (List.mem_cons_of_mem _ hx)
theorem ctR_O {t : Int} {r : List U} (h : xO r = t) (k : xU r ≠ t) : ctR t r = [mO r] := by
  unfold ctR; rw [dt h, df k]; rfl
theorem ctR_U {t : Int} {r : List U} (h : xO r ≠ t) (k : xU r = t) : ctR t r = [mU r] := by
  unfold ctR; rw [df h, dt k]; rfl
theorem atF_cons (t : Int) (r : List U) (q : List (List U)) (i : Nat) : atF t (r :: q) i = (bc (decide (xO r = t)) [(i : Int)] []) ++ (bc (decide (xU r = t)) [(i : Int)] []) ++ atF t q (i + 1) := rfl
theorem atF_hi (t : Int) : ∀ (b : List (List U)) (i : Nat), (atF t b i).length = (hiF t b).length
  | [], _ => rfl
  | r :: q, i => by
    rw [atF_cons, hiF_cons, List.length_append, List.length_append, List.length_append, atF_hi t q (i + 1)]; unfold ctR; rw [List.length_append]; cases decide (xO r = t) <;> cases decide (xU r = t) <;> rfl
theorem at_idx {t : Int} : ∀ (b : List (List U)) (i0 j : Nat), Two b → j < (hiF t b).length → ∃ k : Nat, k < b.length ∧ (atF t b i0).getD j 0 = (i0 + k : Nat) ∧ hiF t (b.take k) = (hiF t b).take j ∧ ((xO (b.getD k []) = t ∧ (hiF t b).getD j [] = mO (b.getD k [])) ∨ (xU (b.getD k []) = t ∧ (hiF t b).getD j [] = mU (b.getD k [])))
  | [], _, j, _, h => by cases h
  | r :: q, i0, j, h2, h => by
    have hne := h2 r List.mem_cons_self; rw [atF_cons, hiF_cons]; rw [hiF_cons] at h
    by_cases e1 : xO r = t
    · have e2 : xU r ≠ t := fun e => hne (e1.trans e.symm); rw [ctR_O e1 e2] at h ⊢; rw [dt e1, df e2, bc_t, bc_f]
      cases j with
      | zero => exact ⟨0, by simp, by simp, by simp [hiF], .inl ⟨e1, rfl⟩⟩
      | succ j =>
        obtain ⟨k, g1, g2, g3, g4⟩ := at_idx q (i0 + 1) j h2.tail (by simp at h; omega); refine ⟨k + 1, by simp; omega, ?_, ?_, ?_⟩
        · show (atF t q (i0 + 1)).getD j 0 = _; rw [g2]; congr 1; omega
        · rw [List.take_succ_cons, hiF_cons, g3, ctR_O e1 e2]; rfl
        · exact g4
    · by_cases e2 : xU r = t
      · rw [ctR_U e1 e2] at h ⊢; rw [df e1, dt e2, bc_t, bc_f]
        cases j with
        | zero => exact ⟨0, by simp, by simp, by simp [hiF], .inr ⟨e2, rfl⟩⟩
        | succ j =>
          obtain ⟨k, g1, g2, g3, g4⟩ := at_idx q (i0 + 1) j h2.tail (by simp at h; omega); refine ⟨k + 1, by simp; omega, ?_, ?_, ?_⟩
          · show (atF t q (i0 + 1)).getD j 0 = _; rw [g2]; congr 1; omega
          · rw [List.take_succ_cons, hiF_cons, g3, ctR_U e1 e2]; rfl
          · exact g4
      · rw [ctR_no e1 e2] at h ⊢; rw [df e1, df e2, bc_f]; obtain ⟨k, g1, g2, g3, g4⟩ := at_idx q (i0 + 1) j h2.tail (by simpa using h); refine ⟨k + 1, by simp; omega, ?_, ?_, ?_⟩
        · show (atF t q (i0 + 1)).getD j 0 = _; rw [g2]; congr 1; omega
        · rw [List.take_succ_cons, hiF_cons, g3, ctR_no e1 e2]; rfl
        · exact g4

end Go.Proofs.Ytonbfalbfdkieaa.Ev
namespace Go.Proofs.Ytonbfalbfdkieaa.Ev

theorem hiF_step {a : List (List U)} {i : Nat} (t : Int) (hi : i < a.length) : (hiF t (a.take (i + 1))).length = (hiF t (a.take i)).length + (ctR t (a.getD i [])).length := by
  rw [← List.take_append_getElem hi, hiF_app, List.length_append, getD_at hi, hiF_cons]; congr 1; show (ctR t a[i] ++ []).length = _; rw [List.append_nil]
theorem incD_get {D : List Int} {j k : Nat} (h : j < D.length) : (incD D j).getD k 0 = D.getD k 0 + (if j = k then 1 else 0) := by
  unfold incD; rw [List.getD_eq_getElem?_getD, List.getElem?_set]
  by_cases e : j = k
  · subst e; rw [if_pos rfl, if_pos h, if_pos rfl]; rfl
  · rw [if_neg e, if_neg e, ← List.getD_eq_getElem?_getD]; omega
theorem take_mono {t : Int} {b : List (List U)} {k m : Nat} (h : k ≤ m) : (hiF t (b.take k)).length ≤ (hiF t (b.take m)).length := by
  have e1 : b.take m = b.take k ++ (b.drop k).take (m - k) := by
    have e : m = k + (m - k) := by omega
    conv => lhs; rw [e]
    rw [List.take_add]
  rw [e1, hiF_app, List.length_append]; omega

end Go.Proofs.Ytonbfalbfdkieaa.Ev
namespace Go.Proofs.Ytonbfalbfdkieaa.Ev

noncomputable def onB (t : Int) (r : List U) : Bool := bc (xO r == t) true (xU r == t)

noncomputable def befI (X : List (List U)) (p : List Int) (t : Int) : Nat → Nat → Int → Int
  | 0, _, n => n
  | f + 1, k, n => bc (onB t (X.getD k [])) (bc (decide (p.getD k 0 < 0)) (-1) (befI X p t f (k + 1) (n + 1))) (befI X p t f (k + 1) n)
theorem befI_last {X : List (List U)} {p : List Int} {t : Int} : ∀ (f k : Nat) (n : Int), 0 ≤ n → befI X p t (f + 1) k n = bc (decide (befI X p t f k n < 0)) (-1) (bc (onB t (X.getD (k + f) [])) (bc (decide (p.getD (k + f) 0 < 0)) (-1) (befI X p t f k n + 1)) (befI X p t f k n))
  | 0, k, n, hn => by
    show _ = bc (decide (n < 0)) _ _; rw [df (by omega), bc_f]; rfl
  | f + 1, k, n, hn => by
    have e : ∀ g n, befI X p t (g + 1) k n = bc (onB t (X.getD k [])) (bc (decide (p.getD k 0 < 0)) (-1) (befI X p t g (k + 1) (n + 1))) (befI X p t g (k + 1) n) := fun _ _ => rfl; rw [e (f + 1), e f, befI_last f (k + 1) (n + 1) (by omega), befI_last f (k + 1) n hn, show k + 1 + f = k + (f + 1) by omega]; cases onB t (X.getD k [])
    · simp only [bc_f]; rfl
    · simp only [bc_t]
      by_cases h : p.getD k 0 < 0
      · simp only [dt h, bc_t]; rfl
      · simp only [df h, bc_f]
theorem befI_eq {X : List (List U)} {p q : List Int} {t : Int} : ∀ (f k : Nat) (n : Int), (∀ j : Nat, j < k + f → p.getD j 0 = q.getD j 0) → befI X p t f k n = befI X q t f k n
  | 0, _, _, _ => rfl
  | f + 1, k, n, h => by
    show bc _ (bc (decide (p.getD k 0 < 0)) _ _) _ = bc _ (bc (decide (q.getD k 0 < 0)) _ _) _; rw [h k (by omega), befI_eq f (k + 1) (n + 1) (fun j hj => h j (by omega)), befI_eq f (k + 1) n (fun j hj => h j (by omega))]
theorem befI_in {X : List (List U)} {p : List Int} {t : Int} : ∀ (f k : Nat) (n : Int), 0 ≤ n → -1 ≤ befI X p t f k n ∧ befI X p t f k n ≤ n + f
  | 0, _, n, hn => ⟨by show -1 ≤ n; omega, by show n ≤ _; omega⟩
  | f + 1, k, n, hn => by
    have h1 := befI_in (X := X) (p := p) (t := t) f (k + 1) (n + 1) (by omega); have h2 := befI_in (X := X) (p := p) (t := t) f (k + 1) n hn; show -1 ≤ bc _ (bc _ _ _) _ ∧ bc _ (bc _ _ _) _ ≤ _; cases onB t (X.getD k [])
    · rw [bc_f]; omega
    · rw [bc_t]; cases decide (p.getD k 0 < 0)
      · rw [bc_f]; omega
      · rw [bc_t]; omega
theorem ctR_on {t : Int} {r : List U} (h : xO r ≠ xU r) : (ctR t r).length = bc (onB t r) 1 0 := by
  unfold onB
  by_cases h1 : xO r = t
  · rw [ctR_O h1 (fun e => h (h1.trans e.symm)), beq_iff_eq.2 h1]; rfl
  · by_cases h2 : xU r = t
    · rw [ctR_U h1 h2, beq_iff_eq.2 h2, show (xO r == t) = false by simpa using h1]; rfl
    · rw [ctR_no h1 h2, show (xU r == t) = false by simpa using h2, show (xO r == t) = false by simpa using h1]; rfl
theorem Two.at {Y : List (List U)} (h : Two Y) {k : Nat} (hk : k < Y.length) : xO (Y.getD k []) ≠ xU (Y.getD k []) := by
  rw [getD_at hk]; exact h _ (List.getElem_mem hk)
theorem befI_hi {X : List (List U)} {p : List Int} {t : Int} (hX : Two X) (hp : ∀ j, 0 ≤ p.getD j 0) : ∀ f : Nat, f ≤ X.length → befI X p t f 0 0 = (hiF t (X.take f)).length
  | 0, _ => rfl
  | f + 1, h => by
    have hk := hp f; rw [befI_last f 0 0 (Int.le_refl _), Nat.zero_add, befI_hi hX hp f (by omega), hiF_step t (by omega), ctR_on (hX.at (by omega)), df (by omega), bc_f, df (by omega), bc_f]; cases onB t (X.getD f [])
    · simp only [bc_f]; omega
    · simp only [bc_t]; omega
theorem hi_lt {t : Int} {Y : List (List U)} (hY : Two Y) {k j : Nat} (hk : k < Y.length) (ho : onB t (Y.getD k []) = true) (h : k < j) : (hiF t (Y.take k)).length < (hiF t (Y.take j)).length := by
  have h1 := hiF_step t hk; rw [ctR_on (hY.at hk), ho, bc_t] at h1; have h2 := take_mono (t := t) (b := Y) (show k + 1 ≤ j by omega); omega
theorem onB_of {t : Int} {r : List U} : onB t r = true ↔ xO r = t ∨ xU r = t := by
  unfold onB
  by_cases h1 : xO r = t
  · simp [h1, bc]
  · rw [show (xO r == t) = false by simpa using h1, bc_f]; simp [h1]
theorem at_pos {t : Int} {Y : List (List U)} (hY : Two Y) {k : Nat} (hk : k < Y.length) (ho : onB t (Y.getD k []) = true) : (hiF t (Y.take k)).length < (hiF t Y).length ∧ (atF t Y 0).getD (hiF t (Y.take k)).length 0 = k := by
  have h1 := hi_lt hY hk ho hk; rw [List.take_length] at h1; obtain ⟨j, j1, j2, j3, j4⟩ := at_idx (t := t) Y 0 _ hY h1; refine ⟨h1, ?_⟩; have hj : onB t (Y.getD j []) = true := onB_of.2 (by rcases j4 with ⟨a, _⟩ | ⟨a, _⟩; exact .inl a; exact .inr a)
  have hl : (hiF t (Y.take j)).length = (hiF t (Y.take k)).length := by rw [j3, List.length_take]; omega
  have e : j = k := by
    rcases Nat.lt_trichotomy j k with h | h | h
    · have := hi_lt hY j1 hj h; omega
    · exact h
    · have := hi_lt hY hk ho h; omega
  rw [j2, e, Nat.zero_add]

noncomputable def refB (Y : List (List U)) (z : List Int) (o u n m : Int) (k : Nat) : Bool := bc (xO (Y.getD k []) == o) (bc (xU (Y.getD k []) == u) (bc (befI Y z o k 0 0 == n) (befI Y z u k 0 0 == m) false) false) false
noncomputable def matI (Y : List (List U)) (z : List Int) (o u n m : Int) : Nat → Nat → Int → Int
  | 0, _, c => c
  | f + 1, k, c => matI Y z o u n m f (k + 1) (bc (refB Y z o u n m k) (k : Int) c)
theorem matI_no {Y : List (List U)} {z : List Int} {o u n m : Int} : ∀ (f k : Nat) (c : Int), (∀ j, k ≤ j → j < k + f → refB Y z o u n m j = false) → matI Y z o u n m f k c = c
  | 0, _, _, _ => rfl
  | f + 1, k, c, h => by
    show matI Y z o u n m f (k + 1) _ = c; rw [h k (Nat.le_refl _) (by omega), bc_f]; exact matI_no f (k + 1) c (fun j h1 h2 => h j (by omega) (by omega))
theorem matI_at {Y : List (List U)} {z : List Int} {o u n m : Int} {j0 : Nat} (h0 : refB Y z o u n m j0 = true) : ∀ (f k : Nat) (c : Int), k ≤ j0 → j0 < k + f → (∀ j, k ≤ j → j < k + f → j ≠ j0 → refB Y z o u n m j = false) → matI Y z o u n m f k c = j0
  | 0, k, c, h1, h2, _ => by omega
  | f + 1, k, c, h1, h2, h => by
    show matI Y z o u n m f (k + 1) _ = j0
    by_cases e : k = j0
    · subst e; rw [h0, bc_t]; exact matI_no f (k + 1) k (fun j h3 h4 => h j (by omega) (by omega) (by omega))
    · exact matI_at h0 f (k + 1) _ (by omega) (by omega) (fun j h3 h4 => h j (by omega) (by omega))
theorem refB_of {Y : List (List U)} {z : List Int} {o u n m : Int} {k : Nat} : refB Y z o u n m k = true ↔ xO (Y.getD k []) = o ∧ xU (Y.getD k []) = u ∧ befI Y z o k 0 0 = n ∧ befI Y z u k 0 0 = m := by
  unfold refB; constructor
  · intro h; obtain ⟨h1, h⟩ := bcT h; obtain ⟨h2, h⟩ := bcT h; obtain ⟨h3, h4⟩ := bcT h; exact ⟨by simpa using h1, by simpa using h2, by simpa using h3, by simpa using h4⟩
  · rintro ⟨h1, h2, h3, h4⟩
    rw [h1, h2, h3, h4]; simp [bc]
theorem mat_nxt {n o u : Nat} {Y : List (List U)} {D z : List Int} {r : List U} (hY : Two Y) (ty : thrs n Y) (hz : ∀ j, 0 ≤ z.getD j 0) (ho : o < n) (hu : u < n) (hne : o ≠ u) (ro : xO r = o) (ru : xU r = u) (d1 : 0 ≤ D.getD o 0) (d2 : 0 ≤ D.getD u 0) :
    matI Y z o u (D.getD o 0) (D.getD u 0) Y.length 0 (-1) = bc (comB Y (rowsT (thF Y 0 (th0 n))) D r) (nxtF D (rowsT (thF Y 0 (th0 n))) o) (-1) := by
  by_cases hx : ∃ k, k < Y.length ∧ refB Y z o u (D.getD o 0) (D.getD u 0) k = true
  · obtain ⟨k, hk, hb⟩ := hx; obtain ⟨b1, b2, b3, b4⟩ := refB_of.1 hb; rw [befI_hi hY hz k (by omega)] at b3 b4; obtain ⟨p1, p2⟩ := at_pos hY hk (onB_of.2 (.inl b1)); obtain ⟨q1, q2⟩ := at_pos hY hk (onB_of.2 (.inr b2)); have no : nxtF D (rowsT (thF Y 0 (th0 n))) o = k := by
      rw [nxtF_at ty ho, dt d1, bc_t, ← b3, dt (by rw [atF_hi]; omega), bc_t]; exact p2
    have nu : nxtF D (rowsT (thF Y 0 (th0 n))) u = k := by
      rw [nxtF_at ty hu, dt d2, bc_t, ← b4, dt (by rw [atF_hi]; omega), bc_t]; exact q2
    have hB : comB Y (rowsT (thF Y 0 (th0 n))) D r = true := by
      unfold comB; rw [ro, ru, no, nu, df (by omega), bc_f]; rw [show ((k : Int) != (k : Int)) = false by simp, bc_f]; rw [show ((k : Int)).toNat = k from rfl, b1]
      simp [bc]
    rw [hB, bc_t, no]; refine matI_at hb _ 0 _ (by omega) (by omega) (fun j _ h2 hj => ?_)
    cases hc : refB Y z o u (D.getD o 0) (D.getD u 0) j with
    | false => rfl
    | true =>
      obtain ⟨c1, c2, c3, c4⟩ := refB_of.1 hc; rw [befI_hi hY hz j (by omega)] at c3; rcases Nat.lt_or_gt_of_ne hj with h | h
      · have := hi_lt hY (by omega) (onB_of.2 (.inl c1)) h; omega
      · have := hi_lt hY hk (onB_of.2 (.inl b1)) h; omega
  · have hx : ∀ k, k < Y.length → refB Y z o u (D.getD o 0) (D.getD u 0) k = false := fun k hk => by
      cases h : refB Y z o u (D.getD o 0) (D.getD u 0) k with
      | false => rfl
      | true => exact absurd ⟨k, hk, h⟩ hx
    rw [matI_no _ 0 _ (fun j _ h => hx j (by omega))]
    cases hB : comB Y (rowsT (thF Y 0 (th0 n))) D r with
    | false => rfl
    | true =>
      exfalso
      unfold comB at hB; rw [ro, ru] at hB; rcases nxtF_lt (D := D) ty ho with h | ⟨k, h1, hk⟩
      · rw [dt h, bc_t] at hB; cases hB
      · rw [h1, df (by omega), bc_f] at hB
        cases h2 : ((k : Int) != nxtF D (rowsT (thF Y 0 (th0 n))) u) with
        | true => rw [h2, bc_t] at hB; cases hB
        | false =>
          rw [h2, bc_f] at hB; have nu : nxtF D (rowsT (thF Y 0 (th0 n))) u = k := by
            have := bne_eq_false_iff_eq.1 h2; exact this.symm
          rw [show ((k : Int)).toNat = k from rfl] at hB
          have e1 : xO (Y.getD k []) = o := by
            cases h3 : (xO (Y.getD k []) != (o : Int)) with
            | true => rw [h3, bc_t] at hB; cases hB
            | false => exact bne_eq_false_iff_eq.1 h3
          rw [nxtF_at ty ho, dt d1, bc_t] at h1; rw [nxtF_at ty hu, dt d2, bc_t] at nu
          by_cases l1 : D.getD o 0 < (atF o Y 0).length
          · by_cases l2 : D.getD u 0 < (atF u Y 0).length
            · rw [dt l1, bc_t] at h1; rw [dt l2, bc_t] at nu; rw [atF_hi] at l1 l2; obtain ⟨a, a1, a2, a3, _⟩ := at_idx (t := (o : Int)) Y 0 (D.getD o 0).toNat hY (by omega); obtain ⟨b, b1, b2, b3, b4⟩ := at_idx (t := (u : Int)) Y 0 (D.getD u 0).toNat hY (by omega); have ea : a = k := by omega
              have eb : b = k := by omega
              subst ea; subst eb; have e2 : xU (Y.getD b []) = u := by
                rcases b4 with ⟨h, _⟩ | ⟨h, _⟩
                · omega
                · exact h
              have := hx b hk; rw [refB_of.2 ⟨e1, e2, by rw [befI_hi hY hz b (by omega), a3, List.length_take]; omega, by rw [befI_hi hY hz b (by omega), b3, List.length_take]; omega⟩] at this; cases this
            · rw [df l2, bc_f] at nu; omega
          · rw [df l1, bc_f] at h1; omega

noncomputable def refV (X Y : List (List U)) (z p : List Int) (i : Nat) : Int := bc (decide (0 ≤ befI X p (xO (X.getD i [])) i 0 0)) (bc (decide (0 ≤ befI X p (xU (X.getD i [])) i 0 0)) (matI Y z (xO (X.getD i [])) (xU (X.getD i [])) (befI X p (xO (X.getD i [])) i 0 0) (befI X p (xU (X.getD i [])) i 0 0) Y.length 0 (-1)) (-1)) (-1)
noncomputable def refC (X Y : List (List U)) (z : List Int) : Nat → Nat → List Int → List Int × List Int
  | 0, _, _ => ([], [])
  | f + 1, i, p => bc (decide (0 ≤ refV X Y z p i)) ((i : Int) :: (refC X Y z f (i + 1) (p.set i (refV X Y z p i))).1, refV X Y z p i :: (refC X Y z f (i + 1) (p.set i (refV X Y z p i))).2) (refC X Y z f (i + 1) (p.set i (refV X Y z p i)))
theorem nxtF_neg {n t : Nat} {D : List Int} {Y : List (List U)} (ty : thrs n Y) (ht : t < n) (h : D.getD t 0 < 0) : nxtF D (rowsT (thF Y 0 (th0 n))) t = -1 := by
  rw [nxtF_at ty ht, df (by omega), bc_f]
theorem refC_com {n : Nat} {X Y : List (List U)} {z : List Int} (hX : Two X) (hY : Two Y) (tx : thrs n X) (ty : thrs n Y) (hz : ∀ j, 0 ≤ z.getD j 0) : ∀ (f i : Nat) (p D : List Int), i + f = X.length → p.length = X.length → D.length = n → (∀ t : Nat, t < n → D.getD t 0 = befI X p t i 0 0) → refC X Y z f i p = comF Y (rowsT (thF Y 0 (th0 n))) (X.drop i) i D
  | 0, i, p, D, h, _, _, _ => by rw [List.drop_eq_nil_of_le (by omega)]; rfl
  | f + 1, i, p, D, h, hp, hD, hc => by
    have hi : i < X.length := by omega
    obtain ⟨o1, o2, u1, u2⟩ := tx _ (List.getElem_mem hi); have hne := hX _ (List.getElem_mem hi); have er : X.getD i [] = X[i] := getD_at hi; rw [List.drop_eq_getElem_cons hi]; generalize hr : X[i] = r at *; obtain ⟨o, ho⟩ := Int.eq_ofNat_of_zero_le o1; obtain ⟨u, hu⟩ := Int.eq_ofNat_of_zero_le u1; have co := hc o (by omega); have cu := hc u (by omega); have bo := (befI_in (X := X) (p := p) (t := (o : Int)) i 0 0 (Int.le_refl _)).1; have bu := (befI_in (X := X) (p := p) (t := (u : Int)) i 0 0 (Int.le_refl _)).1
    have hV : refV X Y z p i = bc (comB Y (rowsT (thF Y 0 (th0 n))) D r) (nxtF D (rowsT (thF Y 0 (th0 n))) (xO r)) (-1) ∧ (comB Y (rowsT (thF Y 0 (th0 n))) D r = true → 0 ≤ D.getD o 0 ∧ 0 ≤ D.getD u 0 ∧ 0 ≤ nxtF D (rowsT (thF Y 0 (th0 n))) (xO r)) := by
      unfold refV; rw [er, ho, hu, ← co, ← cu]
      by_cases d1 : 0 ≤ D.getD o 0
      · by_cases d2 : 0 ≤ D.getD u 0
        · rw [dt d1, dt d2, bc_t, bc_t, mat_nxt hY ty hz (by omega) (by omega) (by omega) ho hu d1 d2]; refine ⟨rfl, fun hB => ⟨d1, d2, ?_⟩⟩; unfold comB at hB; rw [ho] at hB
          by_cases h1 : nxtF D (rowsT (thF Y 0 (th0 n))) o < 0
          · rw [dt h1, bc_t] at hB; cases hB
          · omega
        · have e := nxtF_neg (D := D) ty (show u < n by omega) (by omega); have hB : comB Y (rowsT (thF Y 0 (th0 n))) D r = false := by
            unfold comB; rw [ho, hu, e]
            by_cases h1 : nxtF D (rowsT (thF Y 0 (th0 n))) o < 0
            · rw [dt h1, bc_t]
            · rw [df h1, bc_f, show (nxtF D (rowsT (thF Y 0 (th0 n))) o != -1) = true by simp; omega, bc_t]
          rw [dt d1, df d2, bc_t, bc_f, hB, bc_f]; exact ⟨rfl, fun h => by cases h⟩
      · have e := nxtF_neg (D := D) ty (show o < n by omega) (by omega); have hB : comB Y (rowsT (thF Y 0 (th0 n))) D r = false := by
          unfold comB; rw [ho, e, dt (by omega), bc_t]
        rw [df d1, bc_f, hB, bc_f]; exact ⟨rfl, fun h => by cases h⟩
    obtain ⟨hV, hV2⟩ := hV; have ih := refC_com hX hY tx ty hz f (i + 1) (p.set i (refV X Y z p i)) (stepD (comB Y (rowsT (thF Y 0 (th0 n))) D r) D r) (by omega) (by simp; exact hp) (by rw [stepD_len]; exact hD) (fun t ht => by
      have hb := (befI_in (X := X) (p := p) (t := (t : Int)) i 0 0 (Int.le_refl _)).1; rw [befI_last i 0 0 (Int.le_refl _), Nat.zero_add, er, befI_eq (q := p) i 0 0 (fun j hj => by
        rw [List.getD_eq_getElem?_getD, List.getElem?_set, if_neg (by omega), ← List.getD_eq_getElem?_getD]), ← hc t ht]
      rw [← hc t ht] at hb; have ep : (p.set i (refV X Y z p i)).getD i 0 = refV X Y z p i := by
        rw [List.getD_eq_getElem?_getD, List.getElem?_set, if_pos rfl, if_pos (by omega)]; rfl
      rw [ep]; have on : onB (t : Int) r = decide (o = t ∨ u = t) := by
        apply Bool.eq_iff_iff.2; rw [onB_of, ho, hu]; simp only [decide_eq_true_eq]; omega
      rw [on]; unfold stepD
      cases hB : comB Y (rowsT (thF Y 0 (th0 n))) D r with
      | true =>
        obtain ⟨g1, g2, g3⟩ := hV2 hB; rw [hB, bc_t] at hV; rw [bc_t, incD_get (by rw [incD_len]; omega), incD_get (by omega), hV]
        by_cases e1 : o = t
        · rw [if_pos (by omega), if_neg (by omega), dt (show o = t ∨ u = t from .inl e1), bc_t, df (show ¬ D.getD t 0 < 0 by subst e1; omega), bc_f, df (by omega), bc_f]; omega
        · by_cases e2 : u = t
          · rw [if_neg (by omega), if_pos (by omega), dt (show o = t ∨ u = t from .inr e2), bc_t, df (show ¬ D.getD t 0 < 0 by subst e2; omega), bc_f, df (by omega), bc_f]; omega
          · rw [if_neg (by omega), if_neg (by omega), df (show ¬ (o = t ∨ u = t) by omega)]
            by_cases e3 : D.getD t 0 < 0
            · rw [dt e3, bc_t]; omega
            · rw [df e3, bc_f, bc_f]; omega
      | false =>
        rw [hB, bc_f] at hV; rw [bc_f, hV]; have gt : ((D.set (xO r).toNat (-1)).set (xU r).toNat (-1)).getD t 0 = if o = t ∨ u = t then -1 else D.getD t 0 := by
          rw [List.getD_eq_getElem?_getD, List.getElem?_set]
          by_cases e2 : u = t
          · rw [if_pos (by omega), if_pos (by rw [List.length_set]; omega), if_pos (.inr e2)]; rfl
          · rw [if_neg (by omega), List.getElem?_set]
            by_cases e1 : o = t
            · rw [if_pos (by omega), if_pos (by omega), if_pos (.inl e1)]; rfl
            · rw [if_neg (by omega), if_neg (by omega), ← List.getD_eq_getElem?_getD]
        rw [gt]
        by_cases e1 : o = t ∨ u = t
        · rw [if_pos e1, dt e1, bc_t, dt (show (-1 : Int) < 0 by omega), bc_t]; cases decide (D.getD t 0 < 0) <;> rfl
        · rw [if_neg e1, df e1, bc_f]
          by_cases e3 : D.getD t 0 < 0
          · rw [dt e3, bc_t]; omega
          · rw [df e3, bc_f])
    unfold refC comF; rw [ih]
    cases hB : comB Y (rowsT (thF Y 0 (th0 n))) D r with
    | true =>
      rw [hB, bc_t] at hV; obtain ⟨_, _, g3⟩ := hV2 hB; rw [hV, dt g3, bc_t]
    | false =>
      rw [hB, bc_f] at hV; rw [hV, df (by omega), bc_f, bc_f]
end Go.Proofs.Ytonbfalbfdkieaa.Ev
namespace Go.Proofs.Ytonbfalbfdkieaa.Ev
open Go.Proofs
noncomputable def onI (o u t : Int) : Bool := bc (o == t) true (u == t)
namespace ROn
noncomputable def RUN (s : ES) : ZF := RZ 186 .nil (fun _ => false) [] [] false s
theorem in_t (w a o u t : Int) : RUN (st0 186 [EV.agg [.v (.int .i64 w), .v (.int .i64 a), .v (.int .i64 o), .v (.int .i64 u)], iv t]) = (bc (o == t) (.done (EV.v (Value.bool true)) [] 0) (.done (EV.v (Value.bool (u == t))) [] 0)) := by kernel_rfl
end ROn
noncomputable def spOn : ZCT := fun ax => match ax with
  | [.agg [.v (.int .i64 w), .v (.int .i64 a), .v (.int .i64 o), .v (.int .i64 u)], .v (.int .i64 t)] => some ⟨decide (True), bv (onI o u t), [], 0⟩
  | _ => none
theorem spOn_ok : ZCtOk Try.prog 186 spOn := fun γ w us ax r hs hc hax hN hfz => by
  unfold spOn at hs; split at hs
  case h_2 => cases hs
  rename_i w a o u t; obtain ⟨rfl⟩ := Option.some.inj hs; have hc_0 : decide (True) = true := hc; have hc := of_decide_eq_true hc_0; exact EndZ.calls (by
    have h := ROn.in_t w a o u t; show EndZ _ _ _ _ (bv (onI o u t)) _ _; unfold onI; cases h1 : (o == t) <;> rw [h1] at h
    · exact .done h
    · exact .done h) (.nil _) (by kernel_rfl) hax hN hfz
noncomputable def ctOn : Tr ZCC := Tr.nil.put 186 (some (dC spOn))
theorem ctOn_ok : ZCtsOk Try.prog ctOn := (ZCtsOk.nil _).add rfl spOn_ok
namespace RBef
noncomputable def RUN (s : ES) : ZF := RZ 142 ctOn (atS 0 142 3) [] [[(1,none),(2,none),(3,none),(4,none),(9,none),(10,none)]] false s

noncomputable def sB (n i t : Int) (X P : List (List U)) (p : List Int) (c k : Int) : NS := ⟨[⟨142, 31, [(1, (EV.v (Value.int IntKind.i64 (i)))), (2, (EV.v (Value.int IntKind.i64 (t)))), (3, (EV.lst (SyC.ints IntKind.i64 (p)))), (4, (EV.ptr 0 0)), (9, iv c), (10, iv k)], [.it (.code (nav [1, 1, 0, 1, 0, 0, 0] (bodyOf Try.f142))), .it (.code (nav [1, 1, 0, 1, 0, 0, 1] (bodyOf Try.f142))), .it (.inLoop (nav [1, 1, 0, 1, 0, 0] (bodyOf Try.f142))), .it (.inBlock 0), .it (.code (nav [1, 1, 1] (bodyOf Try.f142)))], [], Option.none⟩], [(0, (EK.cells 25 [(EV.v (Value.int IntKind.i64 (n))), (EV.lst (SyC.recs [(Sh.int IntKind.i64), (Sh.int IntKind.i64), (Sh.int IntKind.i64), (Sh.int IntKind.i64)] (X))), (EV.lst (SyC.recs [(Sh.int IntKind.i64), (Sh.int IntKind.i64), (Sh.int IntKind.i64), (Sh.int IntKind.i64)] (P)))] true))], 1⟩
theorem in_t (n i t : Int) (X P : List (List U)) (p : List Int) : RUN (st0 142 [clE n X P, iv i, iv t, il p]) = (.at (sB (n) (i) (t) (X) (P) (p) ((0 : Int)) ((0 : Int)))) := by kernel_rfl
theorem step_t (n i t : Int) (X P : List (List U)) (p : List Int) (c k : Int) : RUN (stOf (sB n i t X P p c k)) = (bc (decide (k < i)) (bc (bc (bc (decide ((0 : Int) ≤ k)) (Nat.blt (Int.toNat k) (List.length X)) false) true false) (bc (bc (Nat.blt (Int.toNat k) (List.length X)) true false) (bc (onI (U.int (List.getD (List.getD X (Int.toNat k) []) (Nat.succ (Nat.succ (0 : Nat))) (U.i (0 : Int)))) (U.int (List.getD (List.getD X (Int.toNat k) []) (Nat.succ (Nat.succ (Nat.succ (0 : Nat)))) (U.i (0 : Int)))) t) (bc (bc (bc (decide ((0 : Int) ≤ k)) (Nat.blt (Int.toNat k) (List.length p)) false) true false) (bc (bc (Nat.blt (Int.toNat k) (List.length p)) true false) (bc (decide (List.getD p (Int.toNat k) (0 : Int) < (0 : Int))) (.done (EV.v (Value.int IntKind.i64 (-1))) [] 0) (.at (sB (n) (i) (t) (X) (P) (p) (IntKind.wrap IntKind.i64 (c + (1 : Int))) (IntKind.wrap IntKind.i64 (k + (1 : Int)))))) .bad) .bad) (.at (sB (n) (i) (t) (X) (P) (p) (c) (IntKind.wrap IntKind.i64 (k + (1 : Int)))))) .bad) .bad) (.done (EV.v (Value.int IntKind.i64 (c))) [] 0)) := by kernel_rfl
end RBef
namespace ROth
noncomputable def RUN (s : ES) : ZF := RZs 144 .nil [(atS 0 144 3, [[(0,none),(1,none),(5,some (1, 3, .ints .i64 [])),(6,none)]]), (atS 0 144 7, [[(0,none),(1,none),(5,some (1, 3, .ints .i64 [])),(6,none),(7,none),(8,none)]])] [] false s

noncomputable def sO (n i : Int) (l q : List Int) (nn : Bool) : NS := ⟨[⟨144, 36, [(0, (EV.v (Value.int IntKind.i64 (n)))), (1, (EV.lst (SyC.ints IntKind.i64 (l)))), (5, EV.slO 0 1 q.length nn), (6, iv i)], [.it (.code (nav [1, 1, 0, 1, 0, 0, 0] (bodyOf Try.f144))), .it (.code (nav [1, 1, 0, 1, 0, 0, 1] (bodyOf Try.f144))), .it (.inLoop (nav [1, 1, 0, 1, 0, 0] (bodyOf Try.f144))), .it (.inBlock 0), .it (.code (nav [1, 1, 1] (bodyOf Try.f144)))], [], Option.none⟩], [(0, EK.seq 3 (.ints .i64 q) nn)], 1⟩
noncomputable def sI (n i : Int) (l q : List Int) (nn f : Bool) (k : Int) : NS := ⟨[⟨144, 36, [(0, (EV.v (Value.int IntKind.i64 (n)))), (1, (EV.lst (SyC.ints IntKind.i64 (l)))), (5, (EV.slO 0 1 (List.length q) (nn))), (6, (EV.v (Value.int IntKind.i64 (i)))), (7, bv f), (8, iv k)], [.it (.code (nav [1, 1, 0, 1, 0, 0, 1, 0, 0, 1, 0, 1, 0, 0, 0] (bodyOf Try.f144))), .it (.code (nav [1, 1, 0, 1, 0, 0, 1, 0, 0, 1, 0, 1, 0, 0, 1] (bodyOf Try.f144))), .it (.inLoop (nav [1, 1, 0, 1, 0, 0, 1, 0, 0, 1, 0, 1, 0, 0] (bodyOf Try.f144))), .it (.inBlock 2), .it (.code (nav [1, 1, 0, 1, 0, 0, 1, 0, 0, 1, 1] (bodyOf Try.f144))), .it (.inBlock 1), .it (.code (nav [1, 1, 0, 1, 0, 0, 1, 1] (bodyOf Try.f144))), .it (.inLoop (nav [1, 1, 0, 1, 0, 0] (bodyOf Try.f144))), .it (.inBlock 0), .it (.code (nav [1, 1, 1] (bodyOf Try.f144)))], [], Option.none⟩], [(0, (EK.seq 3 (SyC.ints IntKind.i64 (q)) (nn)))], 1⟩
theorem in_t (n : Int) (l : List Int) : RUN (st0 144 [iv n, il l]) = (.at (sO (n) ((0 : Int)) (l) ([]) (false))) := by kernel_rfl
theorem o_t (n i : Int) (l q : List Int) (nn : Bool) : RUN (stOf (sO n i l q nn)) = (bc (decide (i < n)) (.at (sI (n) (i) (l) (q) (nn) (false) ((0 : Int)))) (bc (Nat.beq (List.length q) (List.length q)) (.done (EV.lst (SyC.ints IntKind.i64 (q))) [] 0) .bad)) := by kernel_rfl
theorem i_t (n i : Int) (l q : List Int) (nn f : Bool) (k : Int) : RUN (stOf (sI n i l q nn f k)) = (bc (decide (k < Int.ofNat (List.length l))) (bc (f) (.at (sI (n) (i) (l) (q) (nn) (true) (IntKind.wrap IntKind.i64 (k + (1 : Int))))) (bc (bc (bc (decide ((0 : Int) ≤ k)) (Nat.blt (Int.toNat k) (List.length l)) false) true false) (bc (bc (Nat.blt (Int.toNat k) (List.length l)) true false) (.at (sI (n) (i) (l) (q) (nn) (List.getD l (Int.toNat k) (0 : Int) == i) (IntKind.wrap IntKind.i64 (k + (1 : Int))))) .bad) .bad)) (bc (!f) (bc (bc (Nat.beq (List.length q) (List.length q)) (bc (Nat.ble (List.length q + List.length (List.map (fun r => U.int (List.headD r (U.i (0 : Int)))) [[U.i i]])) (65536 : Nat)) (bc nn true (bc nn false true)) false) false) (.at (sO (n) (IntKind.wrap IntKind.i64 (i + (1 : Int))) (l) (q ++ List.map (fun r => U.int (List.headD r (U.i (0 : Int)))) [[U.i i]]) (bc nn true (Nat.blt (0 : Nat) (List.length (List.map (fun r => U.int (List.headD r (U.i (0 : Int)))) [[U.i i]])))))) .bad) (.at (sO (n) (IntKind.wrap IntKind.i64 (i + (1 : Int))) (l) (q) (nn))))) := by kernel_rfl
end ROth
end Go.Proofs.Ytonbfalbfdkieaa.Ev
namespace Go.Proofs.Ytonbfalbfdkieaa.Ev
open Go.Proofs
namespace RBef
theorem loop {n t : Int} {X P : List (List U)} {p : List Int} {i : Nat} (hi : i ≤ X.length) (hX : X.length ≤ 20000) (hp : i ≤ p.length) : ∀ (f k : Nat) (c : Int), k + f = i → 0 ≤ c → c ≤ k → EndZ 142 ctOn false (stOf (sB n i t X P p c k)) (iv (befI X p t f k c)) [] 0
  | 0, k, c, h, hc, hk => by
    have h1 := step_t n i t X P p c k; simp (disch := omega) only [Nat.add_eq, eqSy_self, eqN_self, bc_same, List.length_cons, ofn, wrap_in, dt, df, bltD, bltN, ble_of, bleN, beqD, bc_t, bc_f, nn_ok, Nat.zero_add, to_nat, Int.zero_add, Int.sub_zero, Int.sub_self, Int.cast_ofNat_Int, Int.natCast_zero, Int.toNat_zero, List.take_zero, List.nil_append, List.length_append, List.length_nil] at h1; exact .done h1
  | f + 1, k, c, h, hc, hk => by
    have h1 := step_t n i t X P p c k; rw [to_nat] at h1; have e : ∀ r : List U, onI (U.int (List.getD r (Nat.succ (Nat.succ 0)) (U.i 0))) (U.int (List.getD r (Nat.succ (Nat.succ (Nat.succ 0))) (U.i 0))) t = onB t r := fun _ => rfl; rw [e] at h1; show EndZ _ _ _ _ (iv (bc (onB t (X.getD k [])) (bc (decide (p.getD k 0 < 0)) (-1) (befI X p t f (k + 1) (c + 1))) (befI X p t f (k + 1) c))) _ _; have w1 : IntKind.wrap IntKind.i64 (c + 1) = c + 1 := wrap_in _ (by omega) (by omega); rw [w1] at h1; cases h2 : onB t (X.getD k [])
    · rw [h2] at h1; simp (disch := omega) only [Nat.add_eq, eqSy_self, eqN_self, bc_same, List.length_cons, ofn, wrap_in, dt, df, bltD, bltN, ble_of, bleN, beqD, bc_t, bc_f, nn_ok, Nat.zero_add, to_nat, Int.zero_add, Int.sub_zero, Int.sub_self, Int.cast_ofNat_Int, Int.natCast_zero, Int.toNat_zero, List.take_zero, List.nil_append, List.length_append, List.length_nil] at h1; exact .at ctOn_ok h1 (loop hi hX hp f (k + 1) c (by omega) hc (by omega))
    · rw [h2] at h1
      by_cases h3 : p.getD k 0 < 0
      · rw [dt h3, bc_t] at h1 ⊢; simp (disch := omega) only [Nat.add_eq, eqSy_self, eqN_self, bc_same, List.length_cons, ofn, wrap_in, dt, df, bltD, bltN, ble_of, bleN, beqD, bc_t, bc_f, nn_ok, Nat.zero_add, to_nat, Int.zero_add, Int.sub_zero, Int.sub_self, Int.cast_ofNat_Int, Int.natCast_zero, Int.toNat_zero, List.take_zero, List.nil_append, List.length_append, List.length_nil] at h1; exact .done h1
      · rw [df h3, bc_f] at h1; rw [df h3, bc_f, bc_t]; simp (disch := omega) only [Nat.add_eq, eqSy_self, eqN_self, bc_same, List.length_cons, ofn, wrap_in, dt, df, bltD, bltN, ble_of, bleN, beqD, bc_t, bc_f, nn_ok, Nat.zero_add, to_nat, Int.zero_add, Int.sub_zero, Int.sub_self, Int.cast_ofNat_Int, Int.natCast_zero, Int.toNat_zero, List.take_zero, List.nil_append, List.length_append, List.length_nil] at h1; exact .at ctOn_ok h1 (loop hi hX hp f (k + 1) (c + 1) (by omega) (by omega) (by omega))
end RBef
noncomputable def spBef : ZCT := fun ax => match ax with
  | [.agg [.v (.int .i64 n), .lst (.recs [.int .i64, .int .i64, .int .i64, .int .i64] X), .lst (.recs [.int .i64, .int .i64, .int .i64, .int .i64] P)], .v (.int .i64 i), .v (.int .i64 t), .lst (.ints .i64 p)] => some ⟨decide (0 ≤ i ∧ i ≤ X.length ∧ X.length ≤ 20000 ∧ i ≤ p.length), iv (befI X p t i.toNat 0 0), [], 0⟩
  | _ => none
theorem spBef_ok : ZCtOk Try.prog 142 spBef := fun γ w us ax r hs hc hax hN hfz => by
  unfold spBef at hs; split at hs
  case h_2 => cases hs
  rename_i n X P i t p; obtain ⟨rfl⟩ := Option.some.inj hs; have hc_0 : decide (0 ≤ i ∧ i ≤ X.length ∧ X.length ≤ 20000 ∧ i ≤ p.length) = true := hc; have hc := of_decide_eq_true hc_0; exact EndZ.calls (by
    obtain ⟨h1, h2, h3, h4⟩ := hc; obtain ⟨i, rfl⟩ := Int.eq_ofNat_of_zero_le h1; exact .at ctOn_ok (RBef.in_t n i t X P p) (RBef.loop (by omega) h3 (by omega) i 0 0 (by omega) (by omega) (by omega))) ctOn_ok (by kernel_rfl) hax hN hfz
namespace ROth
theorem inner {n : Int} {l q : List Int} {v : EV} {i : Nat} (hl : l.length ≤ 50000) (hq : q.length ≤ 60000) (hi : i ≤ 50000) : ∀ (f k : Nat) (b nn : Bool), k + f = l.length → (∀ nn', EndZ 144 .nil false (stOf (sO n (i + 1 : Nat) l (q ++ bc (bc b true ((l.drop k).contains (i : Int))) [] [(i : Int)]) nn')) v [] 0) → EndZ 144 .nil false (stOf (sI n i l q nn b k)) v [] 0
  | 0, k, b, nn, h, hh => by
    have h1 := i_t n i l q nn b k; rw [List.drop_eq_nil_of_le (by omega)] at hh; have m1 : List.map (fun r => U.int (List.headD r (U.i 0))) [[U.i (i : Int)]] = [(i : Int)] := rfl; rw [m1] at h1
    cases b with
    | true =>
      simp (disch := omega) only [Nat.add_eq, eqSy_self, eqN_self, bc_same, List.length_cons, ofn, wrap_in, dt, df, bltD, bltN, ble_of, bleN, beqD, bc_t, bc_f, nn_ok, Nat.zero_add, to_nat, Int.zero_add, Int.sub_zero, Int.sub_self, Int.cast_ofNat_Int, Int.natCast_zero, Int.toNat_zero, List.take_zero, List.nil_append, List.length_append, List.length_nil, Bool.not_true] at h1; have h2 := hh nn; rw [bc_t, bc_t, List.append_nil] at h2; exact .at (.nil _) h1 h2
    | false =>
      cases nn with
      | true =>
        simp (disch := omega) only [Nat.add_eq, eqSy_self, eqN_self, bc_same, List.length_cons, ofn, wrap_in, dt, df, bltD, bltN, ble_of, bleN, beqD, bc_t, bc_f, nn_ok, Nat.zero_add, to_nat, Int.zero_add, Int.sub_zero, Int.sub_self, Int.cast_ofNat_Int, Int.natCast_zero, Int.toNat_zero, List.take_zero, List.nil_append, List.length_append, List.length_nil, Bool.not_false] at h1; exact .at (.nil _) h1 (hh _)
      | false =>
        simp (disch := omega) only [Nat.add_eq, eqSy_self, eqN_self, bc_same, List.length_cons, ofn, wrap_in, dt, df, bltD, bltN, ble_of, bleN, beqD, bc_t, bc_f, nn_ok, Nat.zero_add, to_nat, Int.zero_add, Int.sub_zero, Int.sub_self, Int.cast_ofNat_Int, Int.natCast_zero, Int.toNat_zero, List.take_zero, List.nil_append, List.length_append, List.length_nil, Bool.not_false] at h1; exact .at (.nil _) h1 (hh _)
  | f + 1, k, b, nn, h, hh => by
    have h1 := i_t n i l q nn b k; have hk : k < l.length := by omega
    rw [List.drop_eq_getElem_cons hk] at hh; rw [to_nat, getD_at hk] at h1
    cases b with
    | true =>
      simp (disch := omega) only [Nat.add_eq, eqSy_self, eqN_self, bc_same, List.length_cons, ofn, wrap_in, dt, df, bltD, bltN, ble_of, bleN, beqD, bc_t, bc_f, nn_ok, Nat.zero_add, to_nat, Int.zero_add, Int.sub_zero, Int.sub_self, Int.cast_ofNat_Int, Int.natCast_zero, Int.toNat_zero, List.take_zero, List.nil_append, List.length_append, List.length_nil] at h1; exact .at (.nil _) h1 (inner hl hq hi f (k + 1) true nn (by omega) fun nn' => by have := hh nn'; rw [bc_t] at this ⊢; exact this)
    | false =>
      simp (disch := omega) only [Nat.add_eq, eqSy_self, eqN_self, bc_same, List.length_cons, ofn, wrap_in, dt, df, bltD, bltN, ble_of, bleN, beqD, bc_t, bc_f, nn_ok, Nat.zero_add, to_nat, Int.zero_add, Int.sub_zero, Int.sub_self, Int.cast_ofNat_Int, Int.natCast_zero, Int.toNat_zero, List.take_zero, List.nil_append, List.length_append, List.length_nil] at h1; refine .at (.nil _) h1 (inner hl hq hi f (k + 1) _ nn (by omega) fun nn' => ?_); have h2 := hh nn'; rw [bc_f, List.contains_cons] at h2
      have e : ((i : Int) == l[k] || (l.drop (k + 1)).contains (i : Int)) = bc (l[k] == (i : Int)) true ((l.drop (k + 1)).contains (i : Int)) := by
        by_cases g : l[k] = (i : Int)
        · simp [g, bc]
        · have g2 : ((i : Int) == l[k]) = false := by simpa using fun e => g e.symm
          have g3 : (l[k] == (i : Int)) = false := by simpa using g
          rw [g2, g3, bc_f, Bool.false_or]
      rw [e] at h2; exact h2
theorem loop {n : Nat} {l : List Int} (hl : l.length ≤ 50000) (hn : n ≤ 50000) : ∀ (k i : Nat) (q : List Int) (nn : Bool), i + k = n → q.length ≤ i → EndZ 144 .nil false (stOf (sO n i l q nn)) (il (q ++ othF l i k)) [] 0
  | 0, i, q, nn, h, hq => by
    have h1 := o_t n i l q nn; rw [df (show ¬ (i : Int) < n by omega), bc_f, Nat.beq_refl] at h1; show EndZ _ _ _ _ (il (q ++ [])) _ _; rw [List.append_nil]; exact .done h1
  | k + 1, i, q, nn, h, hq => by
    have h1 := o_t n i l q nn; rw [dt (show (i : Int) < n by omega), bc_t] at h1; refine .at (.nil _) h1 (inner (i := i) hl (by omega) (by omega) l.length 0 false nn (by omega) fun nn' => ?_); have h2 := loop hl hn k (i + 1) (q ++ bc (bc false true ((l.drop 0).contains (i : Int))) [] [(i : Int)]) nn' (by omega) (by
      rw [List.length_append]; cases bc false true ((l.drop 0).contains (i : Int)) <;> simp [bc] <;> omega)
    rw [List.append_assoc] at h2; have e : bc (bc false true ((l.drop 0).contains (i : Int))) [] [(i : Int)] ++ othF l (i + 1) k = othF l i (k + 1) := by
      rw [bc_f, List.drop_zero]; show _ = bc (l.contains (i : Int)) (othF l (i + 1) k) ((i : Int) :: othF l (i + 1) k); cases l.contains (i : Int) <;> rfl
    rw [e] at h2; exact h2
end ROth
noncomputable def spOth : ZCT := fun ax => match ax with
  | [.v (.int .i64 n), .lst (.ints .i64 l)] => some ⟨decide (0 ≤ n ∧ n ≤ 50000 ∧ l.length ≤ 50000), il (othF l 0 n.toNat), [], 0⟩
  | _ => none
theorem spOth_ok : ZCtOk Try.prog 144 spOth := fun γ w us ax r hs hc hax hN hfz => by
  unfold spOth at hs; split at hs
  case h_2 => cases hs
  rename_i n l; obtain ⟨rfl⟩ := Option.some.inj hs; have hc_0 : decide (0 ≤ n ∧ n ≤ 50000 ∧ l.length ≤ 50000) = true := hc; have hc := of_decide_eq_true hc_0; exact EndZ.calls (by
    obtain ⟨h1, h2, h3⟩ := hc; obtain ⟨n, rfl⟩ := Int.eq_ofNat_of_zero_le h1; exact .at (.nil _) (ROth.in_t n l) (ROth.loop h3 (by omega) n 0 [] false (by omega) (Nat.le_refl _))) (.nil _) (by kernel_rfl) hax hN hfz
noncomputable def ctRC : Tr ZCC := (Tr.nil.put 120 (some (dC spRCk17))).put 142 (some (dC spBef))
theorem ctRC_ok : ZCtsOk Try.prog ctRC := ((ZCtsOk.nil _).add rfl spRCk17_ok).add rfl spBef_ok
namespace RCom
noncomputable def RUN (s : ES) : ZF := RZs 73 ctRC [(atS 0 73 9, [[(2,none),(3,none),(8,none),(9,none),(10,some (1, 3, .ints .i64 [])),(11,some (1, 3, .ints .i64 [])),(12,none)]]), (atS 0 73 15, [[(2,none),(3,none),(8,none),(9,none),(10,some (1, 3, .ints .i64 [])),(11,some (1, 3, .ints .i64 [])),(12,none),(13,none),(14,none),(15,none),(16,none),(17,none)]])] [] false s
end RCom
end Go.Proofs.Ytonbfalbfdkieaa.Ev
namespace Go.Proofs.Ytonbfalbfdkieaa.Ev
open Go.Proofs
namespace RCom

noncomputable def sO (n m : Int) (X P Y Q : List (List U)) (p z x y : List Int) (d e : Nat) (nx ny : Bool) (i : Int) : NS := ⟨[⟨73, 146, [(2, (EV.ptr 0 0)), (3, (EV.ptr 1 0)), (8, EV.slO 2 1 d true), (9, EV.slO 3 1 e true), (10, EV.slO 4 1 x.length nx), (11, EV.slO 5 1 y.length ny), (12, iv i)], [.it (.code (nav [1, 1, 1, 1, 1, 1, 0, 1, 0, 0, 0] (bodyOf Try.f73))), .it (.code (nav [1, 1, 1, 1, 1, 1, 0, 1, 0, 0, 1] (bodyOf Try.f73))), .it (.inLoop (nav [1, 1, 1, 1, 1, 1, 0, 1, 0, 0] (bodyOf Try.f73))), .it (.inBlock 0), .it (.code (nav [1, 1, 1, 1, 1, 1, 1] (bodyOf Try.f73)))], [], Option.none⟩], [(0, (EK.cells 25 [(EV.v (Value.int IntKind.i64 (n))), (EV.lst (SyC.recs [(Sh.int IntKind.i64), (Sh.int IntKind.i64), (Sh.int IntKind.i64), (Sh.int IntKind.i64)] (X))), (EV.lst (SyC.recs [(Sh.int IntKind.i64), (Sh.int IntKind.i64), (Sh.int IntKind.i64), (Sh.int IntKind.i64)] (P)))] true)), (1, (EK.cells 25 [(EV.v (Value.int IntKind.i64 (m))), (EV.lst (SyC.recs [(Sh.int IntKind.i64), (Sh.int IntKind.i64), (Sh.int IntKind.i64), (Sh.int IntKind.i64)] (Y))), (EV.lst (SyC.recs [(Sh.int IntKind.i64), (Sh.int IntKind.i64), (Sh.int IntKind.i64), (Sh.int IntKind.i64)] (Q)))] true)), (2, EK.seq 3 (.ints .i64 p) true), (3, EK.seq 3 (.ints .i64 z) true), (4, EK.seq 3 (.ints .i64 x) nx), (5, EK.seq 3 (.ints .i64 y) ny)], 6⟩
noncomputable def sI (n m : Int) (X P Y Q : List (List U)) (p z x y : List Int) (d e : Nat) (nx ny : Bool) (i o u a b k : Int) : NS := ⟨[⟨73, 146, [(2, (EV.ptr 0 0)), (3, (EV.ptr 1 0)), (8, EV.slO 2 1 d true), (9, (EV.slO 3 1 (e) true)), (10, (EV.slO 4 1 (List.length x) (nx))), (11, (EV.slO 5 1 (List.length y) (ny))), (12, (EV.v (Value.int IntKind.i64 (i)))), (13, iv o), (14, iv u), (15, iv a), (16, iv b), (17, iv k)], [.it (.code (nav [1, 1, 1, 1, 1, 1, 0, 1, 0, 0, 1, 0, 0, 1, 1, 1, 0, 1, 0, 0, 0] (bodyOf Try.f73))), .it (.code (nav [1, 1, 1, 1, 1, 1, 0, 1, 0, 0, 1, 0, 0, 1, 1, 1, 0, 1, 0, 0, 1] (bodyOf Try.f73))), .it (.inLoop (nav [1, 1, 1, 1, 1, 1, 0, 1, 0, 0, 1, 0, 0, 1, 1, 1, 0, 1, 0, 0] (bodyOf Try.f73))), .it (.inBlock 2), .it (.code (nav [1, 1, 1, 1, 1, 1, 0, 1, 0, 0, 1, 0, 0, 1, 1, 1, 1] (bodyOf Try.f73))), .it (.inBlock 1), .it (.code (nav [1, 1, 1, 1, 1, 1, 0, 1, 0, 0, 1, 1] (bodyOf Try.f73))), .it (.inLoop (nav [1, 1, 1, 1, 1, 1, 0, 1, 0, 0] (bodyOf Try.f73))), .it (.inBlock 0), .it (.code (nav [1, 1, 1, 1, 1, 1, 1] (bodyOf Try.f73)))], [], Option.none⟩], [(0, (EK.cells 25 [(EV.v (Value.int IntKind.i64 (n))), (EV.lst (SyC.recs [(Sh.int IntKind.i64), (Sh.int IntKind.i64), (Sh.int IntKind.i64), (Sh.int IntKind.i64)] (X))), (EV.lst (SyC.recs [(Sh.int IntKind.i64), (Sh.int IntKind.i64), (Sh.int IntKind.i64), (Sh.int IntKind.i64)] (P)))] true)), (1, (EK.cells 25 [(EV.v (Value.int IntKind.i64 (m))), (EV.lst (SyC.recs [(Sh.int IntKind.i64), (Sh.int IntKind.i64), (Sh.int IntKind.i64), (Sh.int IntKind.i64)] (Y))), (EV.lst (SyC.recs [(Sh.int IntKind.i64), (Sh.int IntKind.i64), (Sh.int IntKind.i64), (Sh.int IntKind.i64)] (Q)))] true)), (2, EK.seq 3 (.ints .i64 p) true), (3, (EK.seq 3 (SyC.ints IntKind.i64 (z)) true)), (4, (EK.seq 3 (SyC.ints IntKind.i64 (x)) (nx))), (5, (EK.seq 3 (SyC.ints IntKind.i64 (y)) (ny)))], 6⟩
theorem in_t (n m : Int) (X P Y Q : List (List U)) : RUN (st0 73 [clE n X P, clE m Y Q]) = (bc (chk17 n X P != (0 : Int)) (bc (chk17 n X P == (0 : Int)) (bc (n != m) (.done (EV.tup [(EV.v (Value.slice Option.none 0 0)), (EV.v (Value.slice Option.none 0 0)), (EV.v (Value.int IntKind.i64 (2)))]) [] 0) (bc (chk17 n X P != (0 : Int)) (.done (EV.tup [(EV.v (Value.slice Option.none 0 0)), (EV.v (Value.slice Option.none 0 0)), (EV.v (Value.int IntKind.i64 (chk17 n X P)))]) [] 0) (bc (bc (bc (bc (decide (Int.ofNat (List.length X) ≤ Int.ofNat (List.length X))) (decide (Int.ofNat (List.length X) ≤ (65536 : Int))) false) (bc (bc (decide (Int.ofNat (List.length Y) ≤ Int.ofNat (List.length Y))) (decide (Int.ofNat (List.length Y) ≤ (65536 : Int))) false) true false) false) true false) (.at (sO (n) (m) (X) (P) (Y) (Q) (zerosL (Int.toNat (Int.ofNat (List.length X)))) (zerosL (Int.toNat (Int.ofNat (List.length Y)))) ([]) ([]) (List.length (zerosL (Int.toNat (Int.ofNat (List.length X))))) (List.length (zerosL (Int.toNat (Int.ofNat (List.length Y))))) (false) (false) ((0 : Int)))) .bad))) (bc (chk17 n X P != (0 : Int)) (.done (EV.tup [(EV.v (Value.slice Option.none 0 0)), (EV.v (Value.slice Option.none 0 0)), (EV.v (Value.int IntKind.i64 (chk17 n X P)))]) [] 0) (bc (bc (bc (bc (decide (Int.ofNat (List.length X) ≤ Int.ofNat (List.length X))) (decide (Int.ofNat (List.length X) ≤ (65536 : Int))) false) (bc (bc (decide (Int.ofNat (List.length Y) ≤ Int.ofNat (List.length Y))) (decide (Int.ofNat (List.length Y) ≤ (65536 : Int))) false) true false) false) true false) (.at (sO (n) (m) (X) (P) (Y) (Q) (zerosL (Int.toNat (Int.ofNat (List.length X)))) (zerosL (Int.toNat (Int.ofNat (List.length Y)))) ([]) ([]) (List.length (zerosL (Int.toNat (Int.ofNat (List.length X))))) (List.length (zerosL (Int.toNat (Int.ofNat (List.length Y))))) (false) (false) ((0 : Int)))) .bad))) (bc (chk17 m Y Q == (0 : Int)) (bc (n != m) (.done (EV.tup [(EV.v (Value.slice Option.none 0 0)), (EV.v (Value.slice Option.none 0 0)), (EV.v (Value.int IntKind.i64 (2)))]) [] 0) (bc (chk17 m Y Q != (0 : Int)) (.done (EV.tup [(EV.v (Value.slice Option.none 0 0)), (EV.v (Value.slice Option.none 0 0)), (EV.v (Value.int IntKind.i64 (chk17 m Y Q)))]) [] 0) (bc (bc (bc (bc (decide (Int.ofNat (List.length X) ≤ Int.ofNat (List.length X))) (decide (Int.ofNat (List.length X) ≤ (65536 : Int))) false) (bc (bc (decide (Int.ofNat (List.length Y) ≤ Int.ofNat (List.length Y))) (decide (Int.ofNat (List.length Y) ≤ (65536 : Int))) false) true false) false) true false) (.at (sO (n) (m) (X) (P) (Y) (Q) (zerosL (Int.toNat (Int.ofNat (List.length X)))) (zerosL (Int.toNat (Int.ofNat (List.length Y)))) ([]) ([]) (List.length (zerosL (Int.toNat (Int.ofNat (List.length X))))) (List.length (zerosL (Int.toNat (Int.ofNat (List.length Y))))) (false) (false) ((0 : Int)))) .bad))) (bc (chk17 m Y Q != (0 : Int)) (.done (EV.tup [(EV.v (Value.slice Option.none 0 0)), (EV.v (Value.slice Option.none 0 0)), (EV.v (Value.int IntKind.i64 (chk17 m Y Q)))]) [] 0) (bc (bc (bc (bc (decide (Int.ofNat (List.length X) ≤ Int.ofNat (List.length X))) (decide (Int.ofNat (List.length X) ≤ (65536 : Int))) false) (bc (bc (decide (Int.ofNat (List.length Y) ≤ Int.ofNat (List.length Y))) (decide (Int.ofNat (List.length Y) ≤ (65536 : Int))) false) true false) false) true false) (.at (sO (n) (m) (X) (P) (Y) (Q) (zerosL (Int.toNat (Int.ofNat (List.length X)))) (zerosL (Int.toNat (Int.ofNat (List.length Y)))) ([]) ([]) (List.length (zerosL (Int.toNat (Int.ofNat (List.length X))))) (List.length (zerosL (Int.toNat (Int.ofNat (List.length Y))))) (false) (false) ((0 : Int)))) .bad)))) := by kernel_rfl
theorem o_t (n m : Int) (X P Y Q : List (List U)) (p z x y : List Int) (d e : Nat) (nx ny : Bool) (i : Int) : RUN (stOf (sO n m X P Y Q p z x y d e nx ny i)) = (bc (decide (i < Int.ofNat (List.length X))) (bc (bc (bc (decide ((0 : Int) ≤ i)) (Nat.blt (Int.toNat i) d) false) true false) (bc (Nat.blt (Int.toNat i) (List.length p)) (bc (bc (bc (bc (bc (decide ((0 : Int) ≤ i)) (Nat.blt (Int.toNat i) (List.length X)) false) true false) (bc (bc (Nat.blt (Int.toNat i) (List.length X)) true false) (bc (bc (bc (decide ((0 : Int) ≤ i)) (Nat.blt (Int.toNat i) (List.length X)) false) true false) (bc (bc (Nat.blt (Int.toNat i) (List.length X)) true false) true false) false) false) false) true false) (bc (bc (bc (bc (bc (bc (Nat.beq d (List.length (List.set p (Int.toNat i) (-1 : Int)))) true false) (decide ((0 : Int) ≤ i ∧ i ≤ (Nat.cast (List.length X) : Int) ∧ List.length X ≤ (20000 : Nat) ∧ i ≤ (Nat.cast (List.length (List.set p (Int.toNat i) (-1 : Int))) : Int))) false) true false) (bc (bc (bc (bc (Nat.beq d (List.length (List.set p (Int.toNat i) (-1 : Int)))) true false) (decide ((0 : Int) ≤ i ∧ i ≤ (Nat.cast (List.length X) : Int) ∧ List.length X ≤ (20000 : Nat) ∧ i ≤ (Nat.cast (List.length (List.set p (Int.toNat i) (-1 : Int))) : Int))) false) true false) true false) false) true false) (.at (sI (n) (m) (X) (P) (Y) (Q) (List.set p (Int.toNat i) (-1 : Int)) (z) (x) (y) (d) (e) (nx) (ny) (i) (U.int (List.getD (List.getD X (Int.toNat i) []) (Nat.add (0 : Nat) (2 : Nat)) (U.i (0 : Int)))) (U.int (List.getD (List.getD X (Int.toNat i) []) (Nat.add (0 : Nat) (3 : Nat)) (U.i (0 : Int)))) (befI X (List.set p (Int.toNat i) (-1 : Int)) (U.int (List.getD (List.getD X (Int.toNat i) []) (Nat.add (0 : Nat) (2 : Nat)) (U.i (0 : Int)))) (Int.toNat i) (0 : Nat) (0 : Int)) (befI X (List.set p (Int.toNat i) (-1 : Int)) (U.int (List.getD (List.getD X (Int.toNat i) []) (Nat.add (0 : Nat) (3 : Nat)) (U.i (0 : Int)))) (Int.toNat i) (0 : Nat) (0 : Int)) ((0 : Int)))) .bad) .bad) .bad) .bad) (bc (bc (Nat.beq (List.length x) (List.length x)) (bc (Nat.beq (List.length y) (List.length y)) true false) false) (.done (EV.tup [(EV.lst (SyC.ints IntKind.i64 (x))), (EV.lst (SyC.ints IntKind.i64 (y))), (EV.v (Value.int IntKind.i64 (0)))]) [] 0) .bad)) := by kernel_rfl
theorem i_t (n m : Int) (X P Y Q : List (List U)) (p z x y : List Int) (d e : Nat) (nx ny : Bool) (i o u a b k : Int) : RUN (stOf (sI n m X P Y Q p z x y d e nx ny i o u a b k)) = (bc (decide (k < Int.ofNat (List.length Y))) (bc (decide ((0 : Int) ≤ a)) (bc (decide ((0 : Int) ≤ b)) (bc (bc (bc (decide ((0 : Int) ≤ k)) (Nat.blt (Int.toNat k) (List.length Y)) false) true false) (bc (bc (Nat.blt (Int.toNat k) (List.length Y)) true false) (bc (U.int (List.getD (List.getD Y (Int.toNat k) []) (Nat.add (0 : Nat) (2 : Nat)) (U.i (0 : Int))) == o) (bc (bc (bc (decide ((0 : Int) ≤ k)) (Nat.blt (Int.toNat k) (List.length Y)) false) true false) (bc (bc (Nat.blt (Int.toNat k) (List.length Y)) true false) (bc (U.int (List.getD (List.getD Y (Int.toNat k) []) (Nat.add (0 : Nat) (3 : Nat)) (U.i (0 : Int))) == u) (bc (bc (bc (bc (Nat.beq e (List.length z)) true false) (decide ((0 : Int) ≤ k ∧ k ≤ (Nat.cast (List.length Y) : Int) ∧ List.length Y ≤ (20000 : Nat) ∧ k ≤ (Nat.cast (List.length z) : Int))) false) true false) (bc (befI Y z o (Int.toNat k) (0 : Nat) (0 : Int) == a) (bc (bc (bc (bc (Nat.beq e (List.length z)) true false) (decide ((0 : Int) ≤ k ∧ k ≤ (Nat.cast (List.length Y) : Int) ∧ List.length Y ≤ (20000 : Nat) ∧ k ≤ (Nat.cast (List.length z) : Int))) false) true false) (bc (befI Y z u (Int.toNat k) (0 : Nat) (0 : Int) == b) (bc (bc (bc (decide ((0 : Int) ≤ i)) (Nat.blt (Int.toNat i) d) false) true false) (bc (Nat.blt (Int.toNat i) (List.length p)) (.at (sI (n) (m) (X) (P) (Y) (Q) (List.set p (Int.toNat i) k) (z) (x) (y) (d) (e) (nx) (ny) (i) (o) (u) (a) (b) (IntKind.wrap IntKind.i64 (k + (1 : Int))))) .bad) .bad) (.at (sI (n) (m) (X) (P) (Y) (Q) (p) (z) (x) (y) (d) (e) (nx) (ny) (i) (o) (u) (a) (b) (IntKind.wrap IntKind.i64 (k + (1 : Int)))))) .bad) (.at (sI (n) (m) (X) (P) (Y) (Q) (p) (z) (x) (y) (d) (e) (nx) (ny) (i) (o) (u) (a) (b) (IntKind.wrap IntKind.i64 (k + (1 : Int)))))) .bad) (.at (sI (n) (m) (X) (P) (Y) (Q) (p) (z) (x) (y) (d) (e) (nx) (ny) (i) (o) (u) (a) (b) (IntKind.wrap IntKind.i64 (k + (1 : Int)))))) .bad) .bad) (.at (sI (n) (m) (X) (P) (Y) (Q) (p) (z) (x) (y) (d) (e) (nx) (ny) (i) (o) (u) (a) (b) (IntKind.wrap IntKind.i64 (k + (1 : Int)))))) .bad) .bad) (bc (bc (bc (decide ((0 : Int) ≤ i)) (Nat.blt (Int.toNat i) d) false) true false) (bc (bc (Nat.blt (Int.toNat i) (List.length p)) true false) (bc (decide ((0 : Int) ≤ List.getD p (Int.toNat i) (0 : Int))) (bc (bc (Nat.beq (List.length x) (List.length x)) (bc (Nat.ble (List.length x + List.length (List.map (fun r => U.int (List.headD r (U.i (0 : Int)))) [[U.i i]])) (65536 : Nat)) (bc nx true (bc nx false true)) false) false) (bc (bc (bc (decide ((0 : Int) ≤ i)) (Nat.blt (Int.toNat i) d) false) true false) (bc (bc (Nat.blt (Int.toNat i) (List.length p)) true false) (bc (bc (Nat.beq (List.length y) (List.length y)) (bc (Nat.ble (List.length y + List.length (List.map (fun r => U.int (List.headD r (U.i (0 : Int)))) [[U.i (List.getD p (Int.toNat i) (0 : Int))]])) (65536 : Nat)) (bc ny true (bc ny false true)) false) false) (.at (sO (n) (m) (X) (P) (Y) (Q) (p) (z) (x ++ List.map (fun r => U.int (List.headD r (U.i (0 : Int)))) [[U.i i]]) (y ++ List.map (fun r => U.int (List.headD r (U.i (0 : Int)))) [[U.i (List.getD p (Int.toNat i) (0 : Int))]]) (d) (e) (bc nx true (Nat.blt (0 : Nat) (List.length (List.map (fun r => U.int (List.headD r (U.i (0 : Int)))) [[U.i i]])))) (bc ny true (Nat.blt (0 : Nat) (List.length (List.map (fun r => U.int (List.headD r (U.i (0 : Int)))) [[U.i (List.getD p (Int.toNat i) (0 : Int))]])))) (IntKind.wrap IntKind.i64 (i + (1 : Int))))) .bad) .bad) .bad) .bad) (.at (sO (n) (m) (X) (P) (Y) (Q) (p) (z) (x) (y) (d) (e) (nx) (ny) (IntKind.wrap IntKind.i64 (i + (1 : Int)))))) .bad) .bad)) (bc (bc (bc (decide ((0 : Int) ≤ i)) (Nat.blt (Int.toNat i) d) false) true false) (bc (bc (Nat.blt (Int.toNat i) (List.length p)) true false) (bc (decide ((0 : Int) ≤ List.getD p (Int.toNat i) (0 : Int))) (bc (bc (Nat.beq (List.length x) (List.length x)) (bc (Nat.ble (List.length x + List.length (List.map (fun r => U.int (List.headD r (U.i (0 : Int)))) [[U.i i]])) (65536 : Nat)) (bc nx true (bc nx false true)) false) false) (bc (bc (bc (decide ((0 : Int) ≤ i)) (Nat.blt (Int.toNat i) d) false) true false) (bc (bc (Nat.blt (Int.toNat i) (List.length p)) true false) (bc (bc (Nat.beq (List.length y) (List.length y)) (bc (Nat.ble (List.length y + List.length (List.map (fun r => U.int (List.headD r (U.i (0 : Int)))) [[U.i (List.getD p (Int.toNat i) (0 : Int))]])) (65536 : Nat)) (bc ny true (bc ny false true)) false) false) (.at (sO (n) (m) (X) (P) (Y) (Q) (p) (z) (x ++ List.map (fun r => U.int (List.headD r (U.i (0 : Int)))) [[U.i i]]) (y ++ List.map (fun r => U.int (List.headD r (U.i (0 : Int)))) [[U.i (List.getD p (Int.toNat i) (0 : Int))]]) (d) (e) (bc nx true (Nat.blt (0 : Nat) (List.length (List.map (fun r => U.int (List.headD r (U.i (0 : Int)))) [[U.i i]])))) (bc ny true (Nat.blt (0 : Nat) (List.length (List.map (fun r => U.int (List.headD r (U.i (0 : Int)))) [[U.i (List.getD p (Int.toNat i) (0 : Int))]])))) (IntKind.wrap IntKind.i64 (i + (1 : Int))))) .bad) .bad) .bad) .bad) (.at (sO (n) (m) (X) (P) (Y) (Q) (p) (z) (x) (y) (d) (e) (nx) (ny) (IntKind.wrap IntKind.i64 (i + (1 : Int)))))) .bad) .bad)) (bc (bc (bc (decide ((0 : Int) ≤ i)) (Nat.blt (Int.toNat i) d) false) true false) (bc (bc (Nat.blt (Int.toNat i) (List.length p)) true false) (bc (decide ((0 : Int) ≤ List.getD p (Int.toNat i) (0 : Int))) (bc (bc (Nat.beq (List.length x) (List.length x)) (bc (Nat.ble (List.length x + List.length (List.map (fun r => U.int (List.headD r (U.i (0 : Int)))) [[U.i i]])) (65536 : Nat)) (bc nx true (bc nx false true)) false) false) (bc (bc (bc (decide ((0 : Int) ≤ i)) (Nat.blt (Int.toNat i) d) false) true false) (bc (bc (Nat.blt (Int.toNat i) (List.length p)) true false) (bc (bc (Nat.beq (List.length y) (List.length y)) (bc (Nat.ble (List.length y + List.length (List.map (fun r => U.int (List.headD r (U.i (0 : Int)))) [[U.i (List.getD p (Int.toNat i) (0 : Int))]])) (65536 : Nat)) (bc ny true (bc ny false true)) false) false) (.at (sO (n) (m) (X) (P) (Y) (Q) (p) (z) (x ++ List.map (fun r => U.int (List.headD r (U.i (0 : Int)))) [[U.i i]]) (y ++ List.map (fun r => U.int (List.headD r (U.i (0 : Int)))) [[U.i (List.getD p (Int.toNat i) (0 : Int))]]) (d) (e) (bc nx true (Nat.blt (0 : Nat) (List.length (List.map (fun r => U.int (List.headD r (U.i (0 : Int)))) [[U.i i]])))) (bc ny true (Nat.blt (0 : Nat) (List.length (List.map (fun r => U.int (List.headD r (U.i (0 : Int)))) [[U.i (List.getD p (Int.toNat i) (0 : Int))]])))) (IntKind.wrap IntKind.i64 (i + (1 : Int))))) .bad) .bad) .bad) .bad) (.at (sO (n) (m) (X) (P) (Y) (Q) (p) (z) (x) (y) (d) (e) (nx) (ny) (IntKind.wrap IntKind.i64 (i + (1 : Int)))))) .bad) .bad)) := by kernel_rfl
end RCom
end Go.Proofs.Ytonbfalbfdkieaa.Ev
namespace Go.Proofs.Ytonbfalbfdkieaa.Ev
open Go.Proofs
namespace RCom
theorem fin {n m : Int} {X P Y Q : List (List U)} {p z x y : List Int} {e : Nat} {nx ny : Bool} {i : Nat} {o u a b k : Int} (hi : i < p.length) (hi2 : i ≤ 20000) (hx : x.length ≤ i) (hy : y.length ≤ i) (hq : ¬ k < Y.length ∨ a < 0 ∨ b < 0) : RUN (stOf (sI n m X P Y Q p z x y p.length e nx ny i o u a b k)) = .at (sO n m X P Y Q p z (x ++ bc (decide (0 ≤ p.getD i 0)) [(i : Int)] []) (y ++ bc (decide (0 ≤ p.getD i 0)) [p.getD i 0] []) p.length e (bc (decide (0 ≤ p.getD i 0)) true nx) (bc (decide (0 ≤ p.getD i 0)) true ny) (i + 1 : Nat)) := by
  have h := i_t n m X P Y Q p z x y p.length e nx ny i o u a b k; have m1 : ∀ x : Int, List.map (fun r => U.int (List.headD r (U.i 0))) [[U.i x]] = [x] := fun _ => rfl; simp only [m1] at h; rw [to_nat] at h; have key : ∀ {R : ZF}, RUN (stOf (sI n m X P Y Q p z x y p.length e nx ny i o u a b k)) = R → R = bc (bc (bc (decide (0 ≤ (i : Int))) (Nat.blt i p.length) false) true false)
      (bc (bc (Nat.blt i (List.length p)) true false)
        (bc (decide (0 ≤ List.getD p i 0))
          (bc (bc (Nat.beq (List.length x) (List.length x)) (bc (Nat.ble (List.length x + List.length [(i : Int)]) 65536) (bc nx true (bc nx false true)) false) false)
            (bc (bc (bc (decide (0 ≤ (i : Int))) (Nat.blt i p.length) false) true false)
              (bc (bc (Nat.blt i (List.length p)) true false)
                (bc (bc (Nat.beq (List.length y) (List.length y)) (bc (Nat.ble (List.length y + List.length [List.getD p i 0]) 65536) (bc ny true (bc ny false true)) false) false)
                  (.at (sO (n) (m) (X) (P) (Y) (Q) (p) (z) (x ++ [(i : Int)]) (y ++ [List.getD p i 0]) (p.length) (e) (bc nx true (Nat.blt 0 (List.length [(i : Int)]))) (bc ny true (Nat.blt 0 (List.length [List.getD p i 0]))) (IntKind.wrap IntKind.i64 (i + 1))))
                  .bad)
                .bad)
              .bad)
            .bad)
          (.at (sO (n) (m) (X) (P) (Y) (Q) (p) (z) (x) (y) (p.length) (e) (nx) (ny) (IntKind.wrap IntKind.i64 (i + 1)))))
        .bad)
      .bad → RUN (stOf (sI n m X P Y Q p z x y p.length e nx ny i o u a b k)) = .at (sO n m X P Y Q p z (x ++ bc (decide (0 ≤ p.getD i 0)) [(i : Int)] []) (y ++ bc (decide (0 ≤ p.getD i 0)) [p.getD i 0] []) p.length e (bc (decide (0 ≤ p.getD i 0)) true nx) (bc (decide (0 ≤ p.getD i 0)) true ny) (i + 1 : Nat)) := fun {R} h1 h2 => by
    rw [h1, h2]
    by_cases g : 0 ≤ p.getD i 0
    · rw [dt g]; clear h1 h2 h; cases nx <;> cases ny <;> simp (disch := omega) only [Nat.add_eq, eqSy_self, eqN_self, bc_same, List.length_cons, ofn, wrap_in, dt, df, bltD, bltN, ble_of, bleN, beqD, bc_t, bc_f, nn_ok, Nat.zero_add, to_nat, Int.zero_add, Int.sub_zero, Int.sub_self, Int.cast_ofNat_Int, Int.natCast_zero, Int.toNat_zero, List.take_zero, List.nil_append, List.length_append, List.length_nil, decide_true, List.length_singleton, Nat.zero_add] <;> rfl
    · rw [df g]; clear h1 h2 h; simp (disch := omega) only [Nat.add_eq, eqSy_self, eqN_self, bc_same, List.length_cons, ofn, wrap_in, dt, df, bltD, bltN, ble_of, bleN, beqD, bc_t, bc_f, nn_ok, Nat.zero_add, to_nat, Int.zero_add, Int.sub_zero, Int.sub_self, Int.cast_ofNat_Int, Int.natCast_zero, Int.toNat_zero, List.take_zero, List.nil_append, List.length_append, List.length_nil, List.append_nil]; rfl
  by_cases h1 : k < (Y.length : Int)
  · rw [ofn, dt h1, bc_t] at h
    by_cases h2 : 0 ≤ a
    · have h3 : ¬ 0 ≤ b := by omega
      rw [dt h2, df h3, bc_t, bc_f] at h; exact key h rfl
    · rw [df h2, bc_f] at h; exact key h rfl
  · rw [ofn, df h1, bc_f] at h; exact key h rfl
theorem inner {n m : Int} {X P Y Q : List (List U)} {p z x y : List Int} {nx ny : Bool} {i : Nat} {o u a b : Int} {v : EV} (hi : i < p.length) (hi2 : i ≤ 20000) (hY : Y.length ≤ 20000) (hz : z.length = Y.length) (hx : x.length ≤ i) (hy : y.length ≤ i) (ha : 0 ≤ a) (hb : 0 ≤ b) : ∀ (f k : Nat) (c : Int), k + f = Y.length → EndZ 73 ctRC false (stOf (sO n m X P Y Q (p.set i (matI Y z o u a b f k c)) z (x ++ bc (decide (0 ≤ matI Y z o u a b f k c)) [(i : Int)] []) (y ++ bc (decide (0 ≤ matI Y z o u a b f k c)) [matI Y z o u a b f k c] []) p.length z.length (bc (decide (0 ≤ matI Y z o u a b f k c)) true nx) (bc (decide (0 ≤ matI Y z o u a b f k c)) true ny) (i + 1 : Nat))) v [] 0 → EndZ 73 ctRC false (stOf (sI n m X P Y Q (p.set i c) z x y p.length z.length nx ny i o u a b k)) v [] 0
  | 0, k, c, h, hh => by
    have lp : (p.set i c).length = p.length := List.length_set; have gp : (p.set i c).getD i 0 = c := by
      rw [List.getD_eq_getElem?_getD, List.getElem?_set, if_pos rfl, if_pos hi]; rfl
    have h1 := fin (n := n) (m := m) (X := X) (P := P) (Y := Y) (Q := Q) (p := p.set i c) (z := z) (x := x) (y := y) (e := z.length) (nx := nx) (ny := ny) (i := i) (o := o) (u := u) (a := a) (b := b) (k := k) (by omega) hi2 hx hy (.inl (by omega)); rw [lp, gp] at h1; exact .at ctRC_ok h1 hh
  | f + 1, k, c, h, hh => by
    have lp : (p.set i c).length = p.length := List.length_set; have h1 := i_t n m X P Y Q (p.set i c) z x y p.length z.length nx ny i o u a b k; have f2 : ∀ r : List U, U.int (List.getD r (Nat.add 0 2) (U.i 0)) = xO r := fun _ => rfl; have f3 : ∀ r : List U, U.int (List.getD r (Nat.add 0 3) (U.i 0)) = xU r := fun _ => rfl; simp only [f2, f3, to_nat, List.set_set] at h1; rw [dt ha, dt hb, bc_t, bc_t] at h1
    have ih := inner (n := n) (m := m) (X := X) (P := P) (Q := Q) (nx := nx) (ny := ny) (o := o) (u := u) (v := v) hi hi2 hY hz hx hy ha hb f (k + 1) (bc (refB Y z o u a b k) (k : Int) c) (by omega) hh; unfold refB at ih; cases g1 : (xO (Y.getD k []) == o)
    · rw [g1] at h1 ih; simp (disch := omega) only [Nat.add_eq, eqSy_self, eqN_self, bc_same, List.length_cons, ofn, wrap_in, dt, df, bltD, bltN, ble_of, bleN, beqD, bc_t, bc_f, nn_ok, Nat.zero_add, to_nat, Int.zero_add, Int.sub_zero, Int.sub_self, Int.cast_ofNat_Int, Int.natCast_zero, Int.toNat_zero, List.take_zero, List.nil_append, List.length_append, List.length_nil, decide_true] at h1; exact .at ctRC_ok h1 ih
    · rw [g1] at h1 ih; cases g2 : (xU (Y.getD k []) == u)
      · rw [g2] at h1 ih; simp (disch := omega) only [Nat.add_eq, eqSy_self, eqN_self, bc_same, List.length_cons, ofn, wrap_in, dt, df, bltD, bltN, ble_of, bleN, beqD, bc_t, bc_f, nn_ok, Nat.zero_add, to_nat, Int.zero_add, Int.sub_zero, Int.sub_self, Int.cast_ofNat_Int, Int.natCast_zero, Int.toNat_zero, List.take_zero, List.nil_append, List.length_append, List.length_nil, decide_true] at h1; exact .at ctRC_ok h1 ih
      · rw [g2] at h1 ih; cases g3 : (befI Y z o k 0 0 == a)
        · rw [g3] at h1 ih; simp (disch := omega) only [Nat.add_eq, eqSy_self, eqN_self, bc_same, List.length_cons, ofn, wrap_in, dt, df, bltD, bltN, ble_of, bleN, beqD, bc_t, bc_f, nn_ok, Nat.zero_add, to_nat, Int.zero_add, Int.sub_zero, Int.sub_self, Int.cast_ofNat_Int, Int.natCast_zero, Int.toNat_zero, List.take_zero, List.nil_append, List.length_append, List.length_nil, decide_true] at h1; exact .at ctRC_ok h1 ih
        · rw [g3] at h1 ih; cases g4 : (befI Y z u k 0 0 == b)
          · rw [g4] at h1 ih; simp (disch := omega) only [Nat.add_eq, eqSy_self, eqN_self, bc_same, List.length_cons, ofn, wrap_in, dt, df, bltD, bltN, ble_of, bleN, beqD, bc_t, bc_f, nn_ok, Nat.zero_add, to_nat, Int.zero_add, Int.sub_zero, Int.sub_self, Int.cast_ofNat_Int, Int.natCast_zero, Int.toNat_zero, List.take_zero, List.nil_append, List.length_append, List.length_nil, decide_true] at h1; exact .at ctRC_ok h1 ih
          · rw [g4] at h1 ih; simp (disch := omega) only [Nat.add_eq, eqSy_self, eqN_self, bc_same, List.length_cons, ofn, wrap_in, dt, df, bltD, bltN, ble_of, bleN, beqD, bc_t, bc_f, nn_ok, Nat.zero_add, to_nat, Int.zero_add, Int.sub_zero, Int.sub_self, Int.cast_ofNat_Int, Int.natCast_zero, Int.toNat_zero, List.take_zero, List.nil_append, List.length_append, List.length_nil, decide_true, List.length_set] at h1; exact .at ctRC_ok h1 ih
theorem loop {n m : Int} {X P Y Q : List (List U)} {z : List Int} (hX : X.length ≤ 20000) (hY : Y.length ≤ 20000) (hz : z.length = Y.length) : ∀ (f i : Nat) (p x y : List Int) (nx ny : Bool), i + f = X.length → p.length = X.length → x.length ≤ i → y.length ≤ i → EndZ 73 ctRC false (stOf (sO n m X P Y Q p z x y p.length z.length nx ny i)) (.tup [il (x ++ (refC X Y z f i p).1), il (y ++ (refC X Y z f i p).2), iv 0]) [] 0
  | 0, i, p, x, y, nx, ny, h, hp, hx, hy => by
    have h1 := o_t n m X P Y Q p z x y p.length z.length nx ny i; simp (disch := omega) only [Nat.add_eq, eqSy_self, eqN_self, bc_same, List.length_cons, ofn, wrap_in, dt, df, bltD, bltN, ble_of, bleN, beqD, bc_t, bc_f, nn_ok, Nat.zero_add, to_nat, Int.zero_add, Int.sub_zero, Int.sub_self, Int.cast_ofNat_Int, Int.natCast_zero, Int.toNat_zero, List.take_zero, List.nil_append, List.length_append, List.length_nil] at h1; show EndZ _ _ _ _ (.tup [il (x ++ []), il (y ++ []), iv 0]) _ _; rw [List.append_nil, List.append_nil]; exact .done h1
  | f + 1, i, p, x, y, nx, ny, h, hp, hx, hy => by
    have h1 := o_t n m X P Y Q p z x y p.length z.length nx ny i; have f2 : ∀ r : List U, U.int (List.getD r (Nat.add 0 2) (U.i 0)) = xO r := fun _ => rfl; have f3 : ∀ r : List U, U.int (List.getD r (Nat.add 0 3) (U.i 0)) = xU r := fun _ => rfl; simp only [f2, f3, to_nat] at h1; have be : ∀ t : Int, befI X (p.set i (-1)) t i 0 0 = befI X p t i 0 0 := fun t => befI_eq i 0 0 (fun j hj => by
      rw [List.getD_eq_getElem?_getD, List.getElem?_set, if_neg (by omega), ← List.getD_eq_getElem?_getD])
    simp only [be] at h1; simp (disch := omega) only [Nat.add_eq, eqSy_self, eqN_self, bc_same, List.length_cons, ofn, wrap_in, dt, df, bltD, bltN, ble_of, bleN, beqD, bc_t, bc_f, nn_ok, Nat.zero_add, to_nat, Int.zero_add, Int.sub_zero, Int.sub_self, Int.cast_ofNat_Int, Int.natCast_zero, Int.toNat_zero, List.take_zero, List.nil_append, List.length_append, List.length_nil, decide_true, List.length_set] at h1; refine .at ctRC_ok h1 ?_; have lp : ∀ v : Int, (p.set i v).length = p.length := fun v => List.length_set
    have next : EndZ 73 ctRC false (stOf (sO n m X P Y Q (p.set i (refV X Y z p i)) z (x ++ bc (decide (0 ≤ refV X Y z p i)) [(i : Int)] []) (y ++ bc (decide (0 ≤ refV X Y z p i)) [refV X Y z p i] []) p.length z.length (bc (decide (0 ≤ refV X Y z p i)) true nx) (bc (decide (0 ≤ refV X Y z p i)) true ny) (i + 1 : Nat))) (.tup [il (x ++ (refC X Y z (f + 1) i p).1), il (y ++ (refC X Y z (f + 1) i p).2), iv 0]) [] 0 := by
      have h2 := loop (n := n) (m := m) (P := P) (Q := Q) hX hY hz f (i + 1) (p.set i (refV X Y z p i)) (x ++ bc (decide (0 ≤ refV X Y z p i)) [(i : Int)] []) (y ++ bc (decide (0 ≤ refV X Y z p i)) [refV X Y z p i] []) (bc (decide (0 ≤ refV X Y z p i)) true nx) (bc (decide (0 ≤ refV X Y z p i)) true ny) (by omega) (by rw [lp]; exact hp) (by
        rw [List.length_append]; cases decide (0 ≤ refV X Y z p i) <;> simp [bc] <;> omega) (by
        rw [List.length_append]; cases decide (0 ≤ refV X Y z p i) <;> simp [bc] <;> omega)
      rw [lp, List.append_assoc, List.append_assoc] at h2; unfold refC; revert h2; cases decide (0 ≤ refV X Y z p i)
      · exact fun h2 => h2
      · exact fun h2 => h2
    have hip : i < p.length := by omega
    by_cases ha : 0 ≤ befI X p (xO (X.getD i [])) i 0 0
    · by_cases hb : 0 ≤ befI X p (xU (X.getD i [])) i 0 0
      · refine inner hip (by omega) hY hz hx hy ha hb Y.length 0 (-1) (by omega) ?_; have e : refV X Y z p i = matI Y z (xO (X.getD i [])) (xU (X.getD i [])) (befI X p (xO (X.getD i [])) i 0 0) (befI X p (xU (X.getD i [])) i 0 0) Y.length 0 (-1) := by
          unfold refV; rw [dt ha, dt hb, bc_t, bc_t]
        rw [e] at next
        exact next
      · have e : refV X Y z p i = -1 := by unfold refV; rw [dt ha, df hb, bc_t, bc_f]
        rw [e] at next
        have h3 := fin (n := n) (m := m) (X := X) (P := P) (Y := Y) (Q := Q) (p := p.set i (-1)) (z := z) (x := x) (y := y) (e := z.length) (nx := nx) (ny := ny) (i := i) (o := xO (X.getD i [])) (u := xU (X.getD i [])) (a := befI X p (xO (X.getD i [])) i 0 0) (b := befI X p (xU (X.getD i [])) i 0 0) (k := 0) (by rw [lp]; exact hip) (by omega) hx hy (.inr (.inr (by omega))); have gp : (p.set i (-1)).getD i 0 = -1 := by
          rw [List.getD_eq_getElem?_getD, List.getElem?_set, if_pos rfl, if_pos hip]; rfl
        rw [lp, gp] at h3; exact .at ctRC_ok h3 next
    · have e : refV X Y z p i = -1 := by unfold refV; rw [df ha, bc_f]
      rw [e] at next
      have h3 := fin (n := n) (m := m) (X := X) (P := P) (Y := Y) (Q := Q) (p := p.set i (-1)) (z := z) (x := x) (y := y) (e := z.length) (nx := nx) (ny := ny) (i := i) (o := xO (X.getD i [])) (u := xU (X.getD i [])) (a := befI X p (xO (X.getD i [])) i 0 0) (b := befI X p (xU (X.getD i [])) i 0 0) (k := 0) (by rw [lp]; exact hip) (by omega) hx hy (.inr (.inl (by omega))); have gp : (p.set i (-1)).getD i 0 = -1 := by
        rw [List.getD_eq_getElem?_getD, List.getElem?_set, if_pos rfl, if_pos hip]; rfl
      rw [lp, gp] at h3; exact .at ctRC_ok h3 next
theorem ends (n m : Int) (X P Y Q : List (List U)) : EndZ 73 ctRC false (st0 73 [clE n X P, clE m Y Q]) (.tup [il (coP n m X P Y Q).1, il (coP n m X P Y Q).2, iv (fiE n m X P Y Q)]) [] 0 := by
  have h := in_t n m X P Y Q; have err : ∀ e : Int, fiE n m X P Y Q = e → e ≠ 0 → Weak (.tup [.v (.slice none 0 0), .v (.slice none 0 0), iv e]) (.tup [il (coP n m X P Y Q).1, il (coP n m X P Y Q).2, iv (fiE n m X P Y Q)]) := fun e he h0 => by
    unfold coP; rw [he, show (e != 0) = true by simp [h0], bc_t]; exact Weak.tup (.cons (Weak.nilI _) (.cons (Weak.nilI _) (.cons (Weak.refl _) .nil)))
  by_cases z1 : chk17 n X P = 0
  · have b1 : (chk17 n X P != 0) = false := by simp [z1]
    rw [b1, bc_f] at h
    by_cases z2 : chk17 m Y Q = 0
    · have b2 : (chk17 m Y Q == 0) = true := by simp [z2]
      have b3 : (chk17 m Y Q != 0) = false := by simp [z2]
      rw [b2, b3, bc_t, bc_f] at h
      by_cases z3 : n = m
      · have b4 : (n != m) = false := by simp [z3]
        rw [b4, bc_f] at h; have hE : fiE n m X P Y Q = 0 := by unfold fiE; rw [b1, b3, b4]; rfl
        obtain ⟨c1, c2, c3, c4, c5, _⟩ := chk17_ok z1; obtain ⟨d1, d2, d3, d4, d5, _⟩ := chk17_ok z2; unfold coP; rw [hE]; subst z3; obtain ⟨n, rfl⟩ := Int.eq_ofNat_of_zero_le (show 0 ≤ n by omega); simp (disch := omega) only [Nat.add_eq, eqSy_self, eqN_self, bc_same, List.length_cons, ofn, wrap_in, dt, df, bltD, bltN, ble_of, bleN, beqD, bc_t, bc_f, nn_ok, Nat.zero_add, to_nat, Int.zero_add, Int.sub_zero, Int.sub_self, Int.cast_ofNat_Int, Int.natCast_zero, Int.toNat_zero, List.take_zero, List.nil_append, List.length_append, List.length_nil] at h
        have zl : ∀ k : Nat, (zerosL k).length = k := fun k => by unfold zerosL; simp
        have zg : ∀ (k j : Nat), 0 ≤ (zerosL k).getD j 0 := fun k j => by
          unfold zerosL; rw [List.getD_eq_getElem?_getD, List.getElem?_replicate]; split <;> simp
        have h2 := loop (n := n) (m := n) (P := P) (Q := Q) c3 d3 (zl Y.length) X.length 0 (zerosL X.length) [] [] false false (by omega) (zl _) (Nat.le_refl _) (Nat.le_refl _); rw [refC_com (chk17_two z1) (chk17_two z2) c5 d5 (zg _) X.length 0 (zerosL X.length) (zerosL n) (by omega) (zl _) (zl _) (fun t ht => by
          unfold zerosL; rw [List.getD_eq_getElem?_getD, List.getElem?_replicate, if_pos ht]; rfl)] at h2
        exact .at ctRC_ok h h2
      · have b4 : (n != m) = true := by simp [z3]
        rw [b4, bc_t] at h; exact (EndZ.done h).weak (err 2 (by unfold fiE; rw [b1, b3, b4]; rfl) (by decide))
    · have b2 : (chk17 m Y Q == 0) = false := by simp [z2]
      have b3 : (chk17 m Y Q != 0) = true := by simp [z2]
      rw [b2, b3, bc_f, bc_t] at h; exact (EndZ.done h).weak (err _ (by unfold fiE; rw [b1, b3]; rfl) z2)
  · have b1 : (chk17 n X P != 0) = true := by simp [z1]
    have b2 : (chk17 n X P == 0) = false := by simp [z1]
    rw [b1, b2, bc_t, bc_f, bc_t] at h; exact (EndZ.done h).weak (err _ (by unfold fiE; rw [b1]; rfl) z1)
end RCom
noncomputable def spRCom : ZCT := fun ax => match ax with
  | [.agg [.v (.int .i64 n), .lst (.recs [.int .i64, .int .i64, .int .i64, .int .i64] X), .lst (.recs [.int .i64, .int .i64, .int .i64, .int .i64] P)], .agg [.v (.int .i64 m), .lst (.recs [.int .i64, .int .i64, .int .i64, .int .i64] Y), .lst (.recs [.int .i64, .int .i64, .int .i64, .int .i64] Q)]] => some ⟨decide (True), .tup [il (coP n m X P Y Q).1, il (coP n m X P Y Q).2, iv (fiE n m X P Y Q)], [], 0⟩
  | _ => none
theorem spRCom_ok : ZCtOk Try.prog 73 spRCom := fun γ w us ax r hs hc hax hN hfz => by
  unfold spRCom at hs; split at hs
  case h_2 => cases hs
  rename_i n X P m Y Q; obtain ⟨rfl⟩ := Option.some.inj hs; have hc_0 : decide (True) = true := hc; have hc := of_decide_eq_true hc_0; exact EndZ.calls (RCom.ends n m X P Y Q) ctRC_ok (by kernel_rfl) hax hN hfz
noncomputable def ctRD : Tr ZCC := (Tr.nil.put 73 (some (dC spRCom))).put 144 (some (dC spOth))
theorem ctRD_ok : ZCtsOk Try.prog ctRD := ((ZCtsOk.nil _).add rfl spRCom_ok).add rfl spOth_ok
namespace RDif
noncomputable def RUN (s : ES) : ZF := RZ 76 ctRD (fun _ => false) [] [] false s
theorem in_t (n m : Int) (X P Y Q : List (List U)) : RUN (st0 76 [clE n X P, clE m Y Q]) = (bc (fiE n m X P Y Q != (0 : Int)) (.done (EV.tup [(EV.v (Value.slice Option.none 0 0)), (EV.v (Value.slice Option.none 0 0)), (EV.v (Value.int IntKind.i64 (fiE n m X P Y Q)))]) [] 0) (bc (bc (bc (decide ((0 : Int) ≤ Int.ofNat (List.length X) ∧ Int.ofNat (List.length X) ≤ (50000 : Int) ∧ List.length (Prod.fst (coP n m X P Y Q)) ≤ (50000 : Nat))) (bc (decide ((0 : Int) ≤ Int.ofNat (List.length Y) ∧ Int.ofNat (List.length Y) ≤ (50000 : Int) ∧ List.length (Prod.snd (coP n m X P Y Q)) ≤ (50000 : Nat))) true false) false) (bc (bc (bc (eqSy (SyC.recs shX Y) (SyC.recs shX Y)) true false) true false) true false) false) (.done (EV.tup [(EV.lst (SyC.ints IntKind.i64 (othF (Prod.fst (coP n m X P Y Q)) (0 : Nat) (Int.toNat (Int.ofNat (List.length X)))))), (EV.lst (SyC.ints IntKind.i64 (othF (Prod.snd (coP n m X P Y Q)) (0 : Nat) (Int.toNat (Int.ofNat (List.length Y)))))), (EV.v (Value.int IntKind.i64 (0)))]) [] 0) .bad)) := by kernel_rfl
end RDif
end Go.Proofs.Ytonbfalbfdkieaa.Ev
namespace Go.Proofs.Ytonbfalbfdkieaa.Ev
open Go.Proofs Go.RowKit Go.Sort
theorem srt_len (l : List Int) : (srt l).length = l.length := (srt_perm l).length_eq
theorem ints_enc (k : IntKind) (l : List Int) : (SyC.ints k l).enc = l.map fun x => EV.v (.int k x) := rfl

theorem HR.putInts {γ : G} {w0 : Bs} {H : Tr EK} {n : Nat} {w : World} (h : HR γ w0 H n w) {i : Nat} (hi : Nat.ble i 65535 = true) {ty : TypeId} {k : IntKind} {l l' : List Int} {nn : Bool} (hg : H.get i = some (.seq ty (.ints k l) nn)) {b : Pl} {m : Nat} (hγ : γ i = some (b, m)) (hl : l'.length = l.length) (hn : ¬ (EK.seq ty (.ints k l) nn).Nil) (q : Nat) :
    HR γ w0 (H.put i (some (.seq ty (.ints k l') nn))) n (Go.Sort.putRow (Value.int k) (Go.Sort.ahead w q) b.k b.s l'.toArray) := by
  obtain ⟨b2, m2, e1, e2, ca, ⟨fz, e3, e3'⟩, e4, e5, e6⟩ := h.hp i _ hg hn; rw [hγ] at e1; simp only [Option.some.injEq, Prod.mk.injEq] at e1; obtain ⟨rfl, rfl⟩ := e1; have hw : ∀ c, (Go.Sort.putRow (Value.int k) (Go.Sort.ahead w q) b.k b.s l'.toArray).heap[c]? = if b.k = c then some (.cells (Go.Sort.putCells (Value.int k) b.s l'.toArray ca) ty fz) else w.heap[c]? := fun c => by
    unfold Go.Sort.putRow Go.Sort.mapBlock; show (w.heap.modify b.k _)[c]? = _; rw [Array.getElem?_modify]
    by_cases hc : b.k = c
    · subst hc; rw [if_pos rfl, if_pos rfl, e3]; rfl
    · rw [if_neg hc, if_neg hc]
  have hsz : (Go.Sort.putRow (Value.int k) (Go.Sort.ahead w q) b.k b.s l'.toArray).heap.size = w.heap.size := by
    unfold Go.Sort.putRow Go.Sort.mapBlock; show (w.heap.modify b.k _).size = _; simp [Go.Sort.ahead]
  have hcs : (Go.Sort.putCells (Value.int k) b.s l'.toArray ca).size = ca.size := by unfold Go.Sort.putCells; simp
  have hle : (SyC.ints k l').enc.length = (SyC.ints k l).enc.length := by rw [ints_enc, ints_enc, List.length_map, List.length_map, hl]
  refine h.turn hi hg hγ _ (fun c hc => by rw [hw, if_neg (fun e => hc e.symm)]) hsz rfl rfl rfl ?_ hn; refine ⟨_, ⟨fz, by rw [hw, if_pos rfl], e3'.imp id fun e => by rw [hcs]; exact e⟩, by rw [hcs]; exact e4, by rw [hle]; exact e5, ?_, ?_⟩
  · have hcl : (Go.Sort.putCells (Value.int k) b.s l'.toArray ca).toList.length = ca.size := (Array.length_toList).trans hcs; rw [List.length_take, List.length_drop, hcl, hle]; omega
  · intro j a x ha hx; rw [ints_enc, List.getElem?_map] at ha; have hj : j < l'.length := by
      rcases Nat.lt_or_ge j l'.length with hj | hj
      · exact hj
      · rw [List.getElem?_eq_none hj] at ha; cases ha
    rw [List.getElem?_eq_getElem hj] at ha; injection ha with ha
    subst ha; rw [List.getElem?_take, if_pos (by rw [ints_enc, List.length_map]; exact hj), List.getElem?_drop, Array.getElem?_toList] at hx; unfold Go.Sort.putCells at hx; rw [Array.getElem?_mapIdx] at hx; have hlt : b.s + j < ca.size := by
      rw [ints_enc, List.length_map] at e5; omega
    rw [Array.getElem?_eq_getElem hlt] at hx; simp only [Option.map_some, Option.some.injEq] at hx; rw [if_pos ⟨by omega, by simp; omega⟩] at hx; have : l'.toArray[b.s + j - b.s]! = l'[j] := by
      rw [show b.s + j - b.s = j by omega]; simp [hj]
    rw [this] at hx; subst hx; exact .v _
noncomputable def spSort : ZMT := fun ax K0 m => match ax, K0 with
  | [.slO 0 1 len nn], [(0, .seq ty (.ints .i64 l) nn')] => bc (Nat.beq m 1) (some ⟨bc (Nat.beq len l.length) (bc (Nat.ble len 65536) (bc nn nn' true) false) false, .tup [], [(0, .seq ty (.ints .i64 (srt l)) nn')], 1, 1⟩) none
  | _, _ => none
theorem spSort_ok : ZMtOk Try.prog 189 spSort := fun γ w0 w us ax K0 m r hs hc hres hax hH => by
  unfold spSort at hs; split at hs
  case h_2 => cases hs
  rename_i len nn ty l nn'; obtain ⟨hm, rfl⟩ := noN hs; have hm := Nat.eq_of_beq_eq_true hm; subst hm; obtain ⟨hc1, hc2⟩ := bcT (show bc (Nat.beq len l.length) (bc (Nat.ble len 65536) (bc nn nn' true) false) false = true from hc)
  obtain ⟨hc2, hc3⟩ := bcT hc2; have hc1 := Nat.eq_of_beq_eq_true hc1; have hc2 := Nat.le_of_ble_eq_true hc2; subst hc1; obtain ⟨x, r1, e1, hx, hcr⟩ := ECL.inv hax; have e3 : r1 = [] := by apply List.eq_nil_of_length_eq_zero; have := hcr.1; simpa using this.symm
  subst e3; have eu : us = #[x] := by apply Array.ext'; simpa using e1
  rw [eu]; have hg : (mkT [(0, EK.seq ty (.ints .i64 l) nn')]).get 0 = some (.seq ty (.ints .i64 l) nn') := rfl
  cases hx with
  | slO _ _ _ _ _ hx =>
  cases nn with
  | false =>
    obtain ⟨rfl, hl⟩ := hx.1 rfl; have hl : l = [] := List.eq_nil_of_length_eq_zero hl; subst hl; refine (Try.slices_Sort_int_none none 0 w).mono ?_
    rintro e w' ⟨rfl, rfl⟩
    exact ⟨γ, _, rfl, .tup [] [] rfl (fun j a x h => by simp at h), by rw [show srt [] = [] from List.eq_nil_of_length_eq_zero (by rw [srt_len]; rfl)]; exact hH, fun j p _ h => h⟩
  | true =>
    obtain ⟨b, mm, c, g1, rfl, g2, g3, g4⟩ := hx.2 rfl; have hnn : nn' = true := hc3; subst hnn; have hn : ¬ (EK.seq ty (.ints .i64 l) true).Nil := fun e => by cases e.1
    obtain ⟨b2, m2, q1, q2, ca, q3, q4, q5, q6⟩ := hH.hp 0 _ hg hn; rw [g1] at q1; simp only [Option.some.injEq, Prod.mk.injEq] at q1; obtain ⟨rfl, rfl⟩ := q1; have hholds : Go.Sort.Holds (Value.int .i64) w b.k b.s l.toArray := fun j hj => by
      have hj : j < l.length := by simpa using hj
      obtain ⟨c1, c2⟩ := cell_of (off := j) q3; have hlt : b.s + j < ca.size := by rw [ints_enc, List.length_map] at q5; omega
      refine ⟨?_, c2 hlt⟩; rw [show (⟨b.k, b.s + j, none⟩ : Addr) = b.at j from rfl, c1, Array.getElem?_eq_getElem hlt]
      have h1 := q6.2 j (.v (.int .i64 l[j])) ca[b.s + j] (by rw [ints_enc, List.getElem?_map, List.getElem?_eq_getElem hj]; rfl) (by
        rw [List.getElem?_take, if_pos (by rw [ints_enc, List.length_map]; exact hj), List.getElem?_drop, Array.getElem?_toList, Array.getElem?_eq_getElem hlt])
      rw [ec_v h1]; simp [hj]
    have hblk := hH.lt 0 _ g1; refine (Try.slices_Sort_int b.k b.s c l w hholds hblk (by omega)).mono ?_
    rintro e w' ⟨rfl, q, os, rfl⟩
    have h1 := hH.putInts (l' := srt l) rfl hg g1 (srt_len l) hn q; have hsz : (Go.Sort.putRow (Value.int .i64) (Go.Sort.ahead w q) b.k b.s (srt l).toArray).heap.size = w.heap.size := by
      unfold Go.Sort.putRow Go.Sort.mapBlock; show (w.heap.modify b.k _).size = _; simp [Go.Sort.ahead]
    have hb : Below (Go.Sort.putRow (Value.int .i64) (Go.Sort.ahead w q) b.k b.s (srt l).toArray).heap.size (Go.Sort.putRow (Value.int .i64) (Go.Sort.ahead w q) b.k b.s (srt l).toArray) (Go.Sort.grow (Go.Sort.putRow (Value.int .i64) (Go.Sort.ahead w q) b.k b.s (srt l).toArray) os) :=
      ⟨rfl, rfl, rfl, by rw [Go.Sort.size_grow]; omega, fun k hk => Go.Sort.heap_grow_old _ _ hk⟩
    refine ⟨γ, _, rfl, .tup [] [] rfl (fun j a x h => by simp at h), ?_, fun j p _ h => h⟩; refine (h1.below hb).congr fun j k hj => ?_; rw [Tr.get_put (by rfl)]
    by_cases hj0 : j = 0
    · subst hj0; rw [if_pos rfl]; exact hj
    · rw [if_neg hj0]; have := mkT_get hj; simp at this; exact absurd this.1 hj0
end Go.Proofs.Ytonbfalbfdkieaa.Ev
namespace Go.Proofs
open Go.Shelf
def Try.laysNm220_ren : Go.Shelf.Ren := ⟨fun | 20 => 190 | n => n, fun | 22 => 34 | 3 => 3 | 4 => 4 | 0 => 0 | n => n, fun | n => n⟩
theorem Try.laysNm220 : Go.Proofs.Lays2.n20 Try.prog Try.laysNm220_ren := {
  mixed := by kernel_rfl
  f20 := Try.func190.trans (congrArg some (by kernel_rfl))
  t0 := Try.underlying0
  a0 := Try.isAgg0
  z0 := Try.sizeOf0
  v0 := Try.zeroValue0
  t3 := Try.underlying3
  a3 := Try.isAgg3
  z3 := Try.sizeOf3
  v3 := Try.zeroValue3
  t4 := Try.underlying4
  a4 := Try.isAgg4
  z4 := Try.sizeOf4
  v4 := Try.zeroValue4
  t22 := Try.underlying34
  a22 := Try.isAgg34
  z22 := Try.sizeOf34
  v22 := Try.zeroValue34
  i3 := by kernel_rfl }
open Go.RowKit Go.Lib Go.Sort in
theorem Try.slices_Compact_int (blk off cap : Nat) (zs : List Int) (w : World) (hH : Holds (Value.int .i64) w blk off zs.toArray) (hsz : zs.length ≤ 9223372036854775807) (hcap : zs.length ≤ cap) :
    Calls Try.prog 190 #[.slice (some ⟨blk, off, none⟩) zs.length cap] w fun e w' => e = .returned (.slice (some ⟨blk, off, none⟩) (Lib.compact zs).length cap) ∧ ∃ q, w' = putRow (Value.int .i64) (Sort.ahead w q) blk off (Lib.compact zs ++ List.replicate (zs.length - (Lib.compact zs).length) 0).toArray := Any.slices_Compact_int Try.laysNm220 blk off cap zs w hH hsz hcap
open Go.RowKit Go.Lib Go.Sort in
theorem Try.slices_Compact_int_empty (a : Option Addr) (cap : Nat) (w : World) :
    Calls Try.prog 190 #[.slice a 0 cap] w fun e w' => e = .returned (.slice a 0 cap) ∧ w' = w := Any.slices_Compact_int_empty Try.laysNm220 a cap w
end Go.Proofs
namespace Go.Proofs.Ytonbfalbfdkieaa.Ev
open Go.Proofs Go.RowKit Go.Sort
noncomputable def cmpt (l : List Int) : List Int := Go.Lib.compact l
theorem cmpt_le (l : List Int) : (cmpt l).length ≤ l.length := by
  unfold cmpt Go.Lib.compact Go.Lib.compactUpTo; rw [List.length_map]; exact Nat.le_trans (List.length_filter_le _ _) (by rw [List.length_range]; exact Nat.le_refl _)
theorem cmpt_nil : cmpt [] = [] := rfl

theorem cmpt_srt {l : List Int} (h : l.Pairwise (· ≤ ·)) : (cmpt l).Pairwise (· < ·) ∧ ∀ a, a ∈ cmpt l ↔ a ∈ l := by
  have hle : ∀ i j : Nat, i ≤ j → j < l.length → l.toArray[i]! ≤ l.toArray[j]! := fun i j hij hj => by
    have hi : i < l.length := by omega
    rw [getElem!_pos l.toArray i (by simpa using hi), getElem!_pos l.toArray j (by simpa using hj)]; rcases Nat.lt_or_ge i j with h2 | h2
    · exact (List.pairwise_iff_getElem.1 h) i j hi hj h2
    · have : i = j := by omega
      subst this; exact Int.le_refl _
  have key : ∀ m : Nat, m ≤ l.length → (Go.Lib.compactUpTo l.toArray m).Pairwise (· < ·) ∧ (∀ a, a ∈ Go.Lib.compactUpTo l.toArray m ↔ ∃ j, j < m ∧ l.toArray[j]! = a) := by
    intro m
    induction m with
    | zero =>
      intro _; exact ⟨List.Pairwise.nil, fun a => ⟨fun h => (by cases h), fun ⟨j, h, _⟩ => (by omega)⟩⟩
    | succ m ih =>
      intro hm; obtain ⟨i1, i2⟩ := ih (by omega); rw [Go.Lib.compactUpTo_succ]
      by_cases hk : Go.Lib.keeps l.toArray m = true
      · rw [if_pos hk]; refine ⟨List.pairwise_append.2 ⟨i1, List.pairwise_singleton _ _, fun a ha b hb => ?_⟩, fun a => ?_⟩
        · rw [List.mem_singleton] at hb; subst hb; obtain ⟨j, j1, j2⟩ := (i2 a).1 ha; subst j2; have hk2 : m = 0 ∨ l.toArray[m]! ≠ l.toArray[m - 1]! := of_decide_eq_true hk; have hne : l.toArray[m]! ≠ l.toArray[m - 1]! := hk2.resolve_left (by omega); have h1 := hle j (m - 1) (by omega) (by omega); have h2 := hle (m - 1) m (by omega) (by omega); omega
        · rw [List.mem_append, i2, List.mem_singleton]; constructor
          · rintro (⟨j, j1, j2⟩ | rfl)
            · exact ⟨j, by omega, j2⟩
            · exact ⟨m, by omega, rfl⟩
          · rintro ⟨j, j1, j2⟩
            by_cases e : j = m
            · subst e; exact .inr j2.symm
            · exact .inl ⟨j, by omega, j2⟩
      · rw [if_neg hk, List.append_nil]; refine ⟨i1, fun a => ?_⟩; rw [i2]; have hk2 : ¬ (m = 0 ∨ l.toArray[m]! ≠ l.toArray[m - 1]!) := fun e => hk (decide_eq_true e); have hm0 : m ≠ 0 := fun e => hk2 (.inl e); have he : l.toArray[m]! = l.toArray[m - 1]! := Classical.byContradiction fun e => hk2 (.inr e); constructor
        · rintro ⟨j, j1, j2⟩; exact ⟨j, by omega, j2⟩
        · rintro ⟨j, j1, j2⟩
          by_cases e : j = m
          · subst e; exact ⟨j - 1, by omega, by rw [← he]; exact j2⟩
          · exact ⟨j, by omega, j2⟩
  obtain ⟨k1, k2⟩ := key l.length (Nat.le_refl _); refine ⟨k1, fun a => (k2 a).trans ?_⟩; constructor
  · rintro ⟨j, j1, rfl⟩
    rw [getElem!_pos l.toArray j (by simpa using j1)]; exact List.getElem_mem j1
  · intro ha; obtain ⟨j, j1, rfl⟩ := List.getElem_of_mem ha; exact ⟨j, j1, by rw [getElem!_pos l.toArray j (by simpa using j1)]; rfl⟩
noncomputable def spCmp : ZMT := fun ax K0 m => match ax, K0 with
  | [.slO 0 1 len nn], [(0, .seq ty (.ints .i64 l) nn')] => bc (Nat.beq m 1) (some ⟨bc (Nat.beq len l.length) (bc (Nat.ble len 65536) (eqN nn nn') false) false, .slO 0 1 (cmpt l).length nn', [(0, .seq ty (.ints .i64 (cmpt l)) nn')], 1, 1⟩) none
  | _, _ => none
theorem spCmp_ok : ZMtOk Try.prog 190 spCmp := fun γ w0 w us ax K0 m r hs hc hres hax hH => by
  unfold spCmp at hs; split at hs
  case h_2 => cases hs
  rename_i len nn ty l nn'; obtain ⟨hm, rfl⟩ := noN hs; have hm := Nat.eq_of_beq_eq_true hm; subst hm; obtain ⟨hc1, hc2⟩ := bcT (show bc (Nat.beq len l.length) (bc (Nat.ble len 65536) (eqN nn nn') false) false = true from hc)
  obtain ⟨hc2, hc3⟩ := bcT hc2; have hc1 := Nat.eq_of_beq_eq_true hc1; have hc2 := Nat.le_of_ble_eq_true hc2; have hc3 := eqN_ok hc3; subst hc1; subst hc3; obtain ⟨x, r1, e1, hx, hcr⟩ := ECL.inv hax; have e3 : r1 = [] := by apply List.eq_nil_of_length_eq_zero; have := hcr.1; simpa using this.symm
  subst e3; have eu : us = #[x] := by apply Array.ext'; simpa using e1
  rw [eu]; have hg : (mkT [(0, EK.seq ty (.ints .i64 l) nn)]).get 0 = some (.seq ty (.ints .i64 l) nn) := rfl; have stay : l = [] → EC γ (.slO 0 1 (cmpt l).length nn) x ∧ HR γ w0 (mkT [(0, EK.seq ty (.ints .i64 (cmpt l)) nn)]) 1 w := fun h => by
    subst h; rw [cmpt_nil]; exact ⟨hx, hH⟩
  have hx0 := hx
  cases hx with
  | slO _ _ _ _ _ hx =>
  cases hnn : nn with
  | false =>
    subst hnn; obtain ⟨rfl, hl⟩ := hx.1 rfl; have hl : l = [] := List.eq_nil_of_length_eq_zero hl; obtain ⟨s1, s2⟩ := stay hl; refine (Try.slices_Compact_int_empty none 0 w).mono ?_
    rintro e w' ⟨rfl, rfl⟩
    exact ⟨γ, _, rfl, s1, s2, fun j p _ h => h⟩
  | true =>
    subst hnn; obtain ⟨b, mm, c, g1, rfl, g2, g3, g4⟩ := hx.2 rfl; have hn : ¬ (EK.seq ty (.ints .i64 l) true).Nil := fun e => by cases e.1
    obtain ⟨b2, m2, q1, q2, ca, q3, q4, q5, q6⟩ := hH.hp 0 _ hg hn; rw [g1] at q1; simp only [Option.some.injEq, Prod.mk.injEq] at q1; obtain ⟨rfl, rfl⟩ := q1; have hholds : Go.Sort.Holds (Value.int .i64) w b.k b.s l.toArray := fun j hj => by
      have hj : j < l.length := by simpa using hj
      obtain ⟨c1, c2⟩ := cell_of (off := j) q3; have hlt : b.s + j < ca.size := by rw [ints_enc, List.length_map] at q5; omega
      refine ⟨?_, c2 hlt⟩; rw [show (⟨b.k, b.s + j, none⟩ : Addr) = b.at j from rfl, c1, Array.getElem?_eq_getElem hlt]
      have h1 := q6.2 j (.v (.int .i64 l[j])) ca[b.s + j] (by rw [ints_enc, List.getElem?_map, List.getElem?_eq_getElem hj]; rfl) (by
        rw [List.getElem?_take, if_pos (by rw [ints_enc, List.length_map]; exact hj), List.getElem?_drop, Array.getElem?_toList, Array.getElem?_eq_getElem hlt])
      rw [ec_v h1]; simp [hj]
    refine (Try.slices_Compact_int b.k b.s c l w hholds (by omega) g2).mono ?_
    rintro e w' ⟨rfl, q, rfl⟩
    have hle := cmpt_le l; have h1 := hH.putInts (l' := Go.Lib.compact l ++ List.replicate (l.length - (Go.Lib.compact l).length) 0) rfl hg g1 (by
      have : (Go.Lib.compact l).length ≤ l.length := hle; rw [List.length_append, List.length_replicate]; omega) hn q
    refine ⟨γ, _, rfl, .slO 0 1 _ true _ ⟨fun e => (by cases e), fun _ => ⟨b, mm, c, g1, rfl, ?_, g3, g4⟩⟩, ?_, fun j p _ h => h⟩
    · have : (Go.Lib.compact l).length ≤ l.length := hle; show (cmpt l).length ≤ c; omega
    · have h2 := h1.recast (i := 0) (by rfl) (k := .seq ty (.ints .i64 (cmpt l)) true) (by rw [Tr.get_put (by rfl), if_pos rfl]) (fun e => by cases e.1) fun b m hk => by
        obtain ⟨c', z1, z2, z3, z4⟩ := hk; refine ⟨c', z1, z2, ?_, ?_⟩
        · rw [ints_enc, List.length_map] at z3 ⊢; rw [List.length_append] at z3; have : (cmpt l).length = (Go.Lib.compact l).length := rfl; omega
        · rw [ints_enc] at z4 ⊢; rw [List.map_append] at z4; rw [List.length_append, List.length_map, List.length_map] at z4; rw [List.length_map]; refine ⟨by
            have h9 := z4.1; rw [List.length_append, List.length_map, List.length_map, List.length_take, List.length_drop] at h9; have : (cmpt l).length = (Go.Lib.compact l).length := rfl; rw [List.length_map, List.length_take, List.length_drop]; omega, fun j a y ha hy => ?_⟩
          have hj : j < (cmpt l).length := by
            rcases Nat.lt_or_ge j (cmpt l).length with hj | hj
            · exact hj
            · rw [List.getElem?_eq_none (by rw [List.length_map]; exact hj)] at ha; cases ha
          refine z4.2 j a y (by rw [List.getElem?_append_left (by rw [List.length_map]; exact hj)]; exact ha) ?_; rw [List.getElem?_take] at hy ⊢; rw [if_pos hj] at hy; rw [if_pos (by have : (cmpt l).length = (Go.Lib.compact l).length := rfl; omega)]; exact hy
      refine h2.congr fun j k hj => ?_; rw [Tr.get_put (by rfl)]
      by_cases hj0 : j = 0
      · subst hj0; rw [if_pos rfl]; exact hj
      · have := mkT_get hj; simp at this; exact absurd this.1 hj0
end Go.Proofs.Ytonbfalbfdkieaa.Ev
namespace Go.Proofs.Ytonbfalbfdkieaa.Ev
open Go.Proofs Go.RowKit Go.Sort
noncomputable def spSort0 : ZMT := fun ax K0 m => match ax, K0 with
  | [.slO 0 1 len nn], [(0, .seq ty (.ints .i64 l) nn')] => bc (Nat.beq m 1) (some ⟨bc nn false (bc nn' false (Nat.beq l.length 0)), .tup [], [(0, .seq ty (.ints .i64 l) nn')], 1, 0⟩) none
  | _, _ => none
theorem spSort0_ok : ZMtOk Try.prog 189 spSort0 := fun γ w0 w us ax K0 m r hs hc hres hax hH => by
  unfold spSort0 at hs; split at hs
  case h_2 => cases hs
  rename_i len nn ty l nn'; obtain ⟨hm, rfl⟩ := noN hs; have hm := Nat.eq_of_beq_eq_true hm; subst hm; have hc : bc nn false (bc nn' false (Nat.beq l.length 0)) = true := hc
  cases nn with
  | true => cases hc
  | false =>
  cases nn' with
  | true => cases hc
  | false =>
  obtain ⟨x, r1, e1, hx, hcr⟩ := ECL.inv hax; have e3 : r1 = [] := by apply List.eq_nil_of_length_eq_zero; have := hcr.1; simpa using this.symm
  subst e3; have eu : us = #[x] := by apply Array.ext'; simpa using e1
  rw [eu]
  cases hx with
  | slO _ _ _ _ _ hx =>
  obtain ⟨rfl, hl⟩ := hx.1 rfl; refine (Try.slices_Sort_int_none none 0 w).mono ?_
  rintro e w' ⟨rfl, rfl⟩
  exact ⟨γ, _, rfl, .tup [] [] rfl (fun j a x h => by simp at h), hH, fun j p h _ => by omega⟩
noncomputable def spCmp0 : ZMT := fun ax K0 m => match ax, K0 with
  | [.slO _ 1 _ nn], [] => some ⟨bc nn false true, .v (.slice none 0 0), [], m, 0⟩
  | _, _ => none
theorem spCmp0_ok : ZMtOk Try.prog 190 spCmp0 := fun γ w0 w us ax K0 m r hs hc hres hax hH => by
  unfold spCmp0 at hs; split at hs
  case h_2 => cases hs
  rename_i i len nn; injection hs with hs; subst hs
  have hc : bc nn false true = true := hc
  cases nn with
  | true => cases hc
  | false =>
  obtain ⟨x, r1, e1, hx, hcr⟩ := ECL.inv hax; have e3 : r1 = [] := by apply List.eq_nil_of_length_eq_zero; have := hcr.1; simpa using this.symm
  subst e3; have eu : us = #[x] := by apply Array.ext'; simpa using e1
  rw [eu]
  cases hx with
  | slO _ _ _ _ _ hx =>
  obtain ⟨rfl, hl⟩ := hx.1 rfl; refine (Try.slices_Compact_int_empty none 0 w).mono ?_
  rintro e w' ⟨rfl, rfl⟩
  exact ⟨γ, _, rfl, .v _, hH, fun j p h _ => by omega⟩
end Go.Proofs.Ytonbfalbfdkieaa.Ev
namespace Go.Proofs.Ytonbfalbfdkieaa.Ev
open Go.Proofs
noncomputable def ctWk : Tr ZCC := (Tr.nil.put 189 (some (mC spSort))).put 190 (some (mC spCmp))
theorem ctWk_ok : ZCtsOk Try.prog ctWk := ((ZCtsOk.nil _).addM rfl spSort_ok).addM rfl spCmp_ok
noncomputable def ctWk0 : Tr ZCC := (Tr.nil.put 189 (some (mC spSort0))).put 190 (some (mC spCmp0))
theorem ctWk0_ok : ZCtsOk Try.prog ctWk0 := ((ZCtsOk.nil _).addM rfl spSort0_ok).addM rfl spCmp0_ok
namespace PWrk
noncomputable def RUN (s : ES) : ZF := RZ 145 ctWk (atS 0 145 3) [] [[(2,none),(5,some (1, 3, .ints .i64 [])),(8,none),(9,none),(10,none)]] false s

noncomputable def sL (n : Int) (X P : List (List U)) (l q : List Int) (nn : Bool) (z i : Int) : NS := ⟨[⟨145, 28, [(2, (EV.ptr 0 0)), (5, EV.slO 1 1 q.length nn), (8, (EV.lst (SyC.ints IntKind.i64 (l)))), (9, iv z), (10, iv i)], [.it (.code (nav [1, 1, 0, 1, 0, 0] (bodyOf Try.f145))), .it (.inLoop (nav [1, 1, 0, 1, 0, 0] (bodyOf Try.f145))), .it (.inBlock 0), .it (.code (nav [1, 1, 1] (bodyOf Try.f145)))], [], Option.none⟩], [(0, (EK.cells 25 [(EV.v (Value.int IntKind.i64 (n))), (EV.lst (SyC.recs [(Sh.int IntKind.i64), (Sh.int IntKind.i64), (Sh.int IntKind.i64), (Sh.int IntKind.i64)] (X))), (EV.lst (SyC.recs [(Sh.int IntKind.i64), (Sh.int IntKind.i64), (Sh.int IntKind.i64), (Sh.int IntKind.i64)] (P)))] true)), (1, EK.seq 3 (.ints .i64 q) nn)], 2⟩
theorem in_t (n : Int) (X P : List (List U)) (l : List Int) : RUN (st0 145 [clE n X P, il l]) = (.at (sL (n) (X) (P) (l) ([]) (false) (Int.ofNat (List.length l)) ((0 : Int)))) := by kernel_rfl
theorem step_t (n : Int) (X P : List (List U)) (l q : List Int) (nn : Bool) (z i : Int) : RUN (stOf (sL n X P l q nn z i)) = (bc (decide (i < z)) (bc (bc (bc (decide ((0 : Int) ≤ i)) (Nat.blt (Int.toNat i) (List.length l)) false) true false) (bc (bc (Nat.blt (Int.toNat i) (List.length l)) true false) (bc (bc (bc (decide ((0 : Int) ≤ List.getD l (Int.toNat i) (0 : Int))) (Nat.blt (Int.toNat (List.getD l (Int.toNat i) (0 : Int))) (List.length X)) false) true false) (bc (bc (Nat.blt (Int.toNat (List.getD l (Int.toNat i) (0 : Int))) (List.length X)) true false) (bc (bc (Nat.beq (List.length q) (List.length q)) (bc (Nat.ble (List.length q + List.length (List.map (fun r => U.int (List.headD r (U.i (0 : Int)))) [[U.i (U.int (List.getD (List.getD X (Int.toNat (List.getD l (Int.toNat i) (0 : Int))) []) (Nat.add (0 : Nat) (0 : Nat)) (U.i (0 : Int))))]])) (65536 : Nat)) (bc nn true (bc nn false true)) false) false) (.at (sL (n) (X) (P) (l) (q ++ List.map (fun r => U.int (List.headD r (U.i (0 : Int)))) [[U.i (U.int (List.getD (List.getD X (Int.toNat (List.getD l (Int.toNat i) (0 : Int))) []) (Nat.add (0 : Nat) (0 : Nat)) (U.i (0 : Int))))]]) (bc nn true (Nat.blt (0 : Nat) (List.length (List.map (fun r => U.int (List.headD r (U.i (0 : Int)))) [[U.i (U.int (List.getD (List.getD X (Int.toNat (List.getD l (Int.toNat i) (0 : Int))) []) (Nat.add (0 : Nat) (0 : Nat)) (U.i (0 : Int))))]])))) (z) (IntKind.wrap IntKind.i64 (i + (1 : Int))))) .bad) .bad) .bad) .bad) .bad) (bc (bc (bc (Nat.beq (List.length q) (List.length q)) (bc (Nat.ble (List.length q) (65536 : Nat)) (bc nn nn true) false) false) (bc nn true false) false) (bc (bc (bc (Nat.beq (List.length q) (List.length (srt q))) (bc (Nat.ble (List.length q) (65536 : Nat)) (eqN nn nn) false) false) (bc nn true false) false) (bc (Nat.beq (List.length (cmpt (srt q))) (List.length (cmpt (srt q)))) (.done (EV.lst (SyC.ints IntKind.i64 (cmpt (srt q)))) [] 0) .bad) .bad) .bad)) := by kernel_rfl
theorem nil_t (n : Int) (X P : List (List U)) (l : List Int) : RZ 145 ctWk0 (fun _ => false) [] [] false (stOf (sL n X P l [] false 0 0)) = (.done (EV.v (Value.slice Option.none 0 0)) [] 0) := by kernel_rfl
end PWrk
namespace RWrk
noncomputable def RUN (s : ES) : ZF := RZs 146 .nil [(atS 0 146 2, [[(1,none),(2,none),(5,some (1, 3, .ints .i64 []))]]), (atS 0 146 4, [[(1,none),(2,none),(5,some (1, 3, .ints .i64 [])),(6,none),(7,none),(8,none)]])] [] false s

noncomputable def sO (n : Int) (X P : List (List U)) (l q : List Int) (nn : Bool) : NS := ⟨[⟨146, 55, [(1, (EV.lst (SyC.ints IntKind.i64 (l)))), (2, (EV.ptr 0 0)), (5, EV.slO 1 1 q.length nn)], [.it (.code (nav [1, 1, 0, 0, 0] (bodyOf Try.f146))), .it (.inBlock 1), .it (.inLoop (nav [1, 1, 0, 0] (bodyOf Try.f146))), .it (.inBlock 0)], [], Option.none⟩], [(0, (EK.cells 25 [(EV.v (Value.int IntKind.i64 (n))), (EV.lst (SyC.recs [(Sh.int IntKind.i64), (Sh.int IntKind.i64), (Sh.int IntKind.i64), (Sh.int IntKind.i64)] (X))), (EV.lst (SyC.recs [(Sh.int IntKind.i64), (Sh.int IntKind.i64), (Sh.int IntKind.i64), (Sh.int IntKind.i64)] (P)))] true)), (1, EK.seq 3 (.ints .i64 q) nn)], 2⟩
noncomputable def sI (n : Int) (X P : List (List U)) (l q : List Int) (nn : Bool) (v : Int) (f : Bool) (i : Int) : NS := ⟨[⟨146, 55, [(1, (EV.lst (SyC.ints IntKind.i64 (l)))), (2, (EV.ptr 0 0)), (5, (EV.slO 1 1 (List.length q) (nn))), (6, iv v), (7, bv f), (8, iv i)], [.it (.code (nav [1, 1, 0, 0, 0, 1, 0, 1, 0, 0, 0] (bodyOf Try.f146))), .it (.code (nav [1, 1, 0, 0, 0, 1, 0, 1, 0, 0, 1] (bodyOf Try.f146))), .it (.inLoop (nav [1, 1, 0, 0, 0, 1, 0, 1, 0, 0] (bodyOf Try.f146))), .it (.inBlock 2), .it (.code (nav [1, 1, 0, 0, 0, 1, 1] (bodyOf Try.f146))), .it (.inBlock 1), .it (.inLoop (nav [1, 1, 0, 0] (bodyOf Try.f146))), .it (.inBlock 0)], [], Option.none⟩], [(0, (EK.cells 25 [(EV.v (Value.int IntKind.i64 (n))), (EV.lst (SyC.recs [(Sh.int IntKind.i64), (Sh.int IntKind.i64), (Sh.int IntKind.i64), (Sh.int IntKind.i64)] (X))), (EV.lst (SyC.recs [(Sh.int IntKind.i64), (Sh.int IntKind.i64), (Sh.int IntKind.i64), (Sh.int IntKind.i64)] (P)))] true)), (1, (EK.seq 3 (SyC.ints IntKind.i64 (q)) (nn)))], 2⟩
theorem in_t (n : Int) (X P : List (List U)) (l : List Int) : RUN (st0 146 [clE n X P, il l]) = (.at (sO (n) (X) (P) (l) ([]) (false))) := by kernel_rfl
theorem o_t (n : Int) (X P : List (List U)) (l q : List Int) (nn : Bool) : RUN (stOf (sO n X P l q nn)) = (.at (sI (n) (X) (P) (l) (q) (nn) ((0 : Int)) (false) ((0 : Int)))) := by kernel_rfl
theorem i_t (n : Int) (X P : List (List U)) (l q : List Int) (nn : Bool) (v : Int) (f : Bool) (i : Int) : RUN (stOf (sI n X P l q nn v f i)) = (bc (decide (i < Int.ofNat (List.length l))) (bc (bc (bc (bc (bc (decide ((0 : Int) ≤ i)) (Nat.blt (Int.toNat i) (List.length l)) false) true false) (bc (bc (Nat.blt (Int.toNat i) (List.length l)) true false) (bc (bc (bc (decide ((0 : Int) ≤ List.getD l (Int.toNat i) (0 : Int))) (Nat.blt (Int.toNat (List.getD l (Int.toNat i) (0 : Int))) (List.length X)) false) true false) (bc (bc (Nat.blt (Int.toNat (List.getD l (Int.toNat i) (0 : Int))) (List.length X)) true false) true false) false) false) false) true false) (bc (Int.ofNat (List.length q) == (0 : Int)) (bc (!f) (.at (sI (n) (X) (P) (l) (q) (nn) (U.int (List.getD (List.getD X (Int.toNat (List.getD l (Int.toNat i) (0 : Int))) []) (Nat.add (0 : Nat) (0 : Nat)) (U.i (0 : Int)))) (true) (IntKind.wrap IntKind.i64 (i + (1 : Int))))) (bc (decide (U.int (List.getD (List.getD X (Int.toNat (List.getD l (Int.toNat i) (0 : Int))) []) (Nat.add (0 : Nat) (0 : Nat)) (U.i (0 : Int))) < v)) (.at (sI (n) (X) (P) (l) (q) (nn) (U.int (List.getD (List.getD X (Int.toNat (List.getD l (Int.toNat i) (0 : Int))) []) (Nat.add (0 : Nat) (0 : Nat)) (U.i (0 : Int)))) (true) (IntKind.wrap IntKind.i64 (i + (1 : Int))))) (.at (sI (n) (X) (P) (l) (q) (nn) (v) (f) (IntKind.wrap IntKind.i64 (i + (1 : Int))))))) (bc (bc (bc (decide ((0 : Int) ≤ IntKind.wrap IntKind.i64 (Int.ofNat (List.length q) - (1 : Int)))) (Nat.blt (Int.toNat (IntKind.wrap IntKind.i64 (Int.ofNat (List.length q) - (1 : Int)))) (List.length q)) false) true false) (bc (bc (Nat.blt (Int.toNat (IntKind.wrap IntKind.i64 (Int.ofNat (List.length q) - (1 : Int)))) (List.length q)) true false) (bc (decide (List.getD q (Int.toNat (IntKind.wrap IntKind.i64 (Int.ofNat (List.length q) - (1 : Int)))) (0 : Int) < U.int (List.getD (List.getD X (Int.toNat (List.getD l (Int.toNat i) (0 : Int))) []) (Nat.add (0 : Nat) (0 : Nat)) (U.i (0 : Int))))) (bc (!f) (.at (sI (n) (X) (P) (l) (q) (nn) (U.int (List.getD (List.getD X (Int.toNat (List.getD l (Int.toNat i) (0 : Int))) []) (Nat.add (0 : Nat) (0 : Nat)) (U.i (0 : Int)))) (true) (IntKind.wrap IntKind.i64 (i + (1 : Int))))) (bc (decide (U.int (List.getD (List.getD X (Int.toNat (List.getD l (Int.toNat i) (0 : Int))) []) (Nat.add (0 : Nat) (0 : Nat)) (U.i (0 : Int))) < v)) (.at (sI (n) (X) (P) (l) (q) (nn) (U.int (List.getD (List.getD X (Int.toNat (List.getD l (Int.toNat i) (0 : Int))) []) (Nat.add (0 : Nat) (0 : Nat)) (U.i (0 : Int)))) (true) (IntKind.wrap IntKind.i64 (i + (1 : Int))))) (.at (sI (n) (X) (P) (l) (q) (nn) (v) (f) (IntKind.wrap IntKind.i64 (i + (1 : Int))))))) (.at (sI (n) (X) (P) (l) (q) (nn) (v) (f) (IntKind.wrap IntKind.i64 (i + (1 : Int)))))) .bad) .bad)) .bad) (bc (!f) (bc (Nat.beq (List.length q) (List.length q)) (.done (EV.lst (SyC.ints IntKind.i64 (q))) [] 0) .bad) (bc (bc (Nat.beq (List.length q) (List.length q)) (bc (Nat.ble (List.length q + List.length (List.map (fun r => U.int (List.headD r (U.i (0 : Int)))) [[U.i v]])) (65536 : Nat)) (bc nn true (bc nn false true)) false) false) (.at (sO (n) (X) (P) (l) (q ++ List.map (fun r => U.int (List.headD r (U.i (0 : Int)))) [[U.i v]]) (bc nn true (Nat.blt (0 : Nat) (List.length (List.map (fun r => U.int (List.headD r (U.i (0 : Int)))) [[U.i v]])))))) .bad))) := by kernel_rfl
end RWrk
end Go.Proofs.Ytonbfalbfdkieaa.Ev
namespace Go.Proofs.Ytonbfalbfdkieaa.Ev
noncomputable def wkL (X : List (List U)) (l : List Int) : List Int := l.map fun i => xW (X.getD i.toNat [])
noncomputable def wrkF (X : List (List U)) (l : List Int) : List Int := cmpt (srt (wkL X l))
theorem wrkF_ok (X : List (List U)) (l : List Int) : (wrkF X l).Pairwise (· < ·) ∧ ∀ a, a ∈ wrkF X l ↔ a ∈ wkL X l := by
  obtain ⟨h1, h2⟩ := cmpt_srt (srt_pair (wkL X l)); exact ⟨h1, fun a => (h2 a).trans (srt_perm _).mem_iff⟩
theorem wrkF_len (X : List (List U)) (l : List Int) : (wrkF X l).length ≤ l.length := by
  have h1 := cmpt_le (srt (wkL X l)); have h2 := (srt_perm (wkL X l)).length_eq; have h3 : (wkL X l).length = l.length := by unfold wkL; simp
  unfold wrkF; omega
noncomputable def gtQ (q : List Int) (w : Int) : Bool := bc (Nat.beq q.length 0) true (decide (q.getD (q.length - 1) 0 < w))
noncomputable def mnG (q : List Int) : List Int → Int → Bool → Int × Bool
  | [], v, f => (v, f)
  | w :: r, v, f => bc (gtQ q w) (bc f (bc (decide (w < v)) (mnG q r w true) (mnG q r v f)) (mnG q r w true)) (mnG q r v f)
theorem mnG_ok {q : List Int} : ∀ (r : List Int) (v : Int) (f : Bool), ((mnG q r v f).2 = false → f = false ∧ ∀ w ∈ r, gtQ q w = false) ∧ ((mnG q r v f).2 = true → ((f = true ∧ (mnG q r v f).1 = v) ∨ ((mnG q r v f).1 ∈ r ∧ gtQ q (mnG q r v f).1 = true)) ∧ (∀ w ∈ r, gtQ q w = true → (mnG q r v f).1 ≤ w) ∧ (f = true → (mnG q r v f).1 ≤ v))
  | [], v, f => ⟨fun h => ⟨h, fun w hw => by cases hw⟩, fun h => ⟨.inl ⟨h, rfl⟩, fun w hw => (by cases hw), fun _ => Int.le_refl _⟩⟩
  | w :: r, v, f => by
    have e : mnG q (w :: r) v f = bc (gtQ q w) (bc f (bc (decide (w < v)) (mnG q r w true) (mnG q r v f)) (mnG q r w true)) (mnG q r v f) := rfl; rw [e]; obtain ⟨a1, a2⟩ := mnG_ok (q := q) r w true; obtain ⟨b1, b2⟩ := mnG_ok (q := q) r v f
    cases hg : gtQ q w with
    | false =>
      rw [bc_f]; refine ⟨fun h => ⟨(b1 h).1, fun x hx => ?_⟩, fun h => ⟨(b2 h).1.imp id fun ⟨k1, k2⟩ => ⟨List.mem_cons_of_mem _ k1, k2⟩, fun x hx hgx => ?_, (b2 h).2.2⟩⟩
      · rcases List.mem_cons.1 hx with rfl | hx
        · exact hg
        · exact (b1 h).2 x hx
      · rcases List.mem_cons.1 hx with rfl | hx
        · rw [hg] at hgx; cases hgx
        · exact (b2 h).2.1 x hx hgx
    | true =>
      rw [bc_t]; have tk : ((mnG q r w true).2 = true → ((mnG q r w true).1 ∈ w :: r ∧ gtQ q (mnG q r w true).1 = true) ∧ (∀ x ∈ w :: r, gtQ q x = true → (mnG q r w true).1 ≤ x)) := fun h => by
        obtain ⟨c1, c2, c3⟩ := a2 h; refine ⟨?_, fun x hx hgx => ?_⟩
        · rcases c1 with ⟨_, c1⟩ | ⟨c1, c4⟩
          · rw [c1]; exact ⟨List.mem_cons_self, hg⟩
          · exact ⟨List.mem_cons_of_mem _ c1, c4⟩
        · rcases List.mem_cons.1 hx with rfl | hx
          · exact c3 rfl
          · exact c2 x hx hgx
      cases f with
      | false =>
        rw [bc_f]; refine ⟨fun h => absurd (a1 h).1 (by simp), fun h => ⟨.inr (tk h).1, (tk h).2, fun e => (by cases e)⟩⟩
      | true =>
        rw [bc_t]
        by_cases hw : w < v
        · rw [dt hw, bc_t]; refine ⟨fun h => absurd (a1 h).1 (by simp), fun h => ⟨.inr (tk h).1, (tk h).2, fun _ => ?_⟩⟩; have := (a2 h).2.2 rfl; omega
        · rw [df hw, bc_f]; refine ⟨fun h => absurd (b1 h).1 (by simp), fun h => ⟨(b2 h).1.imp id fun ⟨k1, k2⟩ => ⟨List.mem_cons_of_mem _ k1, k2⟩, fun x hx hgx => ?_, (b2 h).2.2⟩⟩; rcases List.mem_cons.1 hx with rfl | hx
          · have := (b2 h).2.2 rfl; omega
          · exact (b2 h).2.1 x hx hgx
theorem gtQ_take {u : List Int} (hu : u.Pairwise (· < ·)) {k : Nat} (hk : k ≤ u.length) {j : Nat} (hj : j < u.length) : gtQ (u.take k) u[j] = true ↔ k ≤ j := by
  unfold gtQ; have hl : (u.take k).length = k := by rw [List.length_take]; omega
  rw [hl]
  cases k with
  | zero =>
    show bc true true _ = true ↔ _; rw [bc_t]; simp
  | succ k =>
    show bc false true _ = true ↔ _; rw [bc_f, Nat.add_sub_cancel, getD_at (by omega), List.getElem_take]; simp only [decide_eq_true_eq]; constructor
    · intro h; rcases Nat.lt_or_ge k j with h2 | h2
      · omega
      · rcases Nat.lt_or_ge j k with h3 | h3
        · have := (List.pairwise_iff_getElem.1 hu) j k hj (by omega) h3; omega
        · have : j = k := by omega
          subst this; omega
    · intro h; exact (List.pairwise_iff_getElem.1 hu) k j (by omega) hj (by omega)
theorem mnG_more {u ws : List Int} (hu : u.Pairwise (· < ·)) (hm : ∀ a, a ∈ u ↔ a ∈ ws) {k : Nat} (hk : k < u.length) : mnG (u.take k) ws 0 false = (u[k], true) := by
  obtain ⟨h1, h2⟩ := mnG_ok (q := u.take k) ws 0 false; have gk := (gtQ_take hu (show k ≤ u.length by omega) hk).2 (Nat.le_refl k); have mk := (hm _).1 (List.getElem_mem hk)
  cases hf : (mnG (u.take k) ws 0 false).2 with
  | false =>
    have := (h1 hf).2 _ mk; rw [gk] at this; cases this
  | true =>
    obtain ⟨c1, c2, _⟩ := h2 hf; rcases c1 with ⟨c1, _⟩ | ⟨c1, c3⟩
    · cases c1
    · obtain ⟨j, hj, he⟩ := List.getElem_of_mem ((hm _).2 c1); have c4 := c2 _ mk gk; rw [← he] at c3 c4; have c5 := (gtQ_take hu (show k ≤ u.length by omega) hj).1 c3; have : j = k := by
        rcases Nat.lt_or_ge k j with h | h
        · have := (List.pairwise_iff_getElem.1 hu) k j hk hj h; omega
        · omega
      subst this; exact Prod.ext he.symm hf
theorem mnG_end {u ws : List Int} (hu : u.Pairwise (· < ·)) (hm : ∀ a, a ∈ u ↔ a ∈ ws) : (mnG u ws 0 false).2 = false := by
  obtain ⟨_, h2⟩ := mnG_ok (q := u) ws 0 false
  cases hf : (mnG u ws 0 false).2 with
  | false => rfl
  | true =>
    rcases (h2 hf).1 with ⟨c1, _⟩ | ⟨c1, c3⟩
    · cases c1
    · obtain ⟨j, hj, he⟩ := List.getElem_of_mem ((hm _).2 c1); rw [← he] at c3; have h4 := gtQ_take hu (Nat.le_refl _) hj; rw [List.take_length] at h4; have := h4.1 c3; omega
end Go.Proofs.Ytonbfalbfdkieaa.Ev
namespace Go.Proofs.Ytonbfalbfdkieaa.Ev
open Go.Proofs
def AllIn (l : List Int) (n : Nat) : Prop := ∀ j : Nat, j < l.length → 0 ≤ l.getD j 0 ∧ l.getD j 0 < n
noncomputable instance (l : List Int) (n : Nat) : Decidable (AllIn l n) := Classical.propDecidable _
theorem wkL_take {X : List (List U)} {l : List Int} {i : Nat} (hi : i < l.length) : wkL X (l.take (i + 1)) = wkL X (l.take i) ++ [xW (X.getD (l.getD i 0).toNat [])] := by
  unfold wkL; rw [← List.take_append_getElem hi, List.map_append, getD_at hi]; rfl
namespace PWrk
theorem step {n : Int} {X P : List (List U)} {l q : List Int} {nn : Bool} {i : Nat} (hi : i < l.length) (hl : l.length ≤ 20000) (ha : AllIn l X.length) (hq : q.length ≤ i) : RUN (stOf (sL n X P l q nn l.length i)) = .at (sL n X P l (q ++ [xW (X.getD (l.getD i 0).toNat [])]) true l.length (i + 1 : Nat)) := by
  have h := step_t n X P l q nn l.length i; obtain ⟨a1, a2⟩ := ha i hi; have f0 : ∀ r : List U, U.int (List.getD r (Nat.add 0 0) (U.i 0)) = xW r := fun _ => rfl; have m1 : ∀ x : Int, List.map (fun r => U.int (List.headD r (U.i 0))) [[U.i x]] = [x] := fun _ => rfl; simp only [f0, m1, to_nat] at h; generalize l.getD i 0 = a at *; obtain ⟨a, rfl⟩ := Int.eq_ofNat_of_zero_le a1
  cases nn <;> simp (disch := omega) only [Nat.add_eq, eqSy_self, eqN_self, bc_same, List.length_cons, ofn, wrap_in, dt, df, bltD, bltN, ble_of, bleN, beqD, bc_t, bc_f, nn_ok, Nat.zero_add, to_nat, Int.zero_add, Int.sub_zero, Int.sub_self, Int.cast_ofNat_Int, Int.natCast_zero, Int.toNat_zero, List.take_zero, List.nil_append, List.length_append, List.length_nil] at h <;> exact h
theorem loop {n : Int} {X P : List (List U)} {l : List Int} (hl : l.length ≤ 20000) (ha : AllIn l X.length) (hne : l ≠ []) : ∀ (k i : Nat) (nn : Bool), i + k = l.length → (nn = false → i = 0) → EndZ 145 ctWk false (stOf (sL n X P l (wkL X (l.take i)) nn l.length i)) (il (wrkF X l)) [] 0
  | 0, i, nn, h, hn => by
    have h1 := step_t n X P l (wkL X (l.take i)) nn l.length i; have e : l.take i = l := List.take_of_length_le (by omega); rw [e] at h1 ⊢; have hw : (wkL X l).length = l.length := by unfold wkL; simp
    have hs : (srt (wkL X l)).length = l.length := by rw [srt_len]; exact hw
    have hnn : nn = true := by
      cases nn with
      | true => rfl
      | false =>
        have := hn rfl; exact absurd (List.eq_nil_of_length_eq_zero (by omega)) hne
    subst hnn; rw [df (show ¬ (i : Int) < (l.length : Int) by omega), bc_f, hw, hs, eqN_self, Nat.beq_refl, Nat.beq_refl] at h1; simp (disch := omega) only [Nat.add_eq, eqSy_self, eqN_self, bc_same, List.length_cons, ofn, wrap_in, dt, df, bltD, bltN, ble_of, bleN, beqD, bc_t, bc_f, nn_ok, Nat.zero_add, to_nat, Int.zero_add, Int.sub_zero, Int.sub_self, Int.cast_ofNat_Int, Int.natCast_zero, Int.toNat_zero, List.take_zero, List.nil_append, List.length_append, List.length_nil] at h1; exact .done h1
  | k + 1, i, nn, h, hn => by
    have hi : i < l.length := by omega
    have hw : (wkL X (l.take i)).length = i := by unfold wkL; rw [List.length_map, List.length_take]; omega
    have h1 := step (n := n) (P := P) (nn := nn) hi hl ha (Nat.le_of_eq hw); rw [← wkL_take hi] at h1; exact .at ctWk_ok h1 (loop hl ha hne k (i + 1) true (by omega) (fun e => by cases e))
end PWrk
noncomputable def spPWrk : ZCT := fun ax => match ax with
  | [.agg [.v (.int .i64 n), .lst (.recs [.int .i64, .int .i64, .int .i64, .int .i64] X), .lst (.recs [.int .i64, .int .i64, .int .i64, .int .i64] P)], .lst (.ints .i64 l)] => some ⟨decide (l.length ≤ 20000 ∧ AllIn l X.length), il (wrkF X l), [], 0⟩
  | _ => none
theorem spPWrk_ok : ZCtOk Try.prog 145 spPWrk := fun γ w us ax r hs hc hax hN hfz => by
  unfold spPWrk at hs; split at hs
  case h_2 => cases hs
  rename_i n X P l; obtain ⟨rfl⟩ := Option.some.inj hs; obtain ⟨hl, ha⟩ : l.length ≤ 20000 ∧ AllIn l X.length := of_decide_eq_true hc
  by_cases hne : l = []
  · subst hne; have e : wrkF X [] = [] := List.eq_nil_of_length_eq_zero (by have := wrkF_len X []; simpa using this); have h0 : EndZ 145 ctWk0 false (stOf (PWrk.sL n X P [] [] false 0 0)) (il []) [] 0 := (EndZ.done (PWrk.nil_t n X P [])).weak (Weak.nilI _); have h : EndZ 145 ctWk0 false (st0 145 [clE n X P, il []]) (il (wrkF X [])) [] 0 := by
      rw [e]; exact .lead (leadsZ ctWk_ok (PWrk.in_t n X P [])) h0
    exact h.calls ctWk0_ok (by kernel_rfl) hax hN hfz
  · exact (EndZ.at ctWk_ok (PWrk.in_t n X P l) (PWrk.loop hl ha hne l.length 0 false (by omega) fun _ => rfl)).calls ctWk_ok (by kernel_rfl) hax hN hfz
namespace RWrk
theorem inner {n : Int} {X P : List (List U)} {l q : List Int} {nn : Bool} {vv : EV} (hl : l.length ≤ 20000) (ha : AllIn l X.length) (hq : q.length ≤ 30000) : ∀ (k i : Nat) (v : Int) (f : Bool), i + k = l.length → EndZ 146 .nil false (stOf (sI n X P l q nn (mnG q (wkL X (l.drop i)) v f).1 (mnG q (wkL X (l.drop i)) v f).2 l.length)) vv [] 0 → EndZ 146 .nil false (stOf (sI n X P l q nn v f i)) vv [] 0
  | 0, i, v, f, h, hh => by
    rw [List.drop_eq_nil_of_le (by omega)] at hh; have e : i = l.length := by omega
    rw [e]; exact hh
  | k + 1, i, v, f, h, hh => by
    have hi : i < l.length := by omega
    have h1 := i_t n X P l q nn v f i; obtain ⟨a1, a2⟩ := ha i hi; have f0 : ∀ r : List U, U.int (List.getD r (Nat.add 0 0) (U.i 0)) = xW r := fun _ => rfl; simp only [f0, to_nat] at h1; rw [List.drop_eq_getElem_cons hi] at hh; have hh : EndZ 146 .nil false (stOf (sI n X P l q nn (mnG q (xW (X.getD l[i].toNat []) :: wkL X (l.drop (i + 1))) v f).1 (mnG q (xW (X.getD l[i].toNat []) :: wkL X (l.drop (i + 1))) v f).2 l.length)) vv [] 0 := hh; unfold mnG at hh; rw [← getD_at (d := 0) hi] at hh; generalize l.getD i 0 = a at *; obtain ⟨a, rfl⟩ := Int.eq_ofNat_of_zero_le a1; rw [to_nat] at h1 hh
    generalize xW (X.getD a []) = w at *; have ih1 := inner (n := n) (P := P) (nn := nn) (vv := vv) hl ha hq k (i + 1) w true (by omega); have ih2 := inner (n := n) (P := P) (nn := nn) (vv := vv) hl ha hq k (i + 1) v f (by omega); unfold gtQ at hh
    have go : ∀ {R : ZF}, RUN (stOf (sI n X P l q nn v f i)) = R → R = .at (sI n X P l q nn w true (i + 1 : Nat)) → EndZ 146 .nil false (stOf (sI n X P l q nn (mnG q (wkL X (l.drop (i + 1))) w true).1 (mnG q (wkL X (l.drop (i + 1))) w true).2 l.length)) vv [] 0 → EndZ 146 .nil false (stOf (sI n X P l q nn v f i)) vv [] 0 := fun {R} e1 e2 e3 => .at (.nil _) (e1.trans e2) (ih1 e3)
    have st : ∀ {R : ZF}, RUN (stOf (sI n X P l q nn v f i)) = R → R = .at (sI n X P l q nn v f (i + 1 : Nat)) → EndZ 146 .nil false (stOf (sI n X P l q nn (mnG q (wkL X (l.drop (i + 1))) v f).1 (mnG q (wkL X (l.drop (i + 1))) v f).2 l.length)) vv [] 0 → EndZ 146 .nil false (stOf (sI n X P l q nn v f i)) vv [] 0 := fun {R} e1 e2 e3 => .at (.nil _) (e1.trans e2) (ih2 e3)
    by_cases h0 : q.length = 0
    · have e0 : ((q.length : Int) == 0) = true := by simp [h0]
      have e1 : Nat.beq q.length 0 = true := by rw [h0]; rfl
      rw [ofn, ofn, e0] at h1; rw [e1, bc_t, bc_t] at hh
      cases f with
      | false =>
        rw [bc_f] at hh; simp (disch := omega) only [Nat.add_eq, eqSy_self, eqN_self, bc_same, List.length_cons, ofn, wrap_in, dt, df, bltD, bltN, ble_of, bleN, beqD, bc_t, bc_f, nn_ok, Nat.zero_add, to_nat, Int.zero_add, Int.sub_zero, Int.sub_self, Int.cast_ofNat_Int, Int.natCast_zero, Int.toNat_zero, List.take_zero, List.nil_append, List.length_append, List.length_nil, Bool.not_false] at h1; exact go h1 rfl hh
      | true =>
        rw [bc_t] at hh
        by_cases hw : w < v
        · rw [dt hw, bc_t] at hh; simp (disch := omega) only [Nat.add_eq, eqSy_self, eqN_self, bc_same, List.length_cons, ofn, wrap_in, dt, df, bltD, bltN, ble_of, bleN, beqD, bc_t, bc_f, nn_ok, Nat.zero_add, to_nat, Int.zero_add, Int.sub_zero, Int.sub_self, Int.cast_ofNat_Int, Int.natCast_zero, Int.toNat_zero, List.take_zero, List.nil_append, List.length_append, List.length_nil, Bool.not_true] at h1; exact go h1 rfl hh
        · rw [df hw, bc_f] at hh; simp (disch := omega) only [Nat.add_eq, eqSy_self, eqN_self, bc_same, List.length_cons, ofn, wrap_in, dt, df, bltD, bltN, ble_of, bleN, beqD, bc_t, bc_f, nn_ok, Nat.zero_add, to_nat, Int.zero_add, Int.sub_zero, Int.sub_self, Int.cast_ofNat_Int, Int.natCast_zero, Int.toNat_zero, List.take_zero, List.nil_append, List.length_append, List.length_nil, Bool.not_true] at h1; exact st h1 rfl hh
    · have e0 : ((q.length : Int) == 0) = false := by
        have : (q.length : Int) ≠ 0 := by omega
        simpa using this
      have e1 : Nat.beq q.length 0 = false := by
        cases hb : Nat.beq q.length 0 with
        | false => rfl
        | true => exact absurd (Nat.eq_of_beq_eq_true hb) h0
      have w1 : IntKind.wrap IntKind.i64 ((q.length : Int) - 1) = ((q.length - 1 : Nat) : Int) := by rw [wrap_in _ (by omega) (by omega)]; omega
      rw [ofn, ofn, e0, w1, to_nat] at h1; rw [e1, bc_f] at hh
      by_cases hg : q.getD (q.length - 1) 0 < w
      · rw [dt hg, bc_t] at hh; rw [dt hg] at h1
        cases f with
        | false =>
          rw [bc_f] at hh; simp (disch := omega) only [Nat.add_eq, eqSy_self, eqN_self, bc_same, List.length_cons, ofn, wrap_in, dt, df, bltD, bltN, ble_of, bleN, beqD, bc_t, bc_f, nn_ok, Nat.zero_add, to_nat, Int.zero_add, Int.sub_zero, Int.sub_self, Int.cast_ofNat_Int, Int.natCast_zero, Int.toNat_zero, List.take_zero, List.nil_append, List.length_append, List.length_nil, Bool.not_false] at h1; exact go h1 rfl hh
        | true =>
          rw [bc_t] at hh
          by_cases hw : w < v
          · rw [dt hw, bc_t] at hh; simp (disch := omega) only [Nat.add_eq, eqSy_self, eqN_self, bc_same, List.length_cons, ofn, wrap_in, dt, df, bltD, bltN, ble_of, bleN, beqD, bc_t, bc_f, nn_ok, Nat.zero_add, to_nat, Int.zero_add, Int.sub_zero, Int.sub_self, Int.cast_ofNat_Int, Int.natCast_zero, Int.toNat_zero, List.take_zero, List.nil_append, List.length_append, List.length_nil, Bool.not_true] at h1; exact go h1 rfl hh
          · rw [df hw, bc_f] at hh; simp (disch := omega) only [Nat.add_eq, eqSy_self, eqN_self, bc_same, List.length_cons, ofn, wrap_in, dt, df, bltD, bltN, ble_of, bleN, beqD, bc_t, bc_f, nn_ok, Nat.zero_add, to_nat, Int.zero_add, Int.sub_zero, Int.sub_self, Int.cast_ofNat_Int, Int.natCast_zero, Int.toNat_zero, List.take_zero, List.nil_append, List.length_append, List.length_nil, Bool.not_true] at h1; exact st h1 rfl hh
      · rw [df hg, bc_f] at hh; rw [df hg] at h1; simp (disch := omega) only [Nat.add_eq, eqSy_self, eqN_self, bc_same, List.length_cons, ofn, wrap_in, dt, df, bltD, bltN, ble_of, bleN, beqD, bc_t, bc_f, nn_ok, Nat.zero_add, to_nat, Int.zero_add, Int.sub_zero, Int.sub_self, Int.cast_ofNat_Int, Int.natCast_zero, Int.toNat_zero, List.take_zero, List.nil_append, List.length_append, List.length_nil] at h1; exact st h1 rfl hh
theorem loop {n : Int} {X P : List (List U)} {l : List Int} (hl : l.length ≤ 20000) (ha : AllIn l X.length) : ∀ (m k : Nat) (nn : Bool), k + m = (wrkF X l).length → EndZ 146 .nil false (stOf (sO n X P l ((wrkF X l).take k) nn)) (il (wrkF X l)) [] 0
  | 0, k, nn, h => by
    have hn := wrkF_len X l; have e : (wrkF X l).take k = wrkF X l := List.take_of_length_le (by omega); rw [e]; obtain ⟨u1, u2⟩ := wrkF_ok X l; refine .at (.nil _) (o_t n X P l (wrkF X l) nn) (inner hl ha (by omega) l.length 0 0 false (by omega) ?_); rw [List.drop_zero, mnG_end u1 u2]; have h1 := i_t n X P l (wrkF X l) nn (mnG (wrkF X l) (wkL X l) 0 false).1 false l.length; rw [ofn, df (show ¬ (l.length : Int) < (l.length : Int) by omega), bc_f, Nat.beq_refl] at h1; exact .done h1
  | m + 1, k, nn, h => by
    have hn := wrkF_len X l; obtain ⟨u1, u2⟩ := wrkF_ok X l; have hk : k < (wrkF X l).length := by omega
    have hlt : ((wrkF X l).take k).length = k := by rw [List.length_take]; omega
    refine .at (.nil _) (o_t n X P l ((wrkF X l).take k) nn) (inner hl ha (by omega) l.length 0 0 false (by omega) ?_); rw [List.drop_zero, mnG_more u1 u2 hk]; have h1 := i_t n X P l ((wrkF X l).take k) nn (wrkF X l)[k] true l.length; have m1 : ∀ x : Int, List.map (fun r => U.int (List.headD r (U.i 0))) [[U.i x]] = [x] := fun _ => rfl; rw [ofn, ofn, df (show ¬ (l.length : Int) < (l.length : Int) by omega), bc_f, m1, hlt] at h1; rw [List.take_append_getElem hk] at h1; have ih := loop (n := n) (P := P) hl ha m (k + 1) true (by omega)
    cases nn <;> simp (disch := omega) only [Nat.add_eq, eqSy_self, eqN_self, bc_same, List.length_cons, ofn, wrap_in, dt, df, bltD, bltN, ble_of, bleN, beqD, bc_t, bc_f, nn_ok, Nat.zero_add, to_nat, Int.zero_add, Int.sub_zero, Int.sub_self, Int.cast_ofNat_Int, Int.natCast_zero, Int.toNat_zero, List.take_zero, List.nil_append, List.length_append, List.length_nil, Bool.not_true] at h1
    · exact .at (.nil _) h1 ih
    · exact .at (.nil _) h1 ih
end RWrk
noncomputable def spRWrk : ZCT := fun ax => match ax with
  | [.agg [.v (.int .i64 n), .lst (.recs [.int .i64, .int .i64, .int .i64, .int .i64] X), .lst (.recs [.int .i64, .int .i64, .int .i64, .int .i64] P)], .lst (.ints .i64 l)] => some ⟨decide (l.length ≤ 20000 ∧ AllIn l X.length), il (wrkF X l), [], 0⟩
  | _ => none
theorem spRWrk_ok : ZCtOk Try.prog 146 spRWrk := fun γ w us ax r hs hc hax hN hfz => by
  unfold spRWrk at hs; split at hs
  case h_2 => cases hs
  rename_i n X P l; obtain ⟨rfl⟩ := Option.some.inj hs; have hc_0 : decide (l.length ≤ 20000 ∧ AllIn l X.length) = true := hc; have hc := of_decide_eq_true hc_0; exact EndZ.calls (.at (.nil _) (RWrk.in_t n X P l) (RWrk.loop hc.1 hc.2 (wrkF X l).length 0 false (by omega))) (.nil _) (by kernel_rfl) hax hN hfz
end Go.Proofs.Ytonbfalbfdkieaa.Ev
namespace Go.Proofs.Ytonbfalbfdkieaa.Ev
open Go.Proofs
theorem shown_run : endsB (exClosed Try.prog ft (drD Try.prog ft 16 4) 16 18) = true := by kernel_rfl
theorem shownC (w : World) : Calls Try.prog 16 #[] w fun e w' => e = .returned (.bool true) ∧ Stays w w' := closedTrue ftOk (drD_ok mix ftOk 16 4) shown_run w
theorem spShown_ok : ZCtOk Try.prog 16 spTrue := spTrue_ok shownC
end Go.Proofs.Ytonbfalbfdkieaa.Ev
namespace Go.Proofs.Ytonbfalbfdkieaa
open Go.ChangeShapes Go.WideShapes Go.ChangeAt Go.RowKit

theorem kept_of_stays {W W' : World} (h : Ev.Stays W W') (may : MemPlace → Prop) : W.keptBut W' may := by
  refine ⟨h.os, h.output, fun i hi => ?_⟩; have e := h.block i hi; rw [e]
  cases hb : W.heap[i]? with
  | none => simp
  | some o =>
    cases o <;> first | exact ⟨rfl, rfl, rfl, fun _ _ => rfl⟩ | exact .inr ⟨rfl, rfl⟩ | rfl
theorem frozen_of_stays {W W' : World} (h : Ev.Stays W W') (a : Addr) (ha : a.block < W.heap.size) : W'.frozen? a = W.frozen? a := by
  unfold World.frozen?; rw [h.block _ ha]
section
variable {H : Type} {enc : TypeId × Value → H} {P : Program}

theorem post_of_stays {f : Func} {s : ChangeSpec} {apart fresh handsOn again : Bool} {W W' : World} {args : Array Value} {v : Value} {ds gs : List (DataW H)} {before pa pv : List MemPlace}
    (hW : DataW.Whole enc P f.params.toList s.vars apart W args.toList ds gs before)
    (hres : ∀ (b : Nat) (sp : Nat → Bool) (hd : Bool), DataW.TrodAll enc P W' b sp hd f.resultTypes.toList (v.resultList f.resultTypes.size) (s.fn H (ds ++ gs)).results [])
    (hargs : ∀ sp : Nat → Bool, (∀ p ∈ before, sp p.block = true) → DataW.TrodAll enc P W' 0 sp true f.params.toList args.toList (s.fn H (ds ++ gs)).args pa)
    (hvars : ∀ sp : Nat → Bool, (∀ p ∈ before, sp p.block = true) → DataW.TrodVars enc P W' sp s.vars (s.fn H (ds ++ gs)).vars pv)
    (hps : before = pa ++ pv) (hst : Ev.Stays W W')
    (hok : ∀ (j : Nat) (t : TypeId) (r : Value), f.resultTypes[j]? = some t → (v.resultList f.resultTypes.size)[j]? = some r → Value.okWide P W' .any 0 t r) :
    s.post enc P f apart fresh handsOn again W args v W' := by
  have hk : W.keptBut W' (· ∈ before) := kept_of_stays hst _; have hold : ∀ p ∈ before, (fun b => decide (b < W.heap.size)) p.block = true := fun p hp => by simpa using hW.lt p hp
  have hlt := fun p hp => hW.lt p hp; refine ⟨ds, gs, before, [], pa, pv, hW, hres _ _ _, hargs _ hold, hvars _ hold, World.keptBut_mono (fun p hp => ⟨hp, ?_⟩) hk, fun _ => ?_⟩
  · rw [hps, List.mem_append] at hp; exact Or.inr hp
  · obtain ⟨_, _, _, _, _, hz, hn⟩ := hW; refine ⟨hok, _, _, ([] ++ pa) ++ pv, ⟨[] ++ pa, pv, trodAll_append (hargs _ (fun _ _ => rfl)) (hres _ _ _), hvars _ (fun _ _ => rfl), rfl, ?_, ?_⟩, ?_⟩
    · intro b off hp; have hp2 : MemPlace.cell b off ∈ before := by rw [hps]; simpa using hp
      rw [frozen_of_stays hst _ (hlt _ hp2)]; exact hz b off hp2
    · intro ha; have := hn ha; rw [hps] at this; simpa using this
    · intro p hp _; rw [hps]; simpa using hp
end
end Go.Proofs.Ytonbfalbfdkieaa
namespace Go.Proofs.Ytonbfalbfdkieaa
open Go.ChangeShapes Go.WideShapes Go.ChangeAt Go.RowKit
section
variable {H : Type} {enc : TypeId × Value → H} {P : Program}
theorem same_of_stays {W W' : World} (h : Ev.Stays W W') {p : MemPlace} (hp : p.block < W.heap.size) : W.sameAt W' p := by
  cases p with
  | cell b off =>
    show W'.cell? _ = W.cell? _; unfold World.cell?; rw [h.block b hp]
  | map b => exact h.block b hp
theorem args_carry {W W' : World} {base : Nat} {sp : Nat → Bool} {hd : Bool} : ∀ {ts : List TypeId} {vs : List Value} {ds : List (DataW H)} {ps : List MemPlace}, DataW.TrodAll enc P W base sp hd ts vs ds ps → (∀ p ∈ ps, W.sameAt W' p) → DataW.TrodAll enc P W' base sp hd ts vs ds ps
  | [], [], [], _, h, _ => h
  | _ :: _, _ :: _, _ :: _, _, ⟨p, q, ⟨n, h⟩, hs, e⟩, k => ⟨p, q, ⟨n, DataW.trod_carry n _ _ _ h fun x hx => k x (by rw [e]; exact List.mem_append_left _ hx)⟩, args_carry hs fun x hx => k x (by rw [e]; exact List.mem_append_right _ hx), e⟩
  | [], [], _ :: _, _, h, _ => h.elim
  | [], _ :: _, _, _, h, _ => h.elim
  | _ :: _, [], _, _, h, _ => h.elim
  | _ :: _, _ :: _, [], _, h, _ => h.elim

theorem post_law {f : Func} {s : ChangeSpec} {apart fresh handsOn again : Bool} {W W' : World} {args : Array Value} {ds : List (DataW H)} {p : List MemPlace} {bt : TypeId} {T : TypeId → Prop} (K : Kids P T) (hz : ∀ t e, T t → P.underlying t = some (.slice e) → 0 < P.cellsOf e)
    (hbt : P.underlying bt = some .bool) (hrt : f.resultTypes.toList = [bt]) (hsz : f.resultTypes.size = 1) (hvs : s.vars = []) (hfn : s.fn H (ds ++ []) = { results := [.lit (.bool true)], args := ds })
    (hpt : ∀ t ∈ f.params.toList, T t)
    (hW : DataW.Whole enc P f.params.toList s.vars apart W args.toList ds [] (p ++ [])) (hA : DataW.TrodAll enc P W 0 (fun _ => true) true f.params.toList args.toList ds p) (hst : Ev.Stays W W')
    (hok : ∀ (j : Nat) (t : TypeId) (r : Value), f.resultTypes[j]? = some t → ((Value.bool true).resultList f.resultTypes.size)[j]? = some r → Value.okWide P W' .any 0 t r) :
    s.post enc P f apart fresh handsOn again W args (.bool true) W' := by
  have hlt := fun q hq => hW.lt q hq; refine post_of_stays (pa := p) (pv := []) hW (fun b sp hd => ?_) (fun sp hsp => ?_) (fun sp _ => ?_) rfl hst hok
  · rw [hrt, hfn, hsz]; exact trodAll_mk1 (shut_bool hbt _)
  · rw [hfn]; exact DataW.TrodAll.respare K hz hpt (args_carry hA fun q hq => same_of_stays hst (hlt q (by simpa using hq))) fun q hq => hsp q (by simpa using hq)
  · rw [hfn, hvs]; rfl
end
namespace Ev


inductive UFit : Sh → U → Prop where
  | int (k : IntKind) (n : Int) (h : (Lit.int k n).wf = true) : UFit (.int k) (.i n)
  | bool (b : Bool) : UFit .bool (.b b)
  | str (s : ByteArray) (h : s.size ≤ maxLen) : UFit .str (.s s)
  | list (sh : List Sh) (l : List (List U)) (hl : l.length ≤ maxLen) (hr : ∀ j, j < l.length → (l.getD j []).length = sh.length) (h : ∀ (j f : Nat) (s : Sh), j < l.length → sh[f]? = some s → UFit s ((l.getD j []).getD f (.i 0))) : UFit (.list sh) (.l l)
structure RowFit (sh : List Sh) (r : List U) : Prop where
  len : r.length = sh.length
  fit : ∀ (f : Nat) (s : Sh), sh[f]? = some s → UFit s (r.getD f (.i 0))
theorem RowFit.nil : RowFit [] [] := ⟨rfl, fun f s h => by simp at h⟩
theorem RowFit.append {sh1 sh2 : List Sh} {r1 r2 : List U} (h1 : RowFit sh1 r1) (h2 : RowFit sh2 r2) : RowFit (sh1 ++ sh2) (r1 ++ r2) := by
  refine ⟨by simp [h1.len, h2.len], fun f s h => ?_⟩; rw [List.getD_eq_getElem?_getD]
  by_cases hf : f < sh1.length
  · rw [List.getElem?_append_left hf] at h; rw [List.getElem?_append_left (by rw [h1.len]; exact hf), ← List.getD_eq_getElem?_getD]; exact h1.fit f s h
  · rw [List.getElem?_append_right (by omega)] at h; rw [List.getElem?_append_right (by rw [h1.len]; omega), h1.len, ← List.getD_eq_getElem?_getD]; exact h2.fit _ s h
theorem recE_app : ∀ {sh1 sh2 : List Sh} {r1 r2 : List U}, r1.length = sh1.length → recE (sh1 ++ sh2) (r1 ++ r2) = recE sh1 r1 ++ recE sh2 r2
  | [], sh2, r1, r2, h => by
    have : r1 = [] := List.eq_nil_of_length_eq_zero h; subst this; rfl
  | s :: sh1, sh2, [], r2, h => by cases h
  | s :: sh1, sh2, u :: r1, r2, h => by
    show s.ev u :: recE (sh1 ++ sh2) (r1 ++ r2) = s.ev u :: (recE sh1 r1 ++ recE sh2 r2); rw [recE_app (by simpa using h)]

def shFs (P : Program) (f : TypeId → Option (List Sh)) : List Field → Nat → Option (List Sh)
  | [], _ => some []
  | fd :: r, off => match f fd.type with
    | some sh => if fd.offset = off ∧ P.cellsOf fd.type = sh.length then match shFs P f r (off + sh.length) with
      | some l => some (sh ++ l)
      | none => none else none
    | none => none
def shB (P : Program) : Nat → TypeId → Option (List Sh)
  | 0, _ => none
  | k + 1, t => match P.underlying t with
    | some (.int κ) => some [.int κ]
    | some .bool => some [.bool]
    | some .string => some [.str]
    | some (.slice e) => match shB P k e with
      | some sh => if P.cellsOf e = sh.length ∧ 0 < sh.length then some [.list sh] else none
      | none => none
    | some (.struct fs) => match shFs P (shB P k) fs.toList 0 with
      | some sh => if P.cellsOf t = sh.length then some sh else none
      | none => none
    | some (.array m e) => match shB P k e with
      | some sh => if P.cellsOf e = sh.length ∧ P.cellsOf t = m * sh.length then some (List.replicate m sh).flatten else none
      | none => none
    | _ => none
noncomputable def fzAll (W : World) : Nat → Option (Array Value) := fun k => match W.heap[k]? with
  | some (.cells a _ _) => some a
  | _ => none
noncomputable def gAll (W : World) : G := ⟨fun _ => none, fzAll W, fun _ _ _ => none⟩
theorem fzAll_at (W : World) : FzAt (gAll W) W := ⟨fun k a hk => (by
  have hk : fzAll W k = some a := hk; unfold fzAll at hk; split at hk
  · rename_i a' ty fz h; injection hk with hk; subst hk
    exact ⟨ty, fz, h⟩
  · cases hk), fun _ _ _ => rfl⟩
theorem list_of {Q : Nat → List U → Prop} : ∀ (n : Nat), (∀ i, i < n → ∃ r, Q i r) → ∃ l : List (List U), l.length = n ∧ ∀ i, i < n → Q i (l.getD i [])
  | 0, _ => ⟨[], rfl, fun i hi => absurd hi (by omega)⟩
  | n + 1, h => by
    obtain ⟨l, h1, h2⟩ := list_of n fun i hi => h i (by omega); obtain ⟨r, hr⟩ := h n (by omega); refine ⟨l ++ [r], by simp [h1], fun i hi => ?_⟩; rw [List.getD_eq_getElem?_getD]
    by_cases e : i < n
    · rw [List.getElem?_append_left (by omega), ← List.getD_eq_getElem?_getD]; exact h2 i e
    · have : i = n := by omega
      subst this; rw [List.getElem?_append_right (by omega), h1, Nat.sub_self]; exact hr
variable {H : Type} {enc : TypeId × Value → H} {P : Program} {W : World} {base : Nat} {sp : Nat → Bool} {hd : Bool}
def OpenAt (enc : TypeId × Value → H) (P : Program) (W : World) (base : Nat) (sp : Nat → Bool) (hd : Bool) (k : Nat) : Prop := ∀ (t : TypeId) (sh : List Sh) (fuel : Nat) (cs : List Value) (x : DataW H × List MemPlace), shB P k t = some sh → DataW.trod enc P W base sp hd fuel t cs = some x → ∃ r, RowFit sh r ∧ ∀ γ : G, γ.fz = fzAll W → ECL γ (recE sh r) cs
theorem fields_open {k : Nat} (ih : OpenAt enc P W base sp hd k) {cs : List Value} {n : Nat} : ∀ (fs : List Field) (off : Nat) (sh : List Sh), shFs P (shB P k) fs off = some sh → (∀ f, f ∈ fs → ∃ y, DataW.trod enc P W base sp hd n f.type ((cs.drop f.offset).take (P.cellsOf f.type)) = some y) → ∃ r, RowFit sh r ∧ ∀ γ : G, γ.fz = fzAll W → ECL γ (recE sh r) ((cs.drop off).take sh.length)
  | [], off, sh, h, _ => by
    injection (show some [] = some sh from h) with h; subst h
    exact ⟨[], .nil, fun γ _ => by
      rw [show ([] : List Sh).length = 0 from rfl, List.take_zero]; exact ECL.nil γ⟩
  | fd :: fs, off, sh, h, hall => by
    unfold shFs at h; split at h
    case h_2 => cases h
    rename_i s1 hs1; split at h
    case isFalse => cases h
    rename_i hc; split at h
    case h_2 => cases h
    rename_i s2 hs2; injection h with h; subst h
    obtain ⟨y, hy⟩ := hall fd (by simp); rw [hc.1, hc.2] at hy; obtain ⟨r1, h1, h2⟩ := ih fd.type s1 n _ y hs1 hy; obtain ⟨r2, h3, h4⟩ := fields_open ih fs (off + s1.length) s2 hs2 fun f hf => hall f (by simp [hf]); refine ⟨r1 ++ r2, h1.append h3, fun γ hγ => ?_⟩; rw [recE_app h1.len, List.length_append]; have e : (cs.drop off).take (s1.length + s2.length) = (cs.drop off).take s1.length ++ (cs.drop (off + s1.length)).take s2.length := by
      rw [List.take_add, List.drop_drop]
    rw [e]; exact (h2 γ hγ).append (h4 γ hγ)
theorem elems_open {k : Nat} (ih : OpenAt enc P W base sp hd k) {cs : List Value} {n : Nat} {e : TypeId} {sh : List Sh} (hsh : shB P k e = some sh) (hc : P.cellsOf e = sh.length) : ∀ (m i0 : Nat), (∀ i, i < m → ∃ y, DataW.trod enc P W base sp hd n e ((cs.drop ((i0 + i) * P.cellsOf e)).take (P.cellsOf e)) = some y) → ∃ r, RowFit (List.replicate m sh).flatten r ∧ ∀ γ : G, γ.fz = fzAll W → ECL γ (recE (List.replicate m sh).flatten r) ((cs.drop (i0 * sh.length)).take (m * sh.length))
  | 0, i0, _ => ⟨[], .nil, fun γ _ => by
      rw [Nat.zero_mul, List.take_zero]; exact ECL.nil γ⟩
  | m + 1, i0, h => by
    obtain ⟨y, hy⟩ := h 0 (by omega); rw [hc, Nat.add_zero] at hy; obtain ⟨r1, h1, h2⟩ := ih e sh n _ y hsh hy; obtain ⟨r2, h3, h4⟩ := elems_open ih hsh hc m (i0 + 1) fun i hi => by
      have := h (i + 1) (by omega)
      rwa [show i0 + (i + 1) = i0 + 1 + i by omega] at this
    refine ⟨r1 ++ r2, by rw [List.replicate_succ, List.flatten_cons]; exact h1.append h3, fun γ hγ => ?_⟩; rw [List.replicate_succ, List.flatten_cons, recE_app h1.len, Nat.succ_mul, Nat.add_comm, List.take_add, List.drop_drop]; have := h4 γ hγ; rw [Nat.succ_mul] at this; exact (h2 γ hγ).append this
theorem open_cells : ∀ k, OpenAt enc P W base sp hd k
  | 0 => fun t sh fuel cs x h => by cases h
  | k + 1 => fun t sh fuel cs x h ht => by
    have ih : OpenAt enc P W base sp hd k := open_cells k; unfold shB at h; split at h
    · rename_i κ hu; injection h with h; subst h
      obtain ⟨n, rfl, _, hw⟩ := DataW.trod_int hu ht; refine ⟨[.i n], ⟨rfl, fun f s hf => ?_⟩, fun γ _ => .cons (.v _) (.nil _)⟩; obtain ⟨rfl, rfl⟩ := one_f hf; exact .int κ n hw
    · rename_i hu; injection h with h; subst h
      obtain ⟨b, rfl, _⟩ := DataW.trod_bool hu ht; refine ⟨[.b b], ⟨rfl, fun f s hf => ?_⟩, fun γ _ => .cons (.v _) (.nil _)⟩; obtain ⟨rfl, rfl⟩ := one_f hf; exact .bool b
    · rename_i hu; injection h with h; subst h
      obtain ⟨s, rfl, _, hs⟩ := DataW.trod_string hu ht; refine ⟨[.s s], ⟨rfl, fun f s hf => ?_⟩, fun γ _ => .cons (.v _) (.nil _)⟩; obtain ⟨rfl, rfl⟩ := one_f hf; exact .str _ hs
    · rename_i e hu; split at h
      case h_2 => cases h
      rename_i sh' hsh; split at h
      case isFalse => cases h
      rename_i hc; injection h with h; subst h
      rcases DataW.trod_slice hu ht with ⟨rfl, _⟩ | ⟨a, len, cap, elems, rest, n, _, rfl, _, hb, hlc, hcm, hel, hall, _⟩
      · refine ⟨[.l []], ⟨rfl, fun f s hf => ?_⟩, fun γ _ => .cons ?_ (.nil _)⟩
        · obtain ⟨rfl, rfl⟩ := one_f hf; exact .list sh' [] (Nat.zero_le _) (fun j hj => by simp at hj) (fun j f s hj => by simp at hj)
        · exact UOk.ec (s := .list sh') (.empty sh' (.l []) none 0 rfl (Nat.zero_le _) fun _ => rfl)
      · have each : ∀ i, i < len → ∃ r, RowFit sh' r ∧ ∃ ys, W.cells? base (a.add (i * sh'.length)) sh'.length = some ys ∧ ∀ γ : G, γ.fz = fzAll W → ECL γ (recE sh' r) ys := fun i hi => by
          have h1 := hall i hi; rw [hc.1] at h1; have h2 : i < elems.length := by omega
          rw [List.getElem?_eq_getElem h2] at h1; obtain ⟨ys, h3, h4⟩ := Option.bind_eq_some_iff.1 h1; obtain ⟨r, h5, h6⟩ := ih e sh' n ys _ hsh h4; exact ⟨r, h5, ys, h3, h6⟩
        obtain ⟨l, hl, hQ⟩ := list_of len each; refine ⟨[.l l], ⟨rfl, fun f s hf => ?_⟩, fun γ hγ => .cons ?_ (.nil _)⟩
        · obtain ⟨rfl, rfl⟩ := one_f hf; exact .list sh' l (by omega) (fun j hj => (hQ j (by omega)).1.len) fun j f s hj hf => (hQ j (by omega)).1.fit f s hf
        · refine UOk.ec (s := .list sh') ?_
          by_cases h0 : len = 0
          · have : l = [] := List.eq_nil_of_length_eq_zero (by omega); subst this; subst h0; exact .empty sh' (.l []) (some a) cap rfl hcm fun e => by cases e
          · obtain ⟨b, off, spot⟩ := a; have hblk : spot = none ∧ ∃ arr ty fz, W.heap[b]? = some (.cells arr ty fz) := by
              obtain ⟨h1, ys, h2, h3⟩ := hQ 0 (by omega); obtain ⟨_, h4, h5⟩ := World.cells?_some h2; have h6 := h5 0 hc.2; rw [List.getElem?_eq_getElem (show 0 < ys.length by omega)] at h6; have h6 : W.cell? ⟨b, off, spot⟩ = some ys[0] := by
                have e : ((⟨b, off, spot⟩ : Addr).add (0 * sh'.length)).add 0 = ⟨b, off, spot⟩ := by simp [Addr.add]
                rw [e] at h6; exact h6
              unfold World.cell? at h6; split at h6
              · rename_i arr ty fz hb'; split at h6
                · cases h6
                · rename_i hs; exact ⟨by cases spot <;> simp_all, arr, ty, fz, hb'⟩
              · cases h6
            obtain ⟨rfl, arr, ty, fz, hblk⟩ := hblk; have cellAt : ∀ i f, i < len → f < sh'.length → ∃ y, W.cell? ⟨b, off + (i * sh'.length + f), none⟩ = some y ∧ ∀ s, sh'[f]? = some s → UOk γ.fz s ((l.getD i []).getD f (.i 0)) y := fun i f hi hf => by
              obtain ⟨h1, ys, h2, h3⟩ := hQ i hi; obtain ⟨_, h4, h5⟩ := World.cells?_some h2; have h6 := h5 f hf; have h7 : f < ys.length := by omega
              rw [List.getElem?_eq_getElem h7] at h6; refine ⟨ys[f], ?_, fun s hs => ?_⟩
              · have e : ((⟨b, off, none⟩ : Addr).add (i * sh'.length)).add f = ⟨b, off + (i * sh'.length + f), none⟩ := by
                  unfold Addr.add; split <;> split <;> simp_all [Nat.add_assoc]
                rw [← h6, e]
              · have h8 := recE_get (s := s) (f := f) (sh := sh') (l.getD i []) hs; have h9 := (h3 γ hγ).2 f _ ys[f] h8 (List.getElem?_eq_getElem h7); exact UOk.of_ec h9
            have getA : ∀ i f, i < len → f < sh'.length → ∃ y, arr[off + (i * sh'.length + f)]? = some y ∧ ∀ s, sh'[f]? = some s → UOk γ.fz s ((l.getD i []).getD f (.i 0)) y := fun i f hi hf => by
              obtain ⟨y, h1, h2⟩ := cellAt i f hi hf; refine ⟨y, ?_, h2⟩; unfold World.cell? at h1; simpa [hblk] using h1
            have hk : γ.fz b = some arr := by
              rw [hγ]; unfold fzAll; rw [hblk]
            subst hl; refine .list sh' (.l l) b off cap arr hk hlc hcm ?_ fun j f s x hj hf hx => ?_
            · show off + l.length * sh'.length ≤ arr.size; obtain ⟨y, h1, _⟩ := getA (l.length - 1) (sh'.length - 1) (by omega) (by omega); have := (Array.getElem?_eq_some_iff.1 h1).1; have e : l.length * sh'.length = (l.length - 1) * sh'.length + sh'.length := by rw [← Nat.succ_mul]; congr 1; omega
              omega
            · obtain ⟨y, h1, h2⟩ := getA j f hj (List.getElem?_eq_some_iff.1 hf).1; rw [h1] at hx; injection hx with hx; subst hx; exact h2 s hf
    · rename_i fs hu; split at h
      case h_2 => cases h
      rename_i sh' hsh; split at h
      case isFalse => cases h
      rename_i hc; injection h with h; subst h
      obtain ⟨xs, n, _, _, hl, hlen, hf⟩ := DataW.trod_struct hu ht; obtain ⟨r, h1, h2⟩ := fields_open (cs := cs) (n := n) ih fs.toList 0 sh' hsh fun f hm => by
        obtain ⟨i, hi, rfl⟩ := List.getElem_of_mem hm; have hi2 : i < fs.size := by simpa using hi
        have := hf i fs.toList[i] (by simp [hi2]); rw [List.getElem?_eq_getElem (by omega)] at this; exact ⟨_, this⟩
      refine ⟨r, h1, fun γ hγ => ?_⟩; have := h2 γ hγ
      rwa [List.drop_zero, List.take_of_length_le (by omega)] at this
    · rename_i m e hu; split at h
      case h_2 => cases h
      rename_i sh' hsh; split at h
      case isFalse => cases h
      rename_i hc; injection h with h; subst h
      obtain ⟨xs, n, _, _, hl, hlen, hf⟩ := DataW.trod_array hu ht; obtain ⟨r, h1, h2⟩ := elems_open (cs := cs) (n := n) ih hsh hc.1 m 0 fun i hi => by
        have := hf i hi; rw [List.getElem?_eq_getElem (by omega)] at this; rw [Nat.zero_add]; exact ⟨_, this⟩
      refine ⟨r, h1, fun γ hγ => ?_⟩; have := h2 γ hγ
      rwa [Nat.zero_mul, List.drop_zero, List.take_of_length_le (by omega)] at this
    · cases h

theorem open_agg {t : TypeId} {fs : Array Field} {v : Value} {d : DataW H} {ps : List MemPlace} {k b0 : Nat} {rc : Reach} {sh : List Sh} (hu : P.underlying t = some (.struct fs)) (hs : shB P k t = some sh) (hv : Value.okWide P W rc b0 t v) (h : DataW.Trod enc P W base sp hd t v d ps) : ∃ r, RowFit sh r ∧ EC (gAll W) (.agg (recE sh r)) v := by
  obtain ⟨cs, rfl, _⟩ := okWide_struct hu hv; obtain ⟨fuel, hf⟩ := h; obtain ⟨r, h1, h2⟩ := open_cells k t sh fuel _ _ hs hf; have h3 := h2 (gAll W) rfl; refine ⟨r, h1, ?_⟩; have := EC.agg (γ := gAll W) (recE sh r) cs.toList h3.1 h3.2; simpa using this

end Ev
end Go.Proofs.Ytonbfalbfdkieaa
namespace Go.Proofs.Ytonbfalbfdkieaa.Ev
open Go.Proofs
namespace LPts
end LPts
noncomputable def spPts : ZCT := fun ax => match ax with
  | [.lst (.recs [.int .i64, .int .i64, .int .i64] a), .lst (.recs [.int .i64, .int .i64, .int .i64] b)] => some ⟨decide (eqR a b ∧ a.length ≤ 100000), bv true, [], 0⟩
  | _ => none
namespace LFar
noncomputable def RUN (s : ES) : ZF := RZ 15 .nil (fun _ => false) [] [] false s
theorem in_t (n k : Int) (X P : List (List U)) : RUN (st0 15 [clE n X P, iv k]) = (bc (decide (k < Int.ofNat (List.length X))) (bc (decide (Int.ofNat (List.length X) ≤ (20000 : Int))) (.done (EV.v (Value.bool true)) [] 0) (bc (decide ((20100 : Int) < Int.ofNat (List.length X))) (.done (EV.v (Value.bool true)) [] 0) (bc (decide ((60 : Int) < n)) (.done (EV.v (Value.bool true)) [] 0) (bc (decide (k < Int.ofNat (List.length P))) (bc (decide (Int.ofNat (List.length P) ≤ (6400 : Int))) (.done (EV.v (Value.bool true)) [] 0) (.done (EV.v (Value.bool (decide ((6500 : Int) < Int.ofNat (List.length P))))) [] 0)) (.done (EV.v (Value.bool (decide ((6500 : Int) < Int.ofNat (List.length P))))) [] 0))))) (bc (decide ((20100 : Int) < Int.ofNat (List.length X))) (.done (EV.v (Value.bool true)) [] 0) (bc (decide ((60 : Int) < n)) (.done (EV.v (Value.bool true)) [] 0) (bc (decide (k < Int.ofNat (List.length P))) (bc (decide (Int.ofNat (List.length P) ≤ (6400 : Int))) (.done (EV.v (Value.bool true)) [] 0) (.done (EV.v (Value.bool (decide ((6500 : Int) < Int.ofNat (List.length P))))) [] 0)) (.done (EV.v (Value.bool (decide ((6500 : Int) < Int.ofNat (List.length P))))) [] 0))))) := by kernel_rfl
end LFar

noncomputable def farB (n k : Int) (X P : List (List U)) : Bool := bc (decide (k < (X.length : Int) ∧ (X.length : Int) ≤ 20000)) true (bc (decide (20100 < (X.length : Int))) true (bc (decide (60 < n)) true (bc (decide (k < (P.length : Int) ∧ (P.length : Int) ≤ 6400)) true (decide (6500 < (P.length : Int))))))
theorem LFar.ends (n k : Int) (X P : List (List U)) : EndZ 15 .nil false (st0 15 [clE n X P, iv k]) (bv (farB n k X P)) [] 0 := by
  have h := LFar.in_t n k X P; unfold farB; simp only [ofn] at h; have h3 : ∀ {R : ZF}, R = bc (decide (k < (P.length : Int))) (bc (decide ((P.length : Int) ≤ 6400)) (.done (bv true) [] 0) (.done (bv (decide (6500 < (P.length : Int)))) [] 0)) (.done (bv (decide (6500 < (P.length : Int)))) [] 0) → R = .done (bv (bc (decide (k < (P.length : Int) ∧ (P.length : Int) ≤ 6400)) true (decide (6500 < (P.length : Int))))) [] 0 := by
    intro R e; rw [e]
    by_cases h1 : k < (P.length : Int)
    · by_cases h2 : (P.length : Int) ≤ 6400
      · rw [dt h1, dt h2, dt (show k < (P.length : Int) ∧ (P.length : Int) ≤ 6400 from ⟨h1, h2⟩)]; rfl
      · rw [dt h1, df h2, df (show ¬ (k < (P.length : Int) ∧ (P.length : Int) ≤ 6400) from fun h => h2 h.2)]; rfl
    · rw [df h1, df (show ¬ (k < (P.length : Int) ∧ (P.length : Int) ≤ 6400) from fun h => h1 h.1)]; rfl
  have h4 : ∀ {R : ZF}, R = bc (decide (20100 < (X.length : Int))) (.done (bv true) [] 0) (bc (decide (60 < n)) (.done (bv true) [] 0) (bc (decide (k < (P.length : Int))) (bc (decide ((P.length : Int) ≤ 6400)) (.done (bv true) [] 0) (.done (bv (decide (6500 < (P.length : Int)))) [] 0)) (.done (bv (decide (6500 < (P.length : Int)))) [] 0))) → R = .done (bv (bc (decide (20100 < (X.length : Int))) true (bc (decide (60 < n)) true (bc (decide (k < (P.length : Int) ∧ (P.length : Int) ≤ 6400)) true (decide (6500 < (P.length : Int))))))) [] 0 := by
    intro R e; rw [e]; cases decide (20100 < (X.length : Int))
    · rw [bc_f, bc_f]; cases decide (60 < n)
      · rw [bc_f, bc_f]; exact h3 rfl
      · rfl
    · rfl
  by_cases h1 : k < (X.length : Int)
  · by_cases h2 : (X.length : Int) ≤ 20000
    · rw [dt h1, dt h2, bc_t, bc_t] at h; rw [dt (show k < (X.length : Int) ∧ (X.length : Int) ≤ 20000 from ⟨h1, h2⟩), bc_t]
      exact .done h
    · rw [dt h1, df h2, bc_t, bc_f] at h; rw [df (show ¬ (k < (X.length : Int) ∧ (X.length : Int) ≤ 20000) from fun h => h2 h.2), bc_f]
      exact .done (h4 h)
  · rw [df h1, bc_f] at h; rw [df (show ¬ (k < (X.length : Int) ∧ (X.length : Int) ≤ 20000) from fun h => h1 h.1), bc_f]
    exact .done (h4 h)
noncomputable def spFar : ZCT := fun ax => match ax with
  | [.agg [.v (.int .i64 n), .lst (.recs [.int .i64, .int .i64, .int .i64, .int .i64] X), .lst (.recs [.int .i64, .int .i64, .int .i64, .int .i64] P)], .v (.int .i64 k)] => some ⟨decide (True), bv (farB n k X P), [], 0⟩
  | _ => none
theorem spFar_ok : ZCtOk Try.prog 15 spFar := fun γ w us ax r hs hc hax hN hfz => by
  unfold spFar at hs; split at hs
  case h_2 => cases hs
  rename_i n X P k; obtain ⟨rfl⟩ := Option.some.inj hs; have hc_0 : decide (True) = true := hc; have hc := of_decide_eq_true hc_0; exact EndZ.calls (LFar.ends n k X P) (.nil _) (by kernel_rfl) hax hN hfz
namespace ACmF
end ACmF
end Go.Proofs.Ytonbfalbfdkieaa.Ev
namespace Go.Proofs.Ytonbfalbfdkieaa.Ev
open Go.Proofs
noncomputable def diP (n m : Int) (X P Y Q : List (List U)) : List Int × List Int := bc (fiE n m X P Y Q != 0) ([], []) (othF (coP n m X P Y Q).1 0 X.length, othF (coP n m X P Y Q).2 0 Y.length)
theorem comF_len {Y R : List (List U)} : ∀ (q : List (List U)) (i : Nat) (D : List Int), (comF Y R q i D).1.length ≤ q.length ∧ (comF Y R q i D).2.length ≤ q.length
  | [], _, _ => ⟨Nat.le_refl _, Nat.le_refl _⟩
  | r :: q, i, D => by
    unfold comF; generalize comB Y R D r = b; obtain ⟨h1, h2⟩ := comF_len (Y := Y) (R := R) q (i + 1) (stepD b D r); cases b
    · rw [bc_f, List.length_cons]; exact ⟨by omega, by omega⟩
    · rw [bc_t, List.length_cons, List.length_cons, List.length_cons]; exact ⟨by omega, by omega⟩
theorem fiE_0 {n m : Int} {X P Y Q : List (List U)} (hE : fiE n m X P Y Q = 0) : chk17 n X P = 0 ∧ chk17 m Y Q = 0 ∧ n = m := by
  have z1 : chk17 n X P = 0 := by
    apply Classical.byContradiction; intro z; unfold fiE at hE; rw [show (chk17 n X P != 0) = true by simp [z], bc_t] at hE; exact z hE
  have b1 : (chk17 n X P != 0) = false := by simp [z1]
  have z2 : chk17 m Y Q = 0 := by
    apply Classical.byContradiction; intro z; unfold fiE at hE; rw [b1, bc_f, show (chk17 m Y Q != 0) = true by simp [z], bc_t] at hE; exact z hE
  have b3 : (chk17 m Y Q != 0) = false := by simp [z2]
  refine ⟨z1, z2, ?_⟩; apply Classical.byContradiction; intro z; unfold fiE at hE; rw [b1, bc_f, b3, bc_f, show (n != m) = true by simp [z], bc_t] at hE; cases hE
theorem coP_len {n m : Int} {X P Y Q : List (List U)} : (coP n m X P Y Q).1.length ≤ 20000 ∧ (coP n m X P Y Q).2.length ≤ 20000 := by
  unfold coP; cases h : (fiE n m X P Y Q != 0)
  · rw [bc_f]; have h0 : fiE n m X P Y Q = 0 := by simpa using h
    obtain ⟨z1, _⟩ := fiE_0 h0; obtain ⟨_, _, c3, _⟩ := chk17_ok z1; have := comF_len (Y := Y) (R := rowsT (thF Y 0 (th0 n.toNat))) X 0 (zerosL n.toNat); exact ⟨by omega, by omega⟩
  · rw [bc_t]; exact ⟨Nat.zero_le _, Nat.zero_le _⟩
theorem dif_err {n m : Int} {X P Y Q : List (List U)} (h : (fiE n m X P Y Q != 0) = true) : Weak (.tup [.v (.slice none 0 0), .v (.slice none 0 0), iv (fiE n m X P Y Q)]) (.tup [il (diP n m X P Y Q).1, il (diP n m X P Y Q).2, iv (fiE n m X P Y Q)]) := by
  unfold diP; rw [h, bc_t]; exact Weak.tup (.cons (Weak.nilI _) (.cons (Weak.nilI _) (.cons (Weak.refl _) .nil)))
theorem dif_ok {n m : Int} {X P Y Q : List (List U)} (h : (fiE n m X P Y Q != 0) = false) : X.length ≤ 20000 ∧ Y.length ≤ 20000 ∧ diP n m X P Y Q = (othF (coP n m X P Y Q).1 0 X.length, othF (coP n m X P Y Q).2 0 Y.length) := by
  have h0 : fiE n m X P Y Q = 0 := by simpa using h
  obtain ⟨z1, z2, _⟩ := fiE_0 h0; obtain ⟨_, _, c3, _⟩ := chk17_ok z1; obtain ⟨_, _, d3, _⟩ := chk17_ok z2; refine ⟨c3, d3, ?_⟩; unfold diP; rw [h, bc_f]
theorem PDif.ends (n m : Int) (X P Y Q : List (List U)) : EndZ 75 ctPD false (st0 75 [clE n X P, clE m Y Q]) (.tup [il (diP n m X P Y Q).1, il (diP n m X P Y Q).2, iv (fiE n m X P Y Q)]) [] 0 := by
  have h := PDif.in_t n m X P Y Q; cases h0 : (fiE n m X P Y Q != 0)
  · obtain ⟨c3, d3, hd⟩ := dif_ok h0; have hl := coP_len (n := n) (m := m) (X := X) (P := P) (Y := Y) (Q := Q); have hE : fiE n m X P Y Q = 0 := by simpa using h0
    rw [h0, bc_f] at h; rw [hd, hE]; rw [eqSy_self, dt (show (0 : Int) ≤ Int.ofNat X.length ∧ Int.ofNat X.length ≤ 50000 ∧ (coP n m X P Y Q).1.length ≤ 50000 from ⟨by rw [ofn]; omega, by rw [ofn]; omega, by omega⟩), dt (show (0 : Int) ≤ Int.ofNat Y.length ∧ Int.ofNat Y.length ≤ 50000 ∧ (coP n m X P Y Q).2.length ≤ 50000 from ⟨by rw [ofn]; omega, by rw [ofn]; omega, by omega⟩)] at h
    exact .done h
  · rw [h0, bc_t] at h; exact (EndZ.done h).weak (dif_err h0)
theorem RDif.ends (n m : Int) (X P Y Q : List (List U)) : EndZ 76 ctRD false (st0 76 [clE n X P, clE m Y Q]) (.tup [il (diP n m X P Y Q).1, il (diP n m X P Y Q).2, iv (fiE n m X P Y Q)]) [] 0 := by
  have h := RDif.in_t n m X P Y Q; cases h0 : (fiE n m X P Y Q != 0)
  · obtain ⟨c3, d3, hd⟩ := dif_ok h0; have hl := coP_len (n := n) (m := m) (X := X) (P := P) (Y := Y) (Q := Q); have hE : fiE n m X P Y Q = 0 := by simpa using h0
    rw [h0, bc_f] at h; rw [hd, hE]; rw [eqSy_self, dt (show (0 : Int) ≤ Int.ofNat X.length ∧ Int.ofNat X.length ≤ 50000 ∧ (coP n m X P Y Q).1.length ≤ 50000 from ⟨by rw [ofn]; omega, by rw [ofn]; omega, by omega⟩), dt (show (0 : Int) ≤ Int.ofNat Y.length ∧ Int.ofNat Y.length ≤ 50000 ∧ (coP n m X P Y Q).2.length ≤ 50000 from ⟨by rw [ofn]; omega, by rw [ofn]; omega, by omega⟩)] at h
    exact .done h
  · rw [h0, bc_t] at h; exact (EndZ.done h).weak (dif_err h0)
noncomputable def spPDif : ZCT := fun ax => match ax with
  | [.agg [.v (.int .i64 n), .lst (.recs [.int .i64, .int .i64, .int .i64, .int .i64] X), .lst (.recs [.int .i64, .int .i64, .int .i64, .int .i64] P)], .agg [.v (.int .i64 m), .lst (.recs [.int .i64, .int .i64, .int .i64, .int .i64] Y), .lst (.recs [.int .i64, .int .i64, .int .i64, .int .i64] Q)]] => some ⟨decide (True), .tup [il (diP n m X P Y Q).1, il (diP n m X P Y Q).2, iv (fiE n m X P Y Q)], [], 0⟩
  | _ => none
theorem spPDif_ok : ZCtOk Try.prog 75 spPDif := fun γ w us ax r hs hc hax hN hfz => by
  unfold spPDif at hs; split at hs
  case h_2 => cases hs
  rename_i n X P m Y Q; obtain ⟨rfl⟩ := Option.some.inj hs; have hc_0 : decide (True) = true := hc; have hc := of_decide_eq_true hc_0; exact EndZ.calls (PDif.ends n m X P Y Q) ctPD_ok (by kernel_rfl) hax hN hfz
noncomputable def spRDif : ZCT := fun ax => match ax with
  | [.agg [.v (.int .i64 n), .lst (.recs [.int .i64, .int .i64, .int .i64, .int .i64] X), .lst (.recs [.int .i64, .int .i64, .int .i64, .int .i64] P)], .agg [.v (.int .i64 m), .lst (.recs [.int .i64, .int .i64, .int .i64, .int .i64] Y), .lst (.recs [.int .i64, .int .i64, .int .i64, .int .i64] Q)]] => some ⟨decide (True), .tup [il (diP n m X P Y Q).1, il (diP n m X P Y Q).2, iv (fiE n m X P Y Q)], [], 0⟩
  | _ => none
theorem spRDif_ok : ZCtOk Try.prog 76 spRDif := fun γ w us ax r hs hc hax hN hfz => by
  unfold spRDif at hs; split at hs
  case h_2 => cases hs
  rename_i n X P m Y Q; obtain ⟨rfl⟩ := Option.some.inj hs; have hc_0 : decide (True) = true := hc; have hc := of_decide_eq_true hc_0; exact EndZ.calls (RDif.ends n m X P Y Q) ctRD_ok (by kernel_rfl) hax hN hfz
noncomputable def ctPW : Tr ZCC := (Tr.nil.put 75 (some (dC spPDif))).put 145 (some (dC spPWrk))
theorem ctPW_ok : ZCtsOk Try.prog ctPW := ((ZCtsOk.nil _).add rfl spPDif_ok).add rfl spPWrk_ok
noncomputable def ctRW : Tr ZCC := (Tr.nil.put 76 (some (dC spRDif))).put 146 (some (dC spRWrk))
theorem ctRW_ok : ZCtsOk Try.prog ctRW := ((ZCtsOk.nil _).add rfl spRDif_ok).add rfl spRWrk_ok
namespace PWor
noncomputable def RUN (s : ES) : ZF := RZ 77 ctPW (fun _ => false) [] [] false s
theorem in_t (n m : Int) (X P Y Q : List (List U)) : RUN (st0 77 [clE n X P, clE m Y Q]) = (bc (fiE n m X P Y Q != (0 : Int)) (.done (EV.tup [(EV.v (Value.slice Option.none 0 0)), (EV.v (Value.slice Option.none 0 0)), (EV.v (Value.int IntKind.i64 (fiE n m X P Y Q)))]) [] 0) (bc (bc (bc (decide (List.length (Prod.fst (diP n m X P Y Q)) ≤ (20000 : Nat) ∧ AllIn (Prod.fst (diP n m X P Y Q)) (List.length X))) (bc (decide (List.length (Prod.snd (diP n m X P Y Q)) ≤ (20000 : Nat) ∧ AllIn (Prod.snd (diP n m X P Y Q)) (List.length Y))) true false) false) (bc (bc (bc (bc (decide (m = m)) (bc (eqSy (SyC.recs shX Y) (SyC.recs shX Y)) (bc (eqSy (SyC.recs shX Q) (SyC.recs shX Q)) true false) false) false) true false) true false) true false) false) (.done (EV.tup [(EV.lst (SyC.ints IntKind.i64 (wrkF X (Prod.fst (diP n m X P Y Q))))), (EV.lst (SyC.ints IntKind.i64 (wrkF Y (Prod.snd (diP n m X P Y Q))))), (EV.v (Value.int IntKind.i64 (0)))]) [] 0) .bad)) := by kernel_rfl
end PWor
namespace RWor
noncomputable def RUN (s : ES) : ZF := RZ 78 ctRW (fun _ => false) [] [] false s
theorem in_t (n m : Int) (X P Y Q : List (List U)) : RUN (st0 78 [clE n X P, clE m Y Q]) = (bc (fiE n m X P Y Q != (0 : Int)) (.done (EV.tup [(EV.v (Value.slice Option.none 0 0)), (EV.v (Value.slice Option.none 0 0)), (EV.v (Value.int IntKind.i64 (fiE n m X P Y Q)))]) [] 0) (bc (bc (bc (decide (List.length (Prod.fst (diP n m X P Y Q)) ≤ (20000 : Nat) ∧ AllIn (Prod.fst (diP n m X P Y Q)) (List.length X))) (bc (decide (List.length (Prod.snd (diP n m X P Y Q)) ≤ (20000 : Nat) ∧ AllIn (Prod.snd (diP n m X P Y Q)) (List.length Y))) true false) false) (bc (bc (bc (bc (decide (m = m)) (bc (eqSy (SyC.recs shX Y) (SyC.recs shX Y)) (bc (eqSy (SyC.recs shX Q) (SyC.recs shX Q)) true false) false) false) true false) true false) true false) false) (.done (EV.tup [(EV.lst (SyC.ints IntKind.i64 (wrkF X (Prod.fst (diP n m X P Y Q))))), (EV.lst (SyC.ints IntKind.i64 (wrkF Y (Prod.snd (diP n m X P Y Q))))), (EV.v (Value.int IntKind.i64 (0)))]) [] 0) .bad)) := by kernel_rfl
end RWor
namespace LInt
noncomputable def RUN (s : ES) : ZF := RZ 24 .nil (atS 0 24 4) [] [[(0,none),(1,none),(5,none)]] false s

noncomputable def sS (a b : List Int) (i : Int) : NS := ⟨[⟨24, 26, [(0, (EV.lst (SyC.ints IntKind.i64 (a)))), (1, (EV.lst (SyC.ints IntKind.i64 (b)))), (5, iv i)], [.it (.code (nav [1, 1, 0, 1, 0, 0, 0] (bodyOf Try.f24))), .it (.code (nav [1, 1, 0, 1, 0, 0, 1] (bodyOf Try.f24))), .it (.inLoop (nav [1, 1, 0, 1, 0, 0] (bodyOf Try.f24))), .it (.inBlock 0), .it (.code (nav [1, 1, 1] (bodyOf Try.f24)))], [], Option.none⟩], [], 0⟩
theorem in_t (a b : List Int) : RUN (st0 24 [il a, il b]) = (bc (Int.ofNat (List.length a) != Int.ofNat (List.length b)) (.done (EV.v (Value.bool false)) [] 0) (.at (sS (a) (b) ((0 : Int))))) := by kernel_rfl
theorem step_t (a b : List Int) (i : Int) : RUN (stOf (sS a b i)) = (bc (decide (i < Int.ofNat (List.length a))) (bc (bc (bc (bc (bc (decide ((0 : Int) ≤ i)) (Nat.blt (Int.toNat i) (List.length a)) false) true false) (bc (bc (Nat.blt (Int.toNat i) (List.length a)) true false) (bc (bc (bc (decide ((0 : Int) ≤ i)) (Nat.blt (Int.toNat i) (List.length b)) false) true false) (bc (bc (Nat.blt (Int.toNat i) (List.length b)) true false) true false) false) false) false) true false) (bc (List.getD a (Int.toNat i) (0 : Int) != List.getD b (Int.toNat i) (0 : Int)) (.done (EV.v (Value.bool false)) [] 0) (.at (sS (a) (b) (IntKind.wrap IntKind.i64 (i + (1 : Int)))))) .bad) (.done (EV.v (Value.bool true)) [] 0)) := by kernel_rfl
theorem loop {a : List Int} (hl : a.length ≤ 100000) : ∀ (k i : Nat), i + k = a.length → EndZ 24 .nil false (stOf (sS a a i)) (bv true) [] 0
  | 0, i, h => by
    have hs := step_t a a i; simp (disch := omega) only [Nat.add_eq, eqSy_self, eqN_self, bc_same, List.length_cons, ofn, wrap_in, dt, df, bltD, bltN, ble_of, bleN, beqD, bc_t, bc_f, nn_ok, Nat.zero_add, to_nat, Int.zero_add, Int.sub_zero, Int.sub_self, Int.cast_ofNat_Int, Int.natCast_zero, Int.toNat_zero, List.take_zero, List.nil_append, List.length_append, List.length_nil] at hs; exact .done hs
  | k + 1, i, h => by
    have hs := step_t a a i; have e : (a.getD i 0 != a.getD i 0) = false := by simp
    simp (disch := omega) only [Nat.add_eq, eqSy_self, eqN_self, bc_same, List.length_cons, ofn, wrap_in, dt, df, bltD, bltN, ble_of, bleN, beqD, bc_t, bc_f, nn_ok, Nat.zero_add, to_nat, Int.zero_add, Int.sub_zero, Int.sub_self, Int.cast_ofNat_Int, Int.natCast_zero, Int.toNat_zero, List.take_zero, List.nil_append, List.length_append, List.length_nil, e] at hs; exact .at (.nil _) hs (loop hl k (i + 1) (by omega))
end LInt
noncomputable def spSI4 : ZCT := fun ax => match ax with
  | [.lst (.ints .i64 a), .lst (.ints .i64 b)] => some ⟨decide (a = b ∧ a.length ≤ 100000), bv true, [], 0⟩
  | _ => none
theorem spSI4_ok : ZCtOk Try.prog 24 spSI4 := fun γ w us ax r hs hc hax hN hfz => by
  unfold spSI4 at hs; split at hs
  case h_2 => cases hs
  rename_i a b; obtain ⟨rfl⟩ := Option.some.inj hs; have hc_0 : decide (a = b ∧ a.length ≤ 100000) = true := hc; have hc := of_decide_eq_true hc_0; exact EndZ.calls (by
    obtain ⟨rfl, hl⟩ := hc; have h := LInt.in_t a a; have e : (Int.ofNat a.length != Int.ofNat a.length) = false := by simp
    rw [e, bc_f] at h; exact .at (.nil _) h (LInt.loop hl a.length 0 (by omega))) (.nil _) (by kernel_rfl) hax hN hfz
end Go.Proofs.Ytonbfalbfdkieaa.Ev
