/- CompareBegins returns true, for all arguments, in every world in which it is called, and nothing that was there turns. -/
import Derived.Test.YtjlfedhkpdogbaaRows
import Derived.WalkKit
import Derived.ProofKit
import Derived.Test.YtjlfedhkpdogbaaBgM6
set_option linter.unusedSimpArgs false
set_option linter.unusedVariables false
namespace Go.Proofs.Ytjlfedhkpdogbaa.Ev
open Go.Proofs
noncomputable def ctBg : Tr ZCC := ((((((((Tr.nil.put 17 (some (dC spPCom))).put 18 (some (dC spKpt))).put 24 (some (mC (bM spClo)))).put 16 (some (dC spPSam))).put 11 (some (dC spPFir))).put 25 (some (dC spPDif))).put 26 (some (dC spTur))).put 9 (some (dC spFar))).put 10 (some (dC spTrue))
theorem ctBg_ok : ZCtsOk Try.prog ctBg := (((((((((ZCtsOk.nil _).add rfl spPCom_ok).add rfl spKpt_ok).addM rfl (bM_ok spClo_ok)).add rfl spPSam_ok).add rfl spPFir_ok).add rfl spPDif_ok).add rfl spTur_ok).add rfl spFar_ok).add rfl spShown_ok
namespace ABeg
noncomputable def RUN (s : ES) : ZF := RZs 6 ctBg [(atS 0 6 10, [[(2,none),(3,none),(5,none),(6,none),(8,none),(9,none),(10,none)]]), (atS 0 6 15, [[(2,none),(3,none),(5,none),(6,none),(8,none),(9,none),(11,none)]]), (atS 0 6 20, [[(2,none),(3,none),(5,none),(6,none),(8,none),(9,none),(12,none)]]), (atS 0 6 25, [[(2,none),(3,none),(5,none),(6,none),(8,none),(9,none),(12,none),(13,none)]])] [] false s

noncomputable def sA (n m : Int) (X P Y Q : List (List U)) (x y : List Int) (da db : Nat) (wa wb : List Bool) (i : Int) : NS := ⟨[⟨6, 227, [(2, (EV.ptr 0 0)), (3, (EV.ptr 1 0)), (5, il x), (6, il y), (8, EV.slO 2 1 da true), (9, EV.slO 3 1 db true), (10, iv i)], [.it (.code (nav [1, 1, 1, 1, 1, 1, 0, 1, 0, 0, 0] (bodyOf Try.f6))), .it (.code (nav [1, 1, 1, 1, 1, 1, 0, 1, 0, 0, 1] (bodyOf Try.f6))), .it (.inLoop (nav [1, 1, 1, 1, 1, 1, 0, 1, 0, 0] (bodyOf Try.f6))), .it (.inBlock 0), .it (.code (nav [1, 1, 1, 1, 1, 1, 1] (bodyOf Try.f6)))], [], Option.none⟩], [(0, (EK.cells 25 [(EV.v (Value.int IntKind.i64 (n))), (EV.lst (SyC.recs [(Sh.int IntKind.i64), (Sh.int IntKind.i64), (Sh.int IntKind.i64), (Sh.int IntKind.i64)] (X))), (EV.lst (SyC.recs [(Sh.int IntKind.i64), (Sh.int IntKind.i64), (Sh.int IntKind.i64), (Sh.int IntKind.i64)] (P)))] true)), (1, (EK.cells 25 [(EV.v (Value.int IntKind.i64 (m))), (EV.lst (SyC.recs [(Sh.int IntKind.i64), (Sh.int IntKind.i64), (Sh.int IntKind.i64), (Sh.int IntKind.i64)] (Y))), (EV.lst (SyC.recs [(Sh.int IntKind.i64), (Sh.int IntKind.i64), (Sh.int IntKind.i64), (Sh.int IntKind.i64)] (Q)))] true)), (2, EK.seq 4 (.bools wa) true), (3, EK.seq 4 (.bools wb) true)], 4⟩
noncomputable def sB (n m : Int) (X P Y Q : List (List U)) (x y : List Int) (da db : Nat) (wa wb : List Bool) (i : Int) : NS := ⟨[⟨6, 227, [(2, (EV.ptr 0 0)), (3, (EV.ptr 1 0)), (5, il x), (6, il y), (8, EV.slO 2 1 da true), (9, EV.slO 3 1 db true), (11, iv i)], [.it (.code (nav [1, 1, 1, 1, 1, 1, 1, 0, 1, 0, 0, 0] (bodyOf Try.f6))), .it (.code (nav [1, 1, 1, 1, 1, 1, 1, 0, 1, 0, 0, 1] (bodyOf Try.f6))), .it (.inLoop (nav [1, 1, 1, 1, 1, 1, 1, 0, 1, 0, 0] (bodyOf Try.f6))), .it (.inBlock 2), .it (.code (nav [1, 1, 1, 1, 1, 1, 1, 1] (bodyOf Try.f6)))], [], Option.none⟩], [(0, (EK.cells 25 [(EV.v (Value.int IntKind.i64 (n))), (EV.lst (SyC.recs [(Sh.int IntKind.i64), (Sh.int IntKind.i64), (Sh.int IntKind.i64), (Sh.int IntKind.i64)] (X))), (EV.lst (SyC.recs [(Sh.int IntKind.i64), (Sh.int IntKind.i64), (Sh.int IntKind.i64), (Sh.int IntKind.i64)] (P)))] true)), (1, (EK.cells 25 [(EV.v (Value.int IntKind.i64 (m))), (EV.lst (SyC.recs [(Sh.int IntKind.i64), (Sh.int IntKind.i64), (Sh.int IntKind.i64), (Sh.int IntKind.i64)] (Y))), (EV.lst (SyC.recs [(Sh.int IntKind.i64), (Sh.int IntKind.i64), (Sh.int IntKind.i64), (Sh.int IntKind.i64)] (Q)))] true)), (2, EK.seq 4 (.bools wa) true), (3, EK.seq 4 (.bools wb) true)], 4⟩
noncomputable def sC (n m : Int) (X P Y Q : List (List U)) (x y : List Int) (da db : Nat) (wa wb : List Bool) (k : Int) : NS := ⟨[⟨6, 227, [(2, (EV.ptr 0 0)), (3, (EV.ptr 1 0)), (5, il x), (6, il y), (8, EV.slO 2 1 da true), (9, EV.slO 3 1 db true), (12, iv k)], [.it (.code (nav [1, 1, 1, 1, 1, 1, 1, 1, 0, 1, 0, 0, 0] (bodyOf Try.f6))), .it (.code (nav [1, 1, 1, 1, 1, 1, 1, 1, 0, 1, 0, 0, 1] (bodyOf Try.f6))), .it (.inLoop (nav [1, 1, 1, 1, 1, 1, 1, 1, 0, 1, 0, 0] (bodyOf Try.f6))), .it (.inBlock 4), .it (.code (nav [1, 1, 1, 1, 1, 1, 1, 1, 1] (bodyOf Try.f6)))], [], Option.none⟩], [(0, (EK.cells 25 [(EV.v (Value.int IntKind.i64 (n))), (EV.lst (SyC.recs [(Sh.int IntKind.i64), (Sh.int IntKind.i64), (Sh.int IntKind.i64), (Sh.int IntKind.i64)] (X))), (EV.lst (SyC.recs [(Sh.int IntKind.i64), (Sh.int IntKind.i64), (Sh.int IntKind.i64), (Sh.int IntKind.i64)] (P)))] true)), (1, (EK.cells 25 [(EV.v (Value.int IntKind.i64 (m))), (EV.lst (SyC.recs [(Sh.int IntKind.i64), (Sh.int IntKind.i64), (Sh.int IntKind.i64), (Sh.int IntKind.i64)] (Y))), (EV.lst (SyC.recs [(Sh.int IntKind.i64), (Sh.int IntKind.i64), (Sh.int IntKind.i64), (Sh.int IntKind.i64)] (Q)))] true)), (2, EK.seq 4 (.bools wa) true), (3, EK.seq 4 (.bools wb) true)], 4⟩
noncomputable def sD (n m : Int) (X P Y Q : List (List U)) (x y : List Int) (da db : Nat) (wa wb : List Bool) (k i : Int) : NS := ⟨[⟨6, 227, [(2, (EV.ptr 0 0)), (3, (EV.ptr 1 0)), (5, il x), (6, il y), (8, EV.slO 2 1 da true), (9, EV.slO 3 1 db true), (12, iv k), (13, iv i)], [.it (.code (nav [1, 1, 1, 1, 1, 1, 1, 1, 0, 1, 0, 0, 1, 0, 0, 1, 1, 0, 0, 0] (bodyOf Try.f6))), .it (.code (nav [1, 1, 1, 1, 1, 1, 1, 1, 0, 1, 0, 0, 1, 0, 0, 1, 1, 0, 0, 1] (bodyOf Try.f6))), .it (.inLoop (nav [1, 1, 1, 1, 1, 1, 1, 1, 0, 1, 0, 0, 1, 0, 0, 1, 1, 0, 0] (bodyOf Try.f6))), .it (.inBlock 6), .it (.inBlock 5), .it (.code (nav [1, 1, 1, 1, 1, 1, 1, 1, 0, 1, 0, 0, 1, 1] (bodyOf Try.f6))), .it (.inLoop (nav [1, 1, 1, 1, 1, 1, 1, 1, 0, 1, 0, 0] (bodyOf Try.f6))), .it (.inBlock 4), .it (.code (nav [1, 1, 1, 1, 1, 1, 1, 1, 1] (bodyOf Try.f6)))], [], Option.none⟩], [(0, (EK.cells 25 [(EV.v (Value.int IntKind.i64 (n))), (EV.lst (SyC.recs [(Sh.int IntKind.i64), (Sh.int IntKind.i64), (Sh.int IntKind.i64), (Sh.int IntKind.i64)] (X))), (EV.lst (SyC.recs [(Sh.int IntKind.i64), (Sh.int IntKind.i64), (Sh.int IntKind.i64), (Sh.int IntKind.i64)] (P)))] true)), (1, (EK.cells 25 [(EV.v (Value.int IntKind.i64 (m))), (EV.lst (SyC.recs [(Sh.int IntKind.i64), (Sh.int IntKind.i64), (Sh.int IntKind.i64), (Sh.int IntKind.i64)] (Y))), (EV.lst (SyC.recs [(Sh.int IntKind.i64), (Sh.int IntKind.i64), (Sh.int IntKind.i64), (Sh.int IntKind.i64)] (Q)))] true)), (2, EK.seq 4 (.bools wa) true), (3, EK.seq 4 (.bools wb) true)], 4⟩
theorem in_t (n m : Int) (X P Y Q : List (List U)) : RUN (st0 6 [clE n X P, clE m Y Q]) = (bc (farB n (60 : Int) X P) (.done (EV.v (Value.bool true)) [] 0) (bc (farB m (60 : Int) Y Q) (.done (EV.v (Value.bool true)) [] 0) (bc (fiE n m X P Y Q != (0 : Int)) (bc (Int.ofNat (List.length (Prod.fst (coP n m X P Y Q))) == (0 : Int)) (bc (Int.ofNat (List.length (Prod.snd (coP n m X P Y Q))) == (0 : Int)) (.done (EV.v (Value.bool true)) [] 0) (.done (EV.v (Value.bool false)) [] 0)) (.done (EV.v (Value.bool false)) [] 0)) (bc (bc (decide (List.length (Prod.fst (coP n m X P Y Q)) ≤ (20000 : Nat) ∧ List.length X ≤ (30000 : Nat) ∧ List.length Y ≤ (30000 : Nat) ∧ Kpt X Y (Prod.fst (coP n m X P Y Q)) (Prod.snd (coP n m X P Y Q)))) true false) (bc (bc (bc (bc (decide (Int.ofNat (List.length X) ≤ Int.ofNat (List.length X))) (decide (Int.ofNat (List.length X) ≤ (65536 : Int))) false) (bc (bc (decide (Int.ofNat (List.length Y) ≤ Int.ofNat (List.length Y))) (decide (Int.ofNat (List.length Y) ≤ (65536 : Int))) false) true false) false) true false) (.at (sA (n) (m) (X) (P) (Y) (Q) (Prod.fst (coP n m X P Y Q)) (Prod.snd (coP n m X P Y Q)) (List.length (List.replicate (Int.toNat (Int.ofNat (List.length X))) false)) (List.length (List.replicate (Int.toNat (Int.ofNat (List.length Y))) false)) (List.replicate (Int.toNat (Int.ofNat (List.length X))) false) (List.replicate (Int.toNat (Int.ofNat (List.length Y))) false) ((0 : Int)))) .bad) .bad)))) := by kernel_rfl
theorem a_t (n m : Int) (X P Y Q : List (List U)) (x y : List Int) (da db : Nat) (wa wb : List Bool) (i : Int) : RUN (stOf (sA n m X P Y Q x y da db wa wb i)) = (bc (decide (i < Int.ofNat (List.length x))) (bc (bc (bc (decide ((0 : Int) ≤ i)) (Nat.blt (Int.toNat i) (List.length x)) false) true false) (bc (bc (Nat.blt (Int.toNat i) (List.length x)) true false) (bc (bc (bc (decide ((0 : Int) ≤ List.getD x (Int.toNat i) (0 : Int))) (Nat.blt (Int.toNat (List.getD x (Int.toNat i) (0 : Int))) da) false) true false) (bc (Nat.blt (Int.toNat (List.getD x (Int.toNat i) (0 : Int))) (List.length wa)) (bc (bc (bc (decide ((0 : Int) ≤ i)) (Nat.blt (Int.toNat i) (List.length y)) false) true false) (bc (bc (Nat.blt (Int.toNat i) (List.length y)) true false) (bc (bc (bc (decide ((0 : Int) ≤ List.getD y (Int.toNat i) (0 : Int))) (Nat.blt (Int.toNat (List.getD y (Int.toNat i) (0 : Int))) db) false) true false) (bc (Nat.blt (Int.toNat (List.getD y (Int.toNat i) (0 : Int))) (List.length wb)) (.at (sA (n) (m) (X) (P) (Y) (Q) (x) (y) (da) (db) (List.set wa (Int.toNat (List.getD x (Int.toNat i) (0 : Int))) true) (List.set wb (Int.toNat (List.getD y (Int.toNat i) (0 : Int))) true) (IntKind.wrap IntKind.i64 (i + (1 : Int))))) .bad) .bad) .bad) .bad) .bad) .bad) .bad) .bad) (.at (sB (n) (m) (X) (P) (Y) (Q) (x) (y) (da) (db) (wa) (wb) ((0 : Int))))) := by kernel_rfl
theorem b_t (n m : Int) (X P Y Q : List (List U)) (x y : List Int) (da db : Nat) (wa wb : List Bool) (i : Int) : RUN (stOf (sB n m X P Y Q x y da db wa wb i)) = (bc (decide (i < Int.ofNat da)) (bc (bc (bc (decide ((0 : Int) ≤ i)) (Nat.blt (Int.toNat i) da) false) true false) (bc (bc (Nat.blt (Int.toNat i) (List.length wa)) true false) (bc (List.getD wa (Int.toNat i) false) (bc (bc (bc (bc (Nat.beq da (List.length wa)) true false) (decide ((0 : Int) ≤ i ∧ i < (Nat.cast (List.length X) : Int) ∧ List.length X ≤ (30000 : Nat) ∧ List.length wa = List.length X)) false) true false) (bc (!cloF X wa (Int.toNat i) (0 : Nat) (Int.toNat i)) (.done (EV.v (Value.bool false)) [] 0) (.at (sB (n) (m) (X) (P) (Y) (Q) (x) (y) (da) (db) (wa) (wb) (IntKind.wrap IntKind.i64 (i + (1 : Int)))))) .bad) (.at (sB (n) (m) (X) (P) (Y) (Q) (x) (y) (da) (db) (wa) (wb) (IntKind.wrap IntKind.i64 (i + (1 : Int)))))) .bad) .bad) (.at (sC (n) (m) (X) (P) (Y) (Q) (x) (y) (da) (db) (wa) (wb) ((0 : Int))))) := by kernel_rfl
theorem c_t (n m : Int) (X P Y Q : List (List U)) (x y : List Int) (da db : Nat) (wa wb : List Bool) (k : Int) : RUN (stOf (sC n m X P Y Q x y da db wa wb k)) = (bc (decide (k < Int.ofNat db)) (bc (bc (bc (decide ((0 : Int) ≤ k)) (Nat.blt (Int.toNat k) db) false) true false) (bc (bc (Nat.blt (Int.toNat k) (List.length wb)) true false) (bc (List.getD wb (Int.toNat k) false) (bc (bc (bc (bc (Nat.beq db (List.length wb)) true false) (decide ((0 : Int) ≤ k ∧ k < (Nat.cast (List.length Y) : Int) ∧ List.length Y ≤ (30000 : Nat) ∧ List.length wb = List.length Y)) false) true false) (bc (!cloF Y wb (Int.toNat k) (0 : Nat) (Int.toNat k)) (.done (EV.v (Value.bool false)) [] 0) (.at (sD (n) (m) (X) (P) (Y) (Q) (x) (y) (da) (db) (wa) (wb) (k) ((0 : Int))))) .bad) (.at (sD (n) (m) (X) (P) (Y) (Q) (x) (y) (da) (db) (wa) (wb) (k) ((0 : Int))))) .bad) .bad) (bc (botE n m X P Y Q != (0 : Int)) (.done (EV.v (Value.bool false)) [] 0) (bc (fiE n m X P Y Q != (0 : Int)) (.done (EV.v (Value.bool false)) [] 0) (bc (fiE n m X P Y Q != (0 : Int)) (.done (EV.v (Value.bool false)) [] 0) (bc (!samB n m X P Y Q == (Int.ofNat (List.length (fiL n m X P Y Q)) == (0 : Int))) (.done (EV.v (Value.bool false)) [] 0) (bc (Int.ofNat (List.length (Prod.fst (diP n m X P Y Q))) == (0 : Int)) (bc (!samB n m X P Y Q == (Int.ofNat (List.length (Prod.snd (diP n m X P Y Q))) == (0 : Int))) (.done (EV.v (Value.bool false)) [] 0) (bc (bc (decide (fiE m n Y Q X P = (0 : Int) ∧ List.length x ≤ (20000 : Nat) ∧ Trn x y (Prod.fst (coP m n Y Q X P)) (Prod.snd (coP m n Y Q X P)) ∧ eqR (fiL m n Y Q X P) (List.map flR (fiL n m X P Y Q)) ∧ List.length (fiL n m X P Y Q) ≤ (1000 : Nat))) true false) (.done (EV.v (Value.bool true)) [] 0) .bad)) (bc (!samB n m X P Y Q == false) (.done (EV.v (Value.bool false)) [] 0) (bc (bc (decide (fiE m n Y Q X P = (0 : Int) ∧ List.length x ≤ (20000 : Nat) ∧ Trn x y (Prod.fst (coP m n Y Q X P)) (Prod.snd (coP m n Y Q X P)) ∧ eqR (fiL m n Y Q X P) (List.map flR (fiL n m X P Y Q)) ∧ List.length (fiL n m X P Y Q) ≤ (1000 : Nat))) true false) (.done (EV.v (Value.bool true)) [] 0) .bad)))))))) := by kernel_rfl
theorem d_t (n m : Int) (X P Y Q : List (List U)) (x y : List Int) (da db : Nat) (wa wb : List Bool) (k i : Int) : RUN (stOf (sD n m X P Y Q x y da db wa wb k i)) = (bc (decide (i < Int.ofNat da)) (bc (bc (bc (bc (bc (decide ((0 : Int) ≤ i)) (Nat.blt (Int.toNat i) (List.length X)) false) true false) (bc (bc (Nat.blt (Int.toNat i) (List.length X)) true false) (bc (bc (bc (decide ((0 : Int) ≤ k)) (Nat.blt (Int.toNat k) (List.length Y)) false) true false) (bc (bc (Nat.blt (Int.toNat k) (List.length Y)) true false) true false) false) false) false) (bc (bc (bc (eqSy (SyC.recs [Sh.int IntKind.i64, Sh.int IntKind.i64, Sh.int IntKind.i64, Sh.int IntKind.i64] Y) (SyC.recs [Sh.int IntKind.i64, Sh.int IntKind.i64, Sh.int IntKind.i64, Sh.int IntKind.i64] Y)) true false) true false) true false) false) (bc (bc (bc (decide ((0 : Int) ≤ i)) (Nat.blt (Int.toNat i) da) false) true false) (bc (bc (Nat.blt (Int.toNat i) (List.length wa)) true false) (bc (!List.getD wa (Int.toNat i) false) (bc (bc (bc (decide ((0 : Int) ≤ k)) (Nat.blt (Int.toNat k) db) false) true false) (bc (bc (Nat.blt (Int.toNat k) (List.length wb)) true false) (bc (!List.getD wb (Int.toNat k) false) (bc (U.int (List.getD (List.getD X (Int.toNat i) []) (Nat.succ (Nat.succ (0 : Nat))) (U.i (0 : Int))) == U.int (List.getD (List.getD Y (Int.toNat k) []) (Nat.succ (Nat.succ (0 : Nat))) (U.i (0 : Int)))) (bc (U.int (List.getD (List.getD X (Int.toNat i) []) (Nat.succ (Nat.succ (Nat.succ (0 : Nat)))) (U.i (0 : Int))) == U.int (List.getD (List.getD Y (Int.toNat k) []) (Nat.succ (Nat.succ (Nat.succ (0 : Nat)))) (U.i (0 : Int)))) (bc (bc (bc (bc (Nat.beq da (List.length wa)) true false) (decide ((0 : Int) ≤ i ∧ i < (Nat.cast (List.length X) : Int) ∧ List.length X ≤ (30000 : Nat) ∧ List.length wa = List.length X)) false) true false) (bc (cloF X wa (Int.toNat i) (0 : Nat) (Int.toNat i)) (bc (bc (bc (bc (Nat.beq db (List.length wb)) true false) (decide ((0 : Int) ≤ k ∧ k < (Nat.cast (List.length Y) : Int) ∧ List.length Y ≤ (30000 : Nat) ∧ List.length wb = List.length Y)) false) true false) (bc (cloF Y wb (Int.toNat k) (0 : Nat) (Int.toNat k)) (.done (EV.v (Value.bool false)) [] 0) (.at (sD (n) (m) (X) (P) (Y) (Q) (x) (y) (da) (db) (wa) (wb) (k) (IntKind.wrap IntKind.i64 (i + (1 : Int)))))) .bad) (.at (sD (n) (m) (X) (P) (Y) (Q) (x) (y) (da) (db) (wa) (wb) (k) (IntKind.wrap IntKind.i64 (i + (1 : Int)))))) .bad) (.at (sD (n) (m) (X) (P) (Y) (Q) (x) (y) (da) (db) (wa) (wb) (k) (IntKind.wrap IntKind.i64 (i + (1 : Int)))))) (.at (sD (n) (m) (X) (P) (Y) (Q) (x) (y) (da) (db) (wa) (wb) (k) (IntKind.wrap IntKind.i64 (i + (1 : Int)))))) (.at (sD (n) (m) (X) (P) (Y) (Q) (x) (y) (da) (db) (wa) (wb) (k) (IntKind.wrap IntKind.i64 (i + (1 : Int)))))) .bad) .bad) (.at (sD (n) (m) (X) (P) (Y) (Q) (x) (y) (da) (db) (wa) (wb) (k) (IntKind.wrap IntKind.i64 (i + (1 : Int)))))) .bad) .bad) .bad) (.at (sC (n) (m) (X) (P) (Y) (Q) (x) (y) (da) (db) (wa) (wb) (IntKind.wrap IntKind.i64 (k + (1 : Int)))))) := by kernel_rfl
end ABeg
end Go.Proofs.Ytjlfedhkpdogbaa.Ev
namespace Go.Proofs.Ytjlfedhkpdogbaa.Ev
open Go.Proofs
theorem bneqB {a b : Bool} (h : a = true ↔ b = true) : (!(a == b)) = false := by
  cases a <;> cases b <;> first | rfl | exact absurd (h.1 rfl) (by decide) | exact absurd (h.2 rfl) (by decide)
theorem len0 {α : Type} (l : List α) : (Int.ofNat l.length == 0) = true ↔ l = [] := by
  cases l with
  | nil => exact ⟨fun _ => rfl, fun _ => rfl⟩
  | cons a l =>
    constructor
    · intro h; have : Int.ofNat (a :: l).length = 0 := by simpa using h
      rw [ofn, List.length_cons] at this; omega
    · intro h; cases h
namespace ABeg
theorem last {n : Nat} {X P Y Q : List (List U)} {wa wb : List Bool} {p q : Nat → Int} (h1 : chk17 n X P = 0) (h2 : chk17 n Y Q = 0) (hp : Prs X Y p) (hq : Prs Y X q) (e1 : coP n n X P Y Q = (xsP p X.length, ysP p X.length)) (e2 : coP n n Y Q X P = (xsP q Y.length, ysP q Y.length)) (hw : wb.length = Y.length) : EndZ 6 ctBg false (stOf (sC n n X P Y Q (xsP p X.length) (ysP p X.length) X.length Y.length wa wb Y.length)) (bv true) [] 0 := by
  have h := c_t n n X P Y Q (xsP p X.length) (ysP p X.length) X.length Y.length wa wb Y.length; rw [ofn, df (show ¬ (Y.length : Int) < Y.length by omega), bc_f] at h; obtain ⟨c1, c2, c3, c4, c5, _⟩ := chk17_ok h1; obtain ⟨d1, d2, d3, d4, d5, _⟩ := chk17_ok h2; have hX := chk17_two h1; have hY := chk17_two h2; have b1 : (chk17 n X P != 0) = false := by simp [h1]
  have b2 : (chk17 n Y Q != 0) = false := by simp [h2]
  have b3 : ((n : Int) != (n : Int)) = false := by simp
  have z1 : fiE n n X P Y Q = 0 := by unfold fiE; rw [b1, b2, b3]; rfl
  have z2 : fiE n n Y Q X P = 0 := by unfold fiE; rw [b1, b2, b3]; rfl
  have z3 : botE n n X P Y Q = 0 := by unfold botE; rw [b1, h2]; rfl
  have z4 : samB n n X P Y Q = sameF X Y 0 n := by unfold samB; rw [z3, b3]; rfl
  have z5 : fiL n n X P Y Q = fiF X Y 0 n := by unfold fiL; rw [z1]; rfl
  have z6 : fiL n n Y Q X P = (fiF X Y 0 n).map flR := by unfold fiL; rw [z2]; exact fiF_swap X Y n 0
  obtain ⟨_, _, z7⟩ := dif_ok (n := n) (m := n) (X := X) (P := P) (Y := Y) (Q := Q) (by rw [z1]; rfl); rw [e1] at z7; have so := hp.same_oth hq hX hY c5 d5; have sf := same_fi (X := X) (Y := Y) n 0; have lf := fiF_len X Y n 0; have lx : (xsP p X.length).length ≤ 20000 := by
    have := fl_len p X.length; rw [xs_len]; omega
  have hT := hp.trn hq hX hY; rw [z1, z2, z3, z4, z5, z6, z7, e2] at h; have k0 : ((0 : Int) != 0) = false := rfl; rw [k0] at h; simp only [bc_f] at h; have k1 : (!(sameF X Y 0 n == (Int.ofNat (fiF X Y 0 n).length == 0))) = false := bneqB (by
    rw [sf, len0]; constructor
    · intro e; exact List.eq_nil_of_length_eq_zero (Nat.eq_of_beq_eq_true e)
    · intro e; rw [e]; rfl)
  have k2 : fiE n n Y Q X P = 0 := z2; rw [k1, bc_f, dt (show True ∧ (xsP p X.length).length ≤ 20000 ∧ Trn (xsP p X.length) (ysP p X.length) (xsP q Y.length) (ysP q Y.length) ∧ eqR ((fiF X Y 0 n).map flR) ((fiF X Y 0 n).map flR) ∧ (fiF X Y 0 n).length ≤ 1000 from ⟨trivial, lx, hT, rfl, by omega⟩)] at h
  simp only [bc_t] at h
  cases g : (Int.ofNat (othF (xsP p X.length) 0 X.length).length == 0) with
  | true =>
    have g2 := (len0 _).1 g; have k3 : (!(sameF X Y 0 n == (Int.ofNat (othF (ysP p X.length) 0 Y.length).length == 0))) = false := bneqB (by
      rw [so, len0]; exact ⟨fun e => e.2, fun e => ⟨g2, e⟩⟩)
    rw [g, bc_t, k3, bc_f] at h; exact .done h
  | false =>
    have k3 : (!(sameF X Y 0 n == false)) = false := bneqB (by
      rw [so]; constructor
      · intro e; have := (len0 _).2 e.1; rw [g] at this; exact this
      · intro e; cases e)
    rw [g, bc_f, k3, bc_f] at h; exact .done h
theorem loopD {n m : Int} {X P Y Q : List (List U)} {x y : List Int} {wa wb : List Bool} {p : Nat → Int} {k : Nat} (hp : Prs X Y p) (hM : Mrk X Y p wa wb) (hX : Two X) (hY : Two Y) (lX : X.length ≤ 20000) (lY : Y.length ≤ 20000) (hk : k < Y.length)
    (nx : EndZ 6 ctBg false (stOf (sC n m X P Y Q x y X.length Y.length wa wb (k + 1 : Nat))) (bv true) [] 0) : ∀ (f i : Nat), i + f = X.length → EndZ 6 ctBg false (stOf (sD n m X P Y Q x y X.length Y.length wa wb k i)) (bv true) [] 0
  | 0, i, h => by
    have h1 := d_t n m X P Y Q x y X.length Y.length wa wb k i; rw [ofn, df (show ¬ (i : Int) < X.length by omega), bc_f, wrap_s k (by omega)] at h1; exact .at ctBg_ok h1 nx
  | f + 1, i, h => by
    have h1 := d_t n m X P Y Q x y X.length Y.length wa wb k i; have ih := loopD (n := n) (m := m) (P := P) (Q := Q) (x := x) (y := y) hp hM hX hY lX lY hk nx f (i + 1) (by omega); have la := hM.la; have lb := hM.lb; have f2 : ∀ r : List U, U.int (List.getD r (Nat.succ (Nat.succ 0)) (U.i 0)) = xO r := fun _ => rfl; have f3 : ∀ r : List U, U.int (List.getD r (Nat.succ (Nat.succ (Nat.succ 0))) (U.i 0)) = xU r := fun _ => rfl; rw [wrap_s i (by omega), to_nat, to_nat, la, lb, Nat.beq_refl, Nat.beq_refl] at h1; simp only [f2, f3, eqSy_self] at h1
    rw [dt (show (0 : Int) ≤ i ∧ (i : Int) < (Nat.cast X.length : Int) ∧ X.length ≤ 30000 ∧ True from ⟨by omega, by omega, by omega, trivial⟩), dt (show (0 : Int) ≤ k ∧ (k : Int) < (Nat.cast Y.length : Int) ∧ Y.length ≤ 30000 ∧ True from ⟨by omega, by omega, by omega, trivial⟩)] at h1
    simp (disch := omega) only [Nat.add_eq, eqSy_self, eqN_self, bc_same, List.length_cons, ofn, wrap_in, dt, df, bltD, bltN, ble_of, bleN, beqD, bc_t, bc_f, nn_ok, Nat.zero_add, to_nat, Int.zero_add, Int.sub_zero, Int.sub_self, Int.cast_ofNat_Int, Int.natCast_zero, Int.toNat_zero, List.take_zero, List.nil_append, List.length_append, List.length_nil, decide_true] at h1
    cases g1 : wa.getD i false with
    | true =>
      rw [g1, Bool.not_true, bc_f] at h1; exact .at ctBg_ok h1 ih
    | false =>
      rw [g1, Bool.not_false, bc_t] at h1
      cases g2 : wb.getD k false with
      | true =>
        rw [g2, Bool.not_true, bc_f] at h1; exact .at ctBg_ok h1 ih
      | false =>
        rw [g2, Bool.not_false, bc_t] at h1
        cases g3 : xO (X.getD i []) == xO (Y.getD k []) with
        | false => rw [g3, bc_f] at h1; exact .at ctBg_ok h1 ih
        | true =>
          rw [g3, bc_t] at h1
          cases g4 : xU (X.getD i []) == xU (Y.getD k []) with
          | false => rw [g4, bc_f] at h1; exact .at ctBg_ok h1 ih
          | true =>
            rw [g4, bc_t] at h1
            cases g5 : cloF X wa i 0 i with
            | false => rw [g5, bc_f] at h1; exact .at ctBg_ok h1 ih
            | true =>
              rw [g5, bc_t] at h1
              cases g6 : cloF Y wb k 0 k with
              | false => rw [g6, bc_f] at h1; exact .at ctBg_ok h1 ih
              | true => exact (hM.most hp hX hY (by omega) hk g1 g2 (by simpa using g3) (by simpa using g4) g5 g6).elim
theorem loopC {n : Nat} {X P Y Q : List (List U)} {wa wb : List Bool} {p q : Nat → Int} (h1 : chk17 n X P = 0) (h2 : chk17 n Y Q = 0) (hp : Prs X Y p) (hq : Prs Y X q) (e1 : coP n n X P Y Q = (xsP p X.length, ysP p X.length)) (e2 : coP n n Y Q X P = (xsP q Y.length, ysP q Y.length)) (hM : Mrk X Y p wa wb) : ∀ (f k : Nat), k + f = Y.length → EndZ 6 ctBg false (stOf (sC n n X P Y Q (xsP p X.length) (ysP p X.length) X.length Y.length wa wb k)) (bv true) [] 0
  | 0, k, h => by
    have e : k = Y.length := by omega
    subst e; exact last h1 h2 hp hq e1 e2 hM.lb
  | f + 1, k, h => by
    have hs := c_t n n X P Y Q (xsP p X.length) (ysP p X.length) X.length Y.length wa wb k; have ih := loopC h1 h2 hp hq e1 e2 hM f (k + 1) (by omega); obtain ⟨c1, c2, c3, c4, c5, _⟩ := chk17_ok h1; obtain ⟨d1, d2, d3, d4, d5, _⟩ := chk17_ok h2; have hX := chk17_two h1; have hY := chk17_two h2; have hk : k < Y.length := by omega
    have nx := loopD (n := n) (m := n) (P := P) (Q := Q) (x := xsP p X.length) (y := ysP p X.length) hp hM hX hY c3 d3 hk ih X.length 0 (by omega); have lb := hM.lb; rw [ofn, dt (show (k : Int) < Y.length by omega), bc_t, to_nat, lb, Nat.beq_refl, dt (show (0 : Int) ≤ k ∧ (k : Int) < (Nat.cast Y.length : Int) ∧ Y.length ≤ 30000 ∧ Y.length = Y.length from ⟨by omega, by omega, by omega, rfl⟩)] at hs
    simp (disch := omega) only [Nat.add_eq, eqSy_self, eqN_self, bc_same, List.length_cons, ofn, wrap_in, dt, df, bltD, bltN, ble_of, bleN, beqD, bc_t, bc_f, nn_ok, Nat.zero_add, to_nat, Int.zero_add, Int.sub_zero, Int.sub_self, Int.cast_ofNat_Int, Int.natCast_zero, Int.toNat_zero, List.take_zero, List.nil_append, List.length_append, List.length_nil, decide_true] at hs
    cases g : wb.getD k false with
    | false =>
      rw [g, bc_f] at hs; exact .at ctBg_ok hs nx
    | true =>
      rw [g, bc_t, hM.cloB hp hX hY hk g, Bool.not_true, bc_f] at hs; exact .at ctBg_ok hs nx
theorem loopB {n m : Int} {X P Y Q : List (List U)} {x y : List Int} {wa wb : List Bool} {p : Nat → Int} (hp : Prs X Y p) (hM : Mrk X Y p wa wb) (lX : X.length ≤ 20000)
    (nx : EndZ 6 ctBg false (stOf (sC n m X P Y Q x y X.length Y.length wa wb (0 : Nat))) (bv true) [] 0) : ∀ (f i : Nat), i + f = X.length → EndZ 6 ctBg false (stOf (sB n m X P Y Q x y X.length Y.length wa wb i)) (bv true) [] 0
  | 0, i, h => by
    have hs := b_t n m X P Y Q x y X.length Y.length wa wb i; rw [ofn, df (show ¬ (i : Int) < X.length by omega), bc_f] at hs; exact .at ctBg_ok hs nx
  | f + 1, i, h => by
    have hs := b_t n m X P Y Q x y X.length Y.length wa wb i; have ih := loopB (n := n) (m := m) (P := P) (Q := Q) (x := x) (y := y) hp hM lX nx f (i + 1) (by omega); have la := hM.la; rw [ofn, dt (show (i : Int) < X.length by omega), bc_t, to_nat, la, Nat.beq_refl, wrap_s i (by omega), dt (show (0 : Int) ≤ i ∧ (i : Int) < (Nat.cast X.length : Int) ∧ X.length ≤ 30000 ∧ X.length = X.length from ⟨by omega, by omega, by omega, rfl⟩)] at hs
    simp (disch := omega) only [Nat.add_eq, eqSy_self, eqN_self, bc_same, List.length_cons, ofn, wrap_in, dt, df, bltD, bltN, ble_of, bleN, beqD, bc_t, bc_f, nn_ok, Nat.zero_add, to_nat, Int.zero_add, Int.sub_zero, Int.sub_self, Int.cast_ofNat_Int, Int.natCast_zero, Int.toNat_zero, List.take_zero, List.nil_append, List.length_append, List.length_nil, decide_true] at hs
    cases g : wa.getD i false with
    | false =>
      rw [g, bc_f] at hs; exact .at ctBg_ok hs ih
    | true =>
      rw [g, bc_t, hM.cloA hp (by omega) g, Bool.not_true, bc_f] at hs; exact .at ctBg_ok hs ih
theorem mkA_step (w : List Bool) (l : List Int) (i : Nat) (h : i < l.length) : (mkA w (l.take i)).set (l.getD i 0).toNat true = mkA w (l.take (i + 1)) := by
  unfold mkA; rw [← List.take_append_getElem h, List.foldl_append, getD_at h]; rfl
theorem loopA {n m : Int} {X P Y Q : List (List U)} {x y : List Int} {wa wb : List Bool} (hK : Kpt X Y x y) (hx : x.length ≤ 20000) (la : wa.length = X.length) (lb : wb.length = Y.length)
    (nx : EndZ 6 ctBg false (stOf (sB n m X P Y Q x y X.length Y.length (mkA wa x) (mkA wb y) (0 : Nat))) (bv true) [] 0) : ∀ (f i : Nat), i + f = x.length → EndZ 6 ctBg false (stOf (sA n m X P Y Q x y X.length Y.length (mkA wa (x.take i)) (mkA wb (y.take i)) i)) (bv true) [] 0
  | 0, i, h => by
    have hs := a_t n m X P Y Q x y X.length Y.length (mkA wa (x.take i)) (mkA wb (y.take i)) i; have hy := hK.1; rw [ofn, df (show ¬ (i : Int) < x.length by omega), bc_f, List.take_of_length_le (show x.length ≤ i by omega), List.take_of_length_le (show y.length ≤ i by omega)] at hs; rw [List.take_of_length_le (show x.length ≤ i by omega), List.take_of_length_le (show y.length ≤ i by omega)]; exact .at ctBg_ok hs nx
  | f + 1, i, h => by
    have hs := a_t n m X P Y Q x y X.length Y.length (mkA wa (x.take i)) (mkA wb (y.take i)) i; have hi : i < x.length := by omega
    have hy := hK.1; obtain ⟨a1, a2, a3, a4, _⟩ := hK.2 i hi; have ih := loopA (n := n) (m := m) (P := P) (Q := Q) hK hx la lb nx f (i + 1) (by omega); rw [to_nat, mkA_len, mkA_len, la, lb, wrap_s i (by omega), mkA_step _ _ _ hi, mkA_step _ _ _ (by omega)] at hs; generalize x.getD i 0 = a at *; generalize y.getD i 0 = b at *; obtain ⟨a, rfl⟩ := Int.eq_ofNat_of_zero_le a1; obtain ⟨b, rfl⟩ := Int.eq_ofNat_of_zero_le a3; simp only [show ∀ k : Nat, ((k : Int)).toNat = k from fun _ => rfl] at hs
    simp (disch := omega) only [Nat.add_eq, eqSy_self, eqN_self, bc_same, List.length_cons, ofn, wrap_in, dt, df, bltD, bltN, ble_of, bleN, beqD, bc_t, bc_f, nn_ok, Nat.zero_add, to_nat, Int.zero_add, Int.sub_zero, Int.sub_self, Int.cast_ofNat_Int, Int.natCast_zero, Int.toNat_zero, List.take_zero, List.nil_append, List.length_append, List.length_nil, decide_true] at hs; exact .at ctBg_ok hs ih
theorem ends (n m : Int) (X P Y Q : List (List U)) : EndZ 6 ctBg false (st0 6 [clE n X P, clE m Y Q]) (bv true) [] 0 := by
  have h := in_t n m X P Y Q; cases h1 : farB n 60 X P <;> rw [h1] at h
  case true => exact .done h
  cases h2 : farB m 60 Y Q <;> rw [h2] at h
  case true => exact .done h
  rw [bc_f, bc_f] at h; cases h3 : (fiE n m X P Y Q != 0)
  case true =>
    have e : coP n m X P Y Q = ([], []) := by unfold coP; rw [h3]; rfl
    rw [h3, bc_t, e] at h; exact .done h
  rw [h3, bc_f] at h; have h0 : fiE n m X P Y Q = 0 := by simpa using h3
  obtain ⟨k1, k2, k3⟩ := fiE_0 h0; subst k3; obtain ⟨c1, c2, c3, c4, c5, _⟩ := chk17_ok k1; obtain ⟨d1, d2, d3, d4, d5, _⟩ := chk17_ok k2; obtain ⟨n, rfl⟩ := Int.eq_ofNat_of_zero_le (show 0 ≤ n by omega); have hX := chk17_two k1; have hY := chk17_two k2; have b1 : (chk17 n X P != 0) = false := by simp [k1]
  have b2 : (chk17 n Y Q != 0) = false := by simp [k2]
  have b3 : ((n : Int) != (n : Int)) = false := by simp
  have z2 : fiE n n Y Q X P = 0 := by unfold fiE; rw [b1, b2, b3]; rfl
  obtain ⟨p, hp, e1⟩ := co_prs k1 k2 h0; obtain ⟨q, hq, e2⟩ := co_prs k2 k1 z2; have lx : (xsP p X.length).length ≤ 20000 := by
    have := fl_len p X.length; rw [xs_len]; omega
  have hK := hp.kpt hX hY; rw [e1, dt (show (xsP p X.length).length ≤ 20000 ∧ X.length ≤ 30000 ∧ Y.length ≤ 30000 ∧ Kpt X Y (xsP p X.length) (ysP p X.length) from ⟨lx, by omega, by omega, hK⟩)] at h
  simp only [ofn, List.length_replicate, show ∀ k : Nat, ((k : Int)).toNat = k from fun _ => rfl] at h
  simp (disch := omega) only [Nat.add_eq, eqSy_self, eqN_self, bc_same, List.length_cons, ofn, wrap_in, dt, df, bltD, bltN, ble_of, bleN, beqD, bc_t, bc_f, nn_ok, Nat.zero_add, to_nat, Int.zero_add, Int.sub_zero, Int.sub_self, Int.cast_ofNat_Int, Int.natCast_zero, Int.toNat_zero, List.take_zero, List.nil_append, List.length_append, List.length_nil, decide_true] at h; have hM := mrk_of (X := X) (Y := Y) (p := p); have lC := loopC (P := P) (Q := Q) k1 k2 hp hq e1 e2 hM Y.length 0 (by omega); have lB := loopB hp hM c3 lC X.length 0 (by omega)
  exact .at ctBg_ok h (loopA hK lx (List.length_replicate ..) (List.length_replicate ..) lB _ 0 (Nat.zero_add _))
end ABeg
theorem compareBegins_calls {γ : G} {w : World} {us : Array Value} (ra : List U) (wa : RowFit [.int .i64, .list shX, .list shX] ra) (rb : List U) (wb : RowFit [.int .i64, .list shX, .list shX] rb)
    (hax : ECL γ [.agg (recE [.int .i64, .list shX, .list shX] ra), .agg (recE [.int .i64, .list shX, .list shX] rb)] us.toList) (hN : ∀ i, γ i = none) (hfz : FzAt γ w) : Calls Try.prog 6 us w fun e w' => e = .returned (.bool true) ∧ Stays w w' := by
  have hla := wa.len; have hlb := wb.len
  match ra, hla, rb, hlb with
  | [x1, x2, x3], _, [y1, y2, y3], _ =>
    exact law_of ((ABeg.ends _ _ _ _ _ _).calls ctBg_ok (by kernel_rfl) hax hN hfz)
end Go.Proofs.Ytjlfedhkpdogbaa.Ev
namespace Go.Proofs.Ytjlfedhkpdogbaa
open Go.ChangeShapes Go.WideShapes Go.ChangeAt Go.RowKit Go.ChangeMaps
theorem knobCompareBegins : ownKnob Try.prog.godebug = none := by kernel_rfl
theorem kidsCompareBegins : Kids Try.prog (· < Try.prog.types.size) := kids_rows (by kernel_rfl) (by kernel_rfl)
theorem fullCompareBegins : ∀ t e, t < Try.prog.types.size → Try.prog.underlying t = some (.slice e) → 0 < Try.prog.cellsOf e := slices_full_of Try.prog (by kernel_rfl)
set_option maxRecDepth 100000 in
theorem liftedCompareBegins (os : Os) (started : os.Started) (H : Type) (enc : TypeId × Value → H) :
    ReturnsInHanded {} Try.checked os 6 .any (Rows.compareBeginsSpec.pre6 enc Try.prog Try.f6 Rows.compareBeginsRow.domain false) (Rows.compareBeginsSpec.post enc Try.prog Try.f6 false true false false) := by
  refine returnsInHanded_of_change (C := Try.checked) knobCompareBegins started (by kernel_rfl) Try.func6
    (ChangeSpec.witness6 (enc := enc) (C := Try.checked) false ⟨#[], #[.agg #[.int .i64 0, .slice none 0 0, .slice none 0 0], .agg #[.int .i64 0, .slice none 0 0, .slice none 0 0]], []⟩ 8 (by kernel_rfl) (by kernel_rfl) (by kernel_rfl) (by kernel_rfl)) ?_
  intro W base args ds gs before hval0 hW hcnd _; have hval : ∀ (j : Nat) t v, Try.f6.params[j]? = some t → args[j]? = some v → Value.okWide Try.prog W .any base t v := hval0; have hW' := hW; obtain ⟨p, q, hA0, hV, rfl, hfz, hnd⟩ := hW; have hA : DataW.TrodAll enc Try.prog W 0 (fun _ => true) true Try.f6.params.toList args.toList ds p := hA0; have hAk := hA; rw [Try.params6] at hA hval; obtain ⟨rfl, rfl⟩ := trodVars_none hV; obtain ⟨v0, v1, d0, d1, p0, p1, rfl, rfl, rfl, h0, h1⟩ := trodAll_two hA
  obtain ⟨ra, wra, era⟩ := Ev.open_agg (k := 8) Try.underlying25 (by kernel_rfl : Ev.shB Try.prog 8 25 = some [.int .i64, .list [.int .i64, .int .i64, .int .i64, .int .i64], .list [.int .i64, .int .i64, .int .i64, .int .i64]]) (hval 0 25 v0 rfl rfl) h0; obtain ⟨rb, wrb, erb⟩ := Ev.open_agg (k := 8) Try.underlying25 (by kernel_rfl : Ev.shB Try.prog 8 25 = some [.int .i64, .list [.int .i64, .int .i64, .int .i64, .int .i64], .list [.int .i64, .int .i64, .int .i64, .int .i64]]) (hval 1 25 v1 rfl rfl) h1; clear hA0 hval0
  refine (Ev.compareBegins_calls ra wra rb wrb (γ := Ev.gAll W) (.cons era (.cons erb (.nil _))) (fun i => rfl) (Ev.fzAll_at W)).mono fun e W' ⟨he, hg⟩ => ?_; subst he; exact ⟨_, rfl, post_law kidsCompareBegins fullCompareBegins Try.underlying4 (by kernel_rfl) (by kernel_rfl) rfl rfl (by rw [Try.params6]; decide) hW' hAk hg (ok_one (by kernel_rfl) rfl (okWide_bool_mk Try.underlying4 _))⟩
theorem compareBegins_holds : Rows.CompareBeginsSaid :=
  OpenClaim.holds_of_wide 6 Try.f6 rfl rfl rfl rfl rfl rfl rfl ⟨rfl, rfl, rfl, rfl, rfl⟩ rfl rfl rfl rfl rfl (by kernel_rfl) Try.func6 (by kernel_rfl)
    (of_decide_eq_true (by kernel_rfl)) (by unfold Func.isWrapper; first | (rw [if_pos (by decide +kernel)]; kernel_rfl) | (rw [if_neg (by decide +kernel)]; exact ⟨rfl, rfl⟩))
    (fun os started H enc _ => liftedCompareBegins os started H enc)
end Go.Proofs.Ytjlfedhkpdogbaa
