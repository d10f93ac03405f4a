/- AssembleGroups returns true, for all arguments, in every world in which it is called, and nothing that was there turns. -/
import Derived.Test.YtkbebiebaenbdaaRows
import Derived.WalkKit
import Derived.ProofKit
import Derived.Test.YtkbebiebaenbdaaMg5
set_option linter.unusedSimpArgs false
set_option linter.unusedVariables false
namespace Go.Proofs.Ytkbebiebaenbdaa.Ev
open Go.Proofs
theorem inB_iff (l : List (List U)) (q : List Bool) (i : Nat) : ∀ (k j : Nat), inB l q i j k = true ↔ ∃ j', j ≤ j' ∧ j' < j + k ∧ q.getD j' false = false ∧ tch (l.getD j' []) (l.getD i []) = true
  | 0, j => by
    constructor
    · intro h; cases h
    · rintro ⟨j', h1, h2, _⟩; omega
  | k + 1, j => by
    have ih := inB_iff l q i k (j + 1)
    unfold inB
    constructor
    · intro h
      cases hq : q.getD j false
      · cases ht : tch (l.getD j []) (l.getD i [])
        · rw [hq, ht] at h
          obtain ⟨j', h1, h2, h3⟩ := ih.1 h
          exact ⟨j', by omega, by omega, h3⟩
        · exact ⟨j, Nat.le_refl _, by omega, hq, ht⟩
      · rw [hq] at h
        obtain ⟨j', h1, h2, h3⟩ := ih.1 h
        exact ⟨j', by omega, by omega, h3⟩
    · rintro ⟨j', h1, h2, h3, h4⟩
      by_cases e : j' = j
      · subst e; rw [h3, h4]; rfl
      · have : inB l q i (j + 1) k = true := ih.2 ⟨j', by omega, by omega, h3, h4⟩
        rw [this]
        cases bc (!q.getD j false) (tch (l.getD j []) (l.getD i [])) false <;> rfl
namespace PCut
noncomputable def RUN (s : ES) : ZF := RZ 33 ctJ1 (atS 0 33 9) [] [[(1,none),(2,none),(6,none),(9,none),(10,some (3, 81, .recs shW [])),(39,none),(40,none),(41,none)]] false s

noncomputable def sC (p a b : Int) (l : List (List U)) (c : List Bool) (i : Int) (q : List (List U)) (nn : Bool) : NS := ⟨[⟨33, 88, [(1, (EV.v (Value.int IntKind.i64 (a)))), (2, (EV.v (Value.int IntKind.i64 (b)))), (6, (EV.ptr 0 0)), (9, (EV.ptr 1 0)), (10, (EV.ptr 2 0)), (39, (EV.lst (SyC.recs [(Sh.int IntKind.i64), (Sh.int IntKind.i64), Sh.str] (l)))), (40, iv (l.length : Int)), (41, iv i)], [.it (.code (nav [1, 1, 1, 1, 1, 0, 1, 0, 0] (bodyOf Try.f33))), .it (.inLoop (nav [1, 1, 1, 1, 1, 0, 1, 0, 0] (bodyOf Try.f33))), .it (.inBlock 0), .it (.code (nav [1, 1, 1, 1, 1, 1] (bodyOf Try.f33)))], [], Option.none⟩], [(0, (EK.cells 24 [(EV.v (Value.int IntKind.i64 (0))), (EV.v (Value.slice Option.none 0 0))] true)), (1, EK.seq 113 (.bools c) true), (2, EK.cells 24 [iv p, EV.slO 3 3 q.length nn] true), (3, EK.seq 81 (.recs shW q) nn)], 4⟩
theorem step_t (p a b : Int) (l : List (List U)) (c : List Bool) (i : Int) (q : List (List U)) (nn : Bool) : RUN (stOf (sC p a b l c i q nn)) = (bc (decide (i < (Nat.cast (List.length l) : Int))) (bc (bc (bc (decide ((0 : Int) ≤ i)) (Nat.blt (Int.toNat i) (List.length l)) false) true false) (bc (bc (Nat.blt (Int.toNat i) (List.length l)) true false) (bc (decide (U.int (List.getD (List.getD l (Int.toNat i) []) (Nat.succ (0 : Nat)) (U.i (0 : Int))) < a)) (bc (bc (bc (bc (bc (decide ((0 : Int) ≤ U.int (List.getD (List.getD l (Int.toNat i) []) (Nat.succ (0 : Nat)) (U.i (0 : Int))))) (Nat.blt (Int.toNat (U.int (List.getD (List.getD l (Int.toNat i) []) (Nat.succ (0 : Nat)) (U.i (0 : Int))))) (24 : Nat)) false) true false) (bc (Nat.blt (Int.toNat (U.int (List.getD (List.getD l (Int.toNat i) []) (Nat.succ (0 : Nat)) (U.i (0 : Int))))) (List.length c)) (bc (bc (bc (decide ((0 : Int) ≤ IntKind.wrap IntKind.i64 (U.int (List.getD (List.getD l (Int.toNat i) []) (Nat.succ (0 : Nat)) (U.i (0 : Int))) + (1 : Int)))) (Nat.blt (Int.toNat (IntKind.wrap IntKind.i64 (U.int (List.getD (List.getD l (Int.toNat i) []) (Nat.succ (0 : Nat)) (U.i (0 : Int))) + (1 : Int)))) (24 : Nat)) false) true false) (bc (Nat.blt (Int.toNat (IntKind.wrap IntKind.i64 (U.int (List.getD (List.getD l (Int.toNat i) []) (Nat.succ (0 : Nat)) (U.i (0 : Int))) + (1 : Int)))) (List.length (List.set c (Int.toNat (U.int (List.getD (List.getD l (Int.toNat i) []) (Nat.succ (0 : Nat)) (U.i (0 : Int))))) true))) true false) false) false) false) (bc (bc (bc (decide (U.int (List.getD (List.getD l (Int.toNat i) []) (Nat.succ (0 : Nat)) (U.i (0 : Int))) = U.int (List.getD (List.getD l (Int.toNat i) []) (Nat.succ (0 : Nat)) (U.i (0 : Int))))) true false) true false) true false) false) (.at (sC (p) (a) (b) (l) (List.set (List.set c (Int.toNat (U.int (List.getD (List.getD l (Int.toNat i) []) (Nat.succ (0 : Nat)) (U.i (0 : Int))))) true) (Int.toNat (IntKind.wrap IntKind.i64 (U.int (List.getD (List.getD l (Int.toNat i) []) (Nat.succ (0 : Nat)) (U.i (0 : Int))) + (1 : Int)))) true) (IntKind.wrap IntKind.i64 (i + (1 : Int))) (q) (nn))) .bad) (bc (decide (b ≤ U.int (List.getD (List.getD l (Int.toNat i) []) (Nat.succ (0 : Nat)) (U.i (0 : Int))))) (bc (bc (bc (bc (bc (decide ((0 : Int) ≤ U.int (List.getD (List.getD l (Int.toNat i) []) (Nat.succ (0 : Nat)) (U.i (0 : Int))))) (Nat.blt (Int.toNat (U.int (List.getD (List.getD l (Int.toNat i) []) (Nat.succ (0 : Nat)) (U.i (0 : Int))))) (24 : Nat)) false) true false) (bc (Nat.blt (Int.toNat (U.int (List.getD (List.getD l (Int.toNat i) []) (Nat.succ (0 : Nat)) (U.i (0 : Int))))) (List.length c)) (bc (bc (bc (decide ((0 : Int) ≤ IntKind.wrap IntKind.i64 (U.int (List.getD (List.getD l (Int.toNat i) []) (Nat.succ (0 : Nat)) (U.i (0 : Int))) + (1 : Int)))) (Nat.blt (Int.toNat (IntKind.wrap IntKind.i64 (U.int (List.getD (List.getD l (Int.toNat i) []) (Nat.succ (0 : Nat)) (U.i (0 : Int))) + (1 : Int)))) (24 : Nat)) false) true false) (bc (Nat.blt (Int.toNat (IntKind.wrap IntKind.i64 (U.int (List.getD (List.getD l (Int.toNat i) []) (Nat.succ (0 : Nat)) (U.i (0 : Int))) + (1 : Int)))) (List.length (List.set c (Int.toNat (U.int (List.getD (List.getD l (Int.toNat i) []) (Nat.succ (0 : Nat)) (U.i (0 : Int))))) true))) true false) false) false) false) (bc (bc (bc (decide (U.int (List.getD (List.getD l (Int.toNat i) []) (Nat.succ (0 : Nat)) (U.i (0 : Int))) = U.int (List.getD (List.getD l (Int.toNat i) []) (Nat.succ (0 : Nat)) (U.i (0 : Int))))) true false) true false) true false) false) (.at (sC (p) (a) (b) (l) (List.set (List.set c (Int.toNat (U.int (List.getD (List.getD l (Int.toNat i) []) (Nat.succ (0 : Nat)) (U.i (0 : Int))))) true) (Int.toNat (IntKind.wrap IntKind.i64 (U.int (List.getD (List.getD l (Int.toNat i) []) (Nat.succ (0 : Nat)) (U.i (0 : Int))) + (1 : Int)))) true) (IntKind.wrap IntKind.i64 (i + (1 : Int))) (q) (nn))) .bad) (bc (bc (bc (decide ((0 : Int) ≤ U.int (List.getD (List.getD l (Int.toNat i) []) (Nat.succ (0 : Nat)) (U.i (0 : Int))))) (Nat.blt (Int.toNat (U.int (List.getD (List.getD l (Int.toNat i) []) (Nat.succ (0 : Nat)) (U.i (0 : Int))))) (24 : Nat)) false) true false) (bc (bc (Nat.blt (Int.toNat (U.int (List.getD (List.getD l (Int.toNat i) []) (Nat.succ (0 : Nat)) (U.i (0 : Int))))) (List.length c)) true false) (bc (List.getD c (Int.toNat (U.int (List.getD (List.getD l (Int.toNat i) []) (Nat.succ (0 : Nat)) (U.i (0 : Int))))) false) (bc (bc (bc (bc (bc (decide ((0 : Int) ≤ U.int (List.getD (List.getD l (Int.toNat i) []) (Nat.succ (0 : Nat)) (U.i (0 : Int))))) (Nat.blt (Int.toNat (U.int (List.getD (List.getD l (Int.toNat i) []) (Nat.succ (0 : Nat)) (U.i (0 : Int))))) (24 : Nat)) false) true false) (bc (Nat.blt (Int.toNat (U.int (List.getD (List.getD l (Int.toNat i) []) (Nat.succ (0 : Nat)) (U.i (0 : Int))))) (List.length c)) (bc (bc (bc (decide ((0 : Int) ≤ IntKind.wrap IntKind.i64 (U.int (List.getD (List.getD l (Int.toNat i) []) (Nat.succ (0 : Nat)) (U.i (0 : Int))) + (1 : Int)))) (Nat.blt (Int.toNat (IntKind.wrap IntKind.i64 (U.int (List.getD (List.getD l (Int.toNat i) []) (Nat.succ (0 : Nat)) (U.i (0 : Int))) + (1 : Int)))) (24 : Nat)) false) true false) (bc (Nat.blt (Int.toNat (IntKind.wrap IntKind.i64 (U.int (List.getD (List.getD l (Int.toNat i) []) (Nat.succ (0 : Nat)) (U.i (0 : Int))) + (1 : Int)))) (List.length (List.set c (Int.toNat (U.int (List.getD (List.getD l (Int.toNat i) []) (Nat.succ (0 : Nat)) (U.i (0 : Int))))) true))) true false) false) false) false) (bc (bc (bc (decide (U.int (List.getD (List.getD l (Int.toNat i) []) (Nat.succ (0 : Nat)) (U.i (0 : Int))) = U.int (List.getD (List.getD l (Int.toNat i) []) (Nat.succ (0 : Nat)) (U.i (0 : Int))))) true false) true false) true false) false) (.at (sC (p) (a) (b) (l) (List.set (List.set c (Int.toNat (U.int (List.getD (List.getD l (Int.toNat i) []) (Nat.succ (0 : Nat)) (U.i (0 : Int))))) true) (Int.toNat (IntKind.wrap IntKind.i64 (U.int (List.getD (List.getD l (Int.toNat i) []) (Nat.succ (0 : Nat)) (U.i (0 : Int))) + (1 : Int)))) true) (IntKind.wrap IntKind.i64 (i + (1 : Int))) (q) (nn))) .bad) (bc (bc (bc (decide ((0 : Int) ≤ IntKind.wrap IntKind.i64 (U.int (List.getD (List.getD l (Int.toNat i) []) (Nat.succ (0 : Nat)) (U.i (0 : Int))) + (1 : Int)))) (Nat.blt (Int.toNat (IntKind.wrap IntKind.i64 (U.int (List.getD (List.getD l (Int.toNat i) []) (Nat.succ (0 : Nat)) (U.i (0 : Int))) + (1 : Int)))) (24 : Nat)) false) true false) (bc (bc (Nat.blt (Int.toNat (IntKind.wrap IntKind.i64 (U.int (List.getD (List.getD l (Int.toNat i) []) (Nat.succ (0 : Nat)) (U.i (0 : Int))) + (1 : Int)))) (List.length c)) true false) (bc (List.getD c (Int.toNat (IntKind.wrap IntKind.i64 (U.int (List.getD (List.getD l (Int.toNat i) []) (Nat.succ (0 : Nat)) (U.i (0 : Int))) + (1 : Int)))) false) (bc (bc (bc (bc (bc (decide ((0 : Int) ≤ U.int (List.getD (List.getD l (Int.toNat i) []) (Nat.succ (0 : Nat)) (U.i (0 : Int))))) (Nat.blt (Int.toNat (U.int (List.getD (List.getD l (Int.toNat i) []) (Nat.succ (0 : Nat)) (U.i (0 : Int))))) (24 : Nat)) false) true false) (bc (Nat.blt (Int.toNat (U.int (List.getD (List.getD l (Int.toNat i) []) (Nat.succ (0 : Nat)) (U.i (0 : Int))))) (List.length c)) (bc (bc (bc (decide ((0 : Int) ≤ IntKind.wrap IntKind.i64 (U.int (List.getD (List.getD l (Int.toNat i) []) (Nat.succ (0 : Nat)) (U.i (0 : Int))) + (1 : Int)))) (Nat.blt (Int.toNat (IntKind.wrap IntKind.i64 (U.int (List.getD (List.getD l (Int.toNat i) []) (Nat.succ (0 : Nat)) (U.i (0 : Int))) + (1 : Int)))) (24 : Nat)) false) true false) (bc (Nat.blt (Int.toNat (IntKind.wrap IntKind.i64 (U.int (List.getD (List.getD l (Int.toNat i) []) (Nat.succ (0 : Nat)) (U.i (0 : Int))) + (1 : Int)))) (List.length (List.set c (Int.toNat (U.int (List.getD (List.getD l (Int.toNat i) []) (Nat.succ (0 : Nat)) (U.i (0 : Int))))) true))) true false) false) false) false) (bc (bc (bc (decide (U.int (List.getD (List.getD l (Int.toNat i) []) (Nat.succ (0 : Nat)) (U.i (0 : Int))) = U.int (List.getD (List.getD l (Int.toNat i) []) (Nat.succ (0 : Nat)) (U.i (0 : Int))))) true false) true false) true false) false) (.at (sC (p) (a) (b) (l) (List.set (List.set c (Int.toNat (U.int (List.getD (List.getD l (Int.toNat i) []) (Nat.succ (0 : Nat)) (U.i (0 : Int))))) true) (Int.toNat (IntKind.wrap IntKind.i64 (U.int (List.getD (List.getD l (Int.toNat i) []) (Nat.succ (0 : Nat)) (U.i (0 : Int))) + (1 : Int)))) true) (IntKind.wrap IntKind.i64 (i + (1 : Int))) (q) (nn))) .bad) (bc (bc (Nat.beq (List.length q) (List.length q)) (bc (Nat.ble (List.length q + List.length [[U.i (U.int (List.getD (List.getD l (Int.toNat i) []) (0 : Nat) (U.i (0 : Int)))), U.i (IntKind.wrap IntKind.i64 (U.int (List.getD (List.getD l (Int.toNat i) []) (Nat.succ (0 : Nat)) (U.i (0 : Int))) - a)), U.s (U.str (List.getD (List.getD l (Int.toNat i) []) (Nat.succ (Nat.succ (0 : Nat))) (U.i (0 : Int))))]]) (65536 : Nat)) (bc nn true (bc nn false true)) false) false) (.at (sC (p) (a) (b) (l) (c) (IntKind.wrap IntKind.i64 (i + (1 : Int))) (q ++ [[U.i (U.int (List.getD (List.getD l (Int.toNat i) []) (0 : Nat) (U.i (0 : Int)))), U.i (IntKind.wrap IntKind.i64 (U.int (List.getD (List.getD l (Int.toNat i) []) (Nat.succ (0 : Nat)) (U.i (0 : Int))) - a)), U.s (U.str (List.getD (List.getD l (Int.toNat i) []) (Nat.succ (Nat.succ (0 : Nat))) (U.i (0 : Int))))]]) (bc nn true (Nat.blt (0 : Nat) (List.length [[U.i (U.int (List.getD (List.getD l (Int.toNat i) []) (0 : Nat) (U.i (0 : Int)))), U.i (IntKind.wrap IntKind.i64 (U.int (List.getD (List.getD l (Int.toNat i) []) (Nat.succ (0 : Nat)) (U.i (0 : Int))) - a)), U.s (U.str (List.getD (List.getD l (Int.toNat i) []) (Nat.succ (Nat.succ (0 : Nat))) (U.i (0 : Int))))]]))))) .bad)) .bad) .bad)) .bad) .bad))) .bad) .bad) (bc (bc (bc (Nat.beq (List.length q) (List.length q)) true false) true false) (.done (EV.tup [(EV.agg [(EV.v (Value.int IntKind.i64 (p))), (EV.lst (SyC.recs [(Sh.int IntKind.i64), (Sh.int IntKind.i64), Sh.str] (q)))]), (EV.v (Value.int IntKind.i64 (0)))]) [] 0) .bad)) := by kernel_rfl
theorem in_t (n a b : Int) (l : List (List U)) : RUN (st0 33 [.agg [iv n, wl l], iv a, iv b]) = (bc (chk4 n l != (0 : Int)) (.done (EV.tup [(EV.v (Value.agg (Array.mk [(Value.int IntKind.i64 (0)), (Value.slice Option.none 0 0)]))), (EV.v (Value.int IntKind.i64 (chk4 n l)))]) [] 0) (bc (decide (a < (0 : Int))) (.done (EV.tup [(EV.v (Value.agg (Array.mk [(Value.int IntKind.i64 (0)), (Value.slice Option.none 0 0)]))), (EV.v (Value.int IntKind.i64 (7)))]) [] 0) (bc (decide (n ≤ b)) (.done (EV.tup [(EV.v (Value.agg (Array.mk [(Value.int IntKind.i64 (0)), (Value.slice Option.none 0 0)]))), (EV.v (Value.int IntKind.i64 (7)))]) [] 0) (bc (decide (b ≤ a)) (.done (EV.tup [(EV.v (Value.agg (Array.mk [(Value.int IntKind.i64 (0)), (Value.slice Option.none 0 0)]))), (EV.v (Value.int IntKind.i64 (7)))]) [] 0) (.at (sC (IntKind.wrap IntKind.i64 (IntKind.wrap IntKind.i64 (b - a) + (1 : Int))) (a) (b) (l) (List.map (fun r => U.bool (List.headD r (U.i (0 : Int)))) [[U.b false], [U.b false], [U.b false], [U.b false], [U.b false], [U.b false], [U.b false], [U.b false], [U.b false], [U.b false], [U.b false], [U.b false], [U.b false], [U.b false], [U.b false], [U.b false], [U.b false], [U.b false], [U.b false], [U.b false], [U.b false], [U.b false], [U.b false], [U.b false]]) ((0 : Int)) ([]) (false))))))) := by kernel_rfl
theorem step {p a b : Int} {l : List (List U)} {c : List Bool} {i d : Nat} {q : List (List U)} {nn : Bool} (hi : i < l.length) (hl : l.length ≤ 1000) (hc : c.length = 24) (hq : q.length ≤ 1000) (hd : rA (l.getD i []) = (d : Int)) (h22 : d ≤ 22) (ha : -1000 ≤ a ∧ a ≤ 1000) : RUN (stOf (sC p a b l c i q nn)) = bc (bc (decide ((d : Int) < a)) true (bc (decide (b ≤ (d : Int))) true (bc (c.getD d false) true (c.getD (d + 1) false)))) (.at (sC p a b l ((c.set d true).set (d + 1) true) (i + 1 : Nat) q nn)) (.at (sC p a b l c (i + 1 : Nat) (q ++ [dnR a (l.getD i [])]) true)) := by
  rw [step_t]
  have e2 : IntKind.wrap IntKind.i64 ((d : Int) + 1) = ((d + 1 : Nat) : Int) := by simp (disch := omega) only [wrap_in]; rfl
  have e3 : dnR a (l.getD i []) = mkR (rK (l.getD i [])) ((d : Int) - a) (rW (l.getD i [])) := by unfold dnR; rw [hd]
  rw [e3]
  by_cases h1 : (d : Int) < a
  · simp (disch := omega) only [Nat.add_eq, eqSy_self, eqN_self, bc_same, List.length_cons, ofn, wrap_in, dt, df, bltD, bltN, ble_of, bleN, beqD, bc_t, bc_f, nn_ok, Nat.zero_add, to_nat, Int.zero_add, Int.sub_zero, Int.sub_self, Int.cast_ofNat_Int, Int.natCast_zero, Int.toNat_zero, List.take_zero, List.nil_append, List.length_append, List.length_nil, fK0, fK1, fA0, fA1, fA2, fW0, fW1, fW2, hd, e2, hc, dt h1, Int.toNat_natCast, List.length_set]
    rfl
  · by_cases h2 : b ≤ (d : Int)
    · simp (disch := omega) only [Nat.add_eq, eqSy_self, eqN_self, bc_same, List.length_cons, ofn, wrap_in, dt, df, bltD, bltN, ble_of, bleN, beqD, bc_t, bc_f, nn_ok, Nat.zero_add, to_nat, Int.zero_add, Int.sub_zero, Int.sub_self, Int.cast_ofNat_Int, Int.natCast_zero, Int.toNat_zero, List.take_zero, List.nil_append, List.length_append, List.length_nil, fK0, fK1, fA0, fA1, fA2, fW0, fW1, fW2, hd, e2, hc, df h1, dt h2, Int.toNat_natCast, List.length_set]
      rfl
    · cases h3 : c.getD d false
      · cases h4 : c.getD (d + 1) false
        · simp (disch := omega) only [Nat.add_eq, eqSy_self, eqN_self, bc_same, List.length_cons, ofn, wrap_in, dt, df, bltD, bltN, ble_of, bleN, beqD, bc_t, bc_f, nn_ok, Nat.zero_add, to_nat, Int.zero_add, Int.sub_zero, Int.sub_self, Int.cast_ofNat_Int, Int.natCast_zero, Int.toNat_zero, List.take_zero, List.nil_append, List.length_append, List.length_nil, fK0, fK1, fA0, fA1, fA2, fW0, fW1, fW2, hd, e2, hc, df h1, df h2, h3, h4, Int.toNat_natCast, List.length_set]
          rfl
        · simp (disch := omega) only [Nat.add_eq, eqSy_self, eqN_self, bc_same, List.length_cons, ofn, wrap_in, dt, df, bltD, bltN, ble_of, bleN, beqD, bc_t, bc_f, nn_ok, Nat.zero_add, to_nat, Int.zero_add, Int.sub_zero, Int.sub_self, Int.cast_ofNat_Int, Int.natCast_zero, Int.toNat_zero, List.take_zero, List.nil_append, List.length_append, List.length_nil, fK0, fK1, fA0, fA1, fA2, fW0, fW1, fW2, hd, e2, hc, df h1, df h2, h3, h4, Int.toNat_natCast, List.length_set]
          rfl
      · simp (disch := omega) only [Nat.add_eq, eqSy_self, eqN_self, bc_same, List.length_cons, ofn, wrap_in, dt, df, bltD, bltN, ble_of, bleN, beqD, bc_t, bc_f, nn_ok, Nat.zero_add, to_nat, Int.zero_add, Int.sub_zero, Int.sub_self, Int.cast_ofNat_Int, Int.natCast_zero, Int.toNat_zero, List.take_zero, List.nil_append, List.length_append, List.length_nil, fK0, fK1, fA0, fA1, fA2, fW0, fW1, fW2, hd, e2, hc, df h1, df h2, h3, Int.toNat_natCast, List.length_set]
        rfl
end PCut
theorem tch_iff (x y : List U) : tch x y = true ↔ rA x - rA y ≤ 1 ∧ rA y - rA x ≤ 1 := by
  unfold tch
  by_cases h1 : rA x - rA y ≤ 1
  · rw [dt h1, bc_t, decide_eq_true_iff]; exact ⟨fun h => ⟨h1, h⟩, fun h => h.2⟩
  · rw [df h1, bc_f]; exact ⟨fun h => (by cases h), fun h => absurd h.1 h1⟩
theorem getD_set_ne {α : Type} (q : List α) {i j : Nat} (x d : α) (h : i ≠ j) : (q.set i x).getD j d = q.getD j d := by
  rw [List.getD_eq_getElem?_getD, List.getD_eq_getElem?_getD, List.getElem?_set_ne h]
theorem getD_set_eq {α : Type} (q : List α) {i : Nat} (x d : α) (h : i < q.length) : (q.set i x).getD i d = x := by
  rw [List.getD_eq_getElem?_getD, List.getElem?_set_self h]; rfl
theorem outF_ne (l : List (List U)) (a b : Int) (q : List Bool) {i j : Nat} (h : i ≠ j) : (outF l a b q i).getD j false = q.getD j false := by
  unfold outF
  cases inB l (q.set i (rng a b (l.getD i []))) i 0 i
  · exact getD_set_ne q _ _ h
  · show ((q.set i _).set i false).getD j false = _
    rw [getD_set_ne _ _ _ h, getD_set_ne _ _ _ h]
theorem outF_at (l : List (List U)) (a b : Int) (q : List Bool) {i : Nat} (h : i < q.length) : (outF l a b q i).getD i false = bc (inB l (q.set i (rng a b (l.getD i []))) i 0 i) false (rng a b (l.getD i [])) := by
  unfold outF
  cases inB l (q.set i (rng a b (l.getD i []))) i 0 i
  · exact getD_set_eq q _ _ h
  · show ((q.set i _).set i false).getD i false = _
    exact getD_set_eq _ _ _ (by rw [List.length_set]; exact h)
theorem inB_set (l : List (List U)) (q : List Bool) (i : Nat) (x : Bool) : inB l (q.set i x) i 0 i = inB l q i 0 i := by
  rw [Bool.eq_iff_iff, inB_iff, inB_iff]
  constructor <;> rintro ⟨j, h1, h2, h3, h4⟩ <;> refine ⟨j, h1, h2, ?_, h4⟩
  · rwa [getD_set_ne _ _ _ (by omega)] at h3
  · rwa [getD_set_ne _ _ _ (by omega)]

structure InvC (l : List (List U)) (c q : List Bool) (i : Nat) : Prop where
  hc : c.length = 24
  hq : q.length = l.length
  iff : ∀ p : Nat, p < 24 → (c.getD p false = true ↔ ∃ j, j < i ∧ q.getD j false = false ∧ (rA (l.getD j []) = (p : Int) ∨ rA (l.getD j []) + 1 = (p : Int)))
theorem InvC.inB {l : List (List U)} {c q : List Bool} {i d : Nat} (I : InvC l c q i) (hd : rA (l.getD i []) = (d : Int)) (h22 : d ≤ 22) : inB l q i 0 i = bc (c.getD d false) true (c.getD (d + 1) false) := by
  have e : bc (c.getD d false) true (c.getD (d + 1) false) = true ↔ c.getD d false = true ∨ c.getD (d + 1) false = true := by
    cases c.getD d false <;> simp [bc]
  rw [Bool.eq_iff_iff, inB_iff, e, I.iff d (by omega), I.iff (d + 1) (by omega)]
  constructor
  · rintro ⟨j, h1, h2, h3, h4⟩
    rw [tch_iff, hd] at h4
    by_cases h5 : rA (l.getD j []) = (d : Int) + 1
    · exact .inr ⟨j, by omega, h3, .inl (by omega)⟩
    · exact .inl ⟨j, by omega, h3, by omega⟩
  · rintro (⟨j, h1, h2, h3⟩ | ⟨j, h1, h2, h3⟩) <;> exact ⟨j, by omega, by omega, h2, by rw [tch_iff, hd]; omega⟩
noncomputable def blkC (a b : Int) (c : List Bool) (d : Nat) : Bool := bc (decide ((d : Int) < a)) true (bc (decide (b ≤ (d : Int))) true (bc (c.getD d false) true (c.getD (d + 1) false)))
theorem InvC.out {l : List (List U)} {c q : List Bool} {i d : Nat} (I : InvC l c q i) (hi : i < l.length) (hd : rA (l.getD i []) = (d : Int)) (h22 : d ≤ 22) (a b : Int) : (outF l a b q i).getD i false = !blkC a b c d := by
  rw [outF_at _ _ _ _ (by rw [I.hq]; exact hi), inB_set, I.inB hd h22]
  unfold blkC rng
  rw [hd]
  by_cases h1 : (d : Int) < a
  · rw [dt h1, df (show ¬ a ≤ (d : Int) by omega)]
    cases bc (c.getD d false) true (c.getD (d + 1) false) <;> rfl
  · rw [df h1, dt (show a ≤ (d : Int) by omega)]
    by_cases h2 : b ≤ (d : Int)
    · rw [dt h2, df (show ¬ (d : Int) < b by omega)]
      cases bc (c.getD d false) true (c.getD (d + 1) false) <;> rfl
    · rw [df h2, dt (show (d : Int) < b by omega)]
      cases bc (c.getD d false) true (c.getD (d + 1) false) <;> rfl
theorem InvC.no {l : List (List U)} {c q : List Bool} {i d : Nat} (I : InvC l c q i) (hi : i < l.length) (hd : rA (l.getD i []) = (d : Int)) (h22 : d ≤ 22) {a b : Int} (h : blkC a b c d = false) : InvC l c (outF l a b q i) (i + 1) := by
  have ho := I.out hi hd h22 a b
  rw [h] at ho
  refine ⟨I.hc, by rw [outF_len]; exact I.hq, fun p hp => ?_⟩
  rw [I.iff p hp]
  constructor
  · rintro ⟨j, h1, h2, h3⟩
    exact ⟨j, by omega, by rw [outF_ne _ _ _ _ (by omega)]; exact h2, h3⟩
  · rintro ⟨j, h1, h2, h3⟩
    by_cases e : j = i
    · subst e; rw [ho] at h2; cases h2
    · exact ⟨j, by omega, by rwa [outF_ne _ _ _ _ (by omega)] at h2, h3⟩
theorem InvC.yes {l : List (List U)} {c q : List Bool} {i d : Nat} (I : InvC l c q i) (hi : i < l.length) (hd : rA (l.getD i []) = (d : Int)) (h22 : d ≤ 22) {a b : Int} (h : blkC a b c d = true) : InvC l ((c.set d true).set (d + 1) true) (outF l a b q i) (i + 1) := by
  have ho := I.out hi hd h22 a b
  rw [h] at ho
  have hc := I.hc
  refine ⟨by rw [List.length_set, List.length_set]; exact I.hc, by rw [outF_len]; exact I.hq, fun p hp => ?_⟩
  by_cases e1 : p = d + 1
  · subst e1
    rw [getD_set_eq _ _ _ (by rw [List.length_set]; omega)]
    exact ⟨fun _ => ⟨i, by omega, ho, .inr (by omega)⟩, fun _ => rfl⟩
  rw [getD_set_ne _ _ _ (by omega)]
  by_cases e2 : p = d
  · subst e2
    rw [getD_set_eq _ _ _ (by omega)]
    exact ⟨fun _ => ⟨i, by omega, ho, .inl hd⟩, fun _ => rfl⟩
  rw [getD_set_ne _ _ _ (by omega), I.iff p hp]
  constructor
  · rintro ⟨j, h1, h2, h3⟩
    exact ⟨j, by omega, by rw [outF_ne _ _ _ _ (by omega)]; exact h2, h3⟩
  · rintro ⟨j, h1, h2, h3⟩
    by_cases e : j = i
    · subst e; omega
    · exact ⟨j, by omega, by rwa [outF_ne _ _ _ _ (by omega)] at h2, h3⟩
theorem kepF_lt (l : List (List U)) (a b : Int) : ∀ (k i j : Nat) (q : List Bool), j < i → (kepF l a b i q k).getD j false = q.getD j false
  | 0, i, j, q, h => rfl
  | k + 1, i, j, q, h => by
    unfold kepF
    rw [kepF_lt l a b k (i + 1) j _ (by omega), outF_ne _ _ _ _ (by omega)]
namespace PCut
theorem last {p a b : Int} {l : List (List U)} {c : List Bool} {i : Nat} {q : List (List U)} {nn : Bool} (hi : l.length ≤ i) : RUN (stOf (sC p a b l c i q nn)) = .done (shE p q 0) [] 0 := by
  rw [step_t]
  simp (disch := omega) only [Nat.add_eq, eqSy_self, eqN_self, bc_same, List.length_cons, ofn, wrap_in, dt, df, bltD, bltN, ble_of, bleN, beqD, bc_t, bc_f, nn_ok, Nat.zero_add, to_nat, Int.zero_add, Int.sub_zero, Int.sub_self, Int.cast_ofNat_Int, Int.natCast_zero, Int.toNat_zero, List.take_zero, List.nil_append, List.length_append, List.length_nil]
  rfl
theorem loop {p a b : Int} {l : List (List U)} (hl : l.length ≤ 1000) (ha : ∀ j, j < l.length → 0 ≤ rA (l.getD j []) ∧ rA (l.getD j []) ≤ 22) (h2 : -1000 ≤ a ∧ a ≤ 1000) : ∀ (m i : Nat) (c kq : List Bool) (q : List (List U)) (nn : Bool), i + m = l.length → q.length ≤ i → InvC l c kq i → EndZ 33 ctJ1 false (stOf (sC p a b l c i q nn)) (shE p (q ++ cutG (kepF l a b i kq m) l a i m) 0) [] 0
  | 0, i, c, kq, q, nn, h, hq, I => by
    show EndZ _ _ _ _ (shE p (q ++ []) 0) _ _
    rw [List.append_nil]
    exact .done (last (by omega))
  | m + 1, i, c, kq, q, nn, h, hq, I => by
    have hi : i < l.length := by omega
    obtain ⟨d, hd⟩ := Int.eq_ofNat_of_zero_le (ha i hi).1
    have h22 : d ≤ 22 := by have := (ha i hi).2; omega
    have hs := step (p := p) (b := b) (nn := nn) hi hl I.hc (show q.length ≤ 1000 by omega) hd h22 h2
    have ho := I.out hi hd h22 a b
    have hk : (kepF l a b i kq (m + 1)).getD i false = !blkC a b c d := by
      unfold kepF
      rw [kepF_lt _ _ _ _ _ _ _ (by omega)]; exact ho
    have hs' : RUN (stOf (sC p a b l c i q nn)) = bc (blkC a b c d) (.at (sC p a b l ((c.set d true).set (d + 1) true) (i + 1 : Nat) q nn)) (.at (sC p a b l c (i + 1 : Nat) (q ++ [dnR a (l.getD i [])]) true)) := hs
    unfold cutG
    rw [hk]
    cases hb : blkC a b c d <;> rw [hb] at hs'
    · show EndZ _ _ _ _ (shE p (q ++ (dnR a (l.getD i []) :: cutG (kepF l a b (i + 1) (outF l a b kq i) m) l a (i + 1) m)) 0) _ _
      rw [show ∀ z : List (List U), q ++ (dnR a (l.getD i []) :: z) = (q ++ [dnR a (l.getD i [])]) ++ z by intro z; simp]
      exact .at ctJ1_ok hs' (loop hl ha h2 m (i + 1) _ _ _ true (by omega) (by simp; omega) (I.no hi hd h22 hb))
    · exact .at ctJ1_ok hs' (loop hl ha h2 m (i + 1) _ _ q nn (by omega) (by omega) (I.yes hi hd h22 hb))
theorem inv0 (l : List (List U)) : InvC l (List.map (fun r => U.bool (List.headD r (U.i (0 : Int)))) [[U.b false], [U.b false], [U.b false], [U.b false], [U.b false], [U.b false], [U.b false], [U.b false], [U.b false], [U.b false], [U.b false], [U.b false], [U.b false], [U.b false], [U.b false], [U.b false], [U.b false], [U.b false], [U.b false], [U.b false], [U.b false], [U.b false], [U.b false], [U.b false]]) (List.replicate l.length false) 0 := by
  refine ⟨rfl, List.length_replicate, fun p hp => ?_⟩
  rw [show (List.map (fun r => U.bool (List.headD r (U.i (0 : Int)))) [[U.b false], [U.b false], [U.b false], [U.b false], [U.b false], [U.b false], [U.b false], [U.b false], [U.b false], [U.b false], [U.b false], [U.b false], [U.b false], [U.b false], [U.b false], [U.b false], [U.b false], [U.b false], [U.b false], [U.b false], [U.b false], [U.b false], [U.b false], [U.b false]]) = List.replicate 24 false from rfl]
  constructor
  · intro h
    rw [List.getD_eq_getElem?_getD, List.getElem?_replicate] at h
    split at h <;> cases h
  · rintro ⟨j, h1, _⟩; omega
theorem ends (n a b : Int) (l : List (List U)) : EndZ 33 ctJ1 false (st0 33 [.agg [iv n, wl l], iv a, iv b]) (shE (cutP n a b l) (cutL n a b l) (cutE n a b l)) [] 0 := by
  have h := in_t n a b l
  have he : cutE n a b l = bc (chk4 n l != 0) (chk4 n l) (bc (decide (a < 0)) 7 (bc (decide (n ≤ b)) 7 (bc (decide (b ≤ a)) 7 0))) := rfl
  cases h1 : (chk4 n l != 0) <;> rw [h1] at h he
  · have v := chk4_ok (ne0 h1)
    have g1 := v.lo
    have g2 := v.hi
    have g3 := v.len
    simp only [bc_f] at h he
    by_cases h2 : a < 0
    · simp only [dt h2, bc_t] at h he
      exact doneY h (cutV he rfl).1.symm (cutV he rfl).2.symm he.symm
    by_cases h3 : n ≤ b
    · simp only [df h2, dt h3, bc_t, bc_f] at h he
      exact doneY h (cutV he rfl).1.symm (cutV he rfl).2.symm he.symm
    by_cases h4 : b ≤ a
    · simp only [df h2, df h3, dt h4, bc_t, bc_f] at h he
      exact doneY h (cutV he rfl).1.symm (cutV he rfl).2.symm he.symm
    simp (disch := omega) only [df h2, df h3, df h4, bc_t, bc_f, wrap_in] at h he
    have key := loop (p := b - a + 1) (a := a) (b := b) (l := l) (by omega) (fun j hj => by
      rw [getD_at hj]
      have := v.val _ (List.getElem_mem hj)
      have k1 := this.lo
      have k2 := this.hi
      omega) ⟨by omega, by omega⟩ l.length 0 _ _ [] false (by omega) (by simp) (inv0 l)
    rw [List.nil_append] at key
    rw [(cutV0 he).1, (cutV0 he).2, he]
    exact .at ctJ1_ok h key
  · simp only [bc_t] at h he
    exact doneY h (cutV he h1).1.symm (cutV he h1).2.symm he.symm
end PCut
noncomputable def spPCut : ZCT := fun ax => match ax with
  | [.agg [.v (.int .i64 n), .lst (.recs [.int .i64, .int .i64, .str] l)], .v (.int .i64 a), .v (.int .i64 b)] => some ⟨decide (True), shE (cutP n a b l) (cutL n a b l) (cutE n a b l), [], 0⟩
  | _ => none
theorem spPCut_ok : ZCtOk Try.prog 33 spPCut := fun γ w us ax r hs hc hax hN hfz => by
  unfold spPCut at hs
  split at hs
  case h_2 => cases hs
  rename_i n l a b
  obtain ⟨rfl⟩ := Option.some.inj hs
  have hc_0 : decide (True) = true := hc
  have hc := of_decide_eq_true hc_0
  exact EndZ.calls (PCut.ends n a b l) ctJ1_ok (by kernel_rfl) hax hN hfz
end Go.Proofs.Ytkbebiebaenbdaa.Ev
namespace Go.Proofs.Ytkbebiebaenbdaa.Ev
open Go.Proofs

noncomputable def prv (l : List (List U)) (d : List Bool) (b a : Nat) : Nat → Bool
  | 0 => true
  | k + 1 => bc (bc (tch (l.getD a []) (l.getD b [])) (!d.getD a false) false) false (prv l d b (a + 1) k)
noncomputable def ordB (l : List (List U)) (d : List Bool) : List Int → Bool
  | [] => true
  | b :: bs => bc (bc (decide (b < 0)) true (bc (decide ((d.length : Int) ≤ b)) true (d.getD b.toNat false))) false (bc (prv l d b.toNat 0 b.toNat) (ordB l (d.set b.toNat true) bs) false)
theorem prv_of {l : List (List U)} {d : List Bool} {b : Nat} : ∀ (k a : Nat), (∀ j, a ≤ j → j < a + k → tch (l.getD j []) (l.getD b []) = true → d.getD j false = true) → prv l d b a k = true
  | 0, a, _ => rfl
  | k + 1, a, h => by
    have e : bc (tch (l.getD a []) (l.getD b [])) (!d.getD a false) false = false := by
      cases ht : tch (l.getD a []) (l.getD b [])
      · rfl
      · rw [h a (Nat.le_refl _) (by omega) ht]; rfl
    unfold prv
    rw [e, bc_f]
    exact prv_of k (a + 1) fun j h1 h2 => h j (by omega) (by omega)
theorem ordB_of {l : List (List U)} : ∀ (o : List Nat) (d : List Bool), d.length = l.length → (∀ i, i ∈ o → i < l.length) → o.Nodup → (∀ i, i < l.length → (d.getD i false = false ↔ i ∈ o)) → o.Pairwise (fun p q => ¬ (q < p ∧ tch (l.getD q []) (l.getD p []) = true)) → ordB l d (o.map fun (j : Nat) => (j : Int)) = true
  | [], d, _, _, _, _, _ => rfl
  | p :: o, d, hd, hlt, hnd, hdone, hpw => by
    obtain ⟨hp, hnd'⟩ := List.nodup_cons.1 hnd
    obtain ⟨hpp, hpw'⟩ := List.pairwise_cons.1 hpw
    have hpn := hlt p (by simp)
    have hdp : d.getD p false = false := (hdone p hpn).2 (by simp)
    have h0 : ¬ (p : Int) < 0 := Int.not_lt.2 (Int.natCast_nonneg p)
    have h1 : ¬ (d.length : Int) ≤ (p : Int) := by omega
    show bc (bc (decide ((p : Int) < 0)) true (bc (decide ((d.length : Int) ≤ (p : Int))) true (d.getD (Int.toNat (p : Int)) false))) false (bc (prv l d (Int.toNat (p : Int)) 0 (Int.toNat (p : Int))) (ordB l (d.set (Int.toNat (p : Int)) true) (o.map fun (j : Nat) => (j : Int))) false) = true
    rw [df h0, df h1, Int.toNat_natCast, hdp, bc_f, bc_f, bc_f, prv_of p 0 (fun j _ hj ht => ?_), bc_t]
    · refine ordB_of o (d.set p true) (by rw [List.length_set]; exact hd) (fun i hi => hlt i (by simp [hi])) hnd' (fun i hi => ?_) hpw'
      by_cases e : i = p
      · subst e
        rw [getD_set_eq _ _ _ (by omega)]
        exact ⟨fun h => (by cases h), fun h => absurd h hp⟩
      · rw [getD_set_ne _ _ _ (fun h => e h.symm), hdone i hi]
        simp [e]
    · cases hdj : d.getD j false
      · exfalso
        have hm := (hdone j (by omega)).1 hdj
        rcases List.mem_cons.1 hm with e | e
        · omega
        · exact hpp j e ⟨by omega, ht⟩
      · rfl

theorem inB_congr {l : List (List U)} {q q' : List Bool} {i : Nat} (h : ∀ j, j < i → q.getD j false = q'.getD j false) : inB l q i 0 i = inB l q' i 0 i := by
  rw [Bool.eq_iff_iff, inB_iff, inB_iff]
  constructor <;> rintro ⟨j, h1, h2, h3, h4⟩ <;> refine ⟨j, h1, h2, ?_, h4⟩
  · rw [← h j (by omega)]; exact h3
  · rw [h j (by omega)]; exact h3
theorem kepF_fix {l : List (List U)} {a b : Int} : ∀ (k i i' : Nat) (q : List Bool), i ≤ i' → i' < i + k → q.length = l.length → i + k ≤ l.length → (kepF l a b i q k).getD i' false = bc (inB l (kepF l a b i q k) i' 0 i') false (rng a b (l.getD i' []))
  | 0, i, i', q, h1, h2, _, _ => by omega
  | k + 1, i, i', q, h1, h2, hq, hl => by
    by_cases e : i' = i
    · subst e
      have c : inB l (kepF l a b i' q (k + 1)) i' 0 i' = inB l q i' 0 i' := inB_congr fun j hj => kepF_lt l a b (k + 1) i' j q hj
      rw [c]
      unfold kepF
      rw [kepF_lt l a b k (i' + 1) i' _ (by omega), outF_at _ _ _ _ (by omega), inB_set]
    · unfold kepF
      exact kepF_fix k (i + 1) i' _ (by omega) (by omega) (by rw [outF_len]; exact hq) (by omega)
theorem kep_at {l : List (List U)} {a b : Int} {i : Nat} (hi : i < l.length) : (kepL a b l).getD i false = bc (inB l (kepL a b l) i 0 i) false (rng a b (l.getD i [])) := by
  unfold kepL
  exact kepF_fix l.length 0 i _ (Nat.zero_le _) (by omega) List.length_replicate (by omega)
theorem kep_no {l : List (List U)} {a b : Int} {i j : Nat} (hi : i < l.length) (h : (kepL a b l).getD i false = true) (hj : j < i) (hk : (kepL a b l).getD j false = false) : tch (l.getD j []) (l.getD i []) = false := by
  cases ht : tch (l.getD j []) (l.getD i [])
  · rfl
  · have : inB l (kepL a b l) i 0 i = true := (inB_iff _ _ _ _ _).2 ⟨j, Nat.zero_le _, by omega, hk, ht⟩
    rw [kep_at hi, this, bc_t] at h
    cases h
theorem kep_all {l : List (List U)} {a b : Int} (h : ∀ i, i < l.length → rng a b (l.getD i []) = true) : ∀ (n i : Nat), i < n → i < l.length → (kepL a b l).getD i false = true
  | 0, i, h1, _ => by omega
  | n + 1, i, h1, h2 => by
    have : inB l (kepL a b l) i 0 i = false := by
      cases e : inB l (kepL a b l) i 0 i
      · rfl
      · obtain ⟨j, _, hj, hk, _⟩ := (inB_iff _ _ _ _ _).1 e
        rw [kep_all h n j (by omega) (by omega)] at hk
        cases hk
    rw [kep_at h2, this, bc_f, h i h2]
theorem cutG_all {ks : List Bool} {l : List (List U)} {a : Int} : ∀ (k i : Nat), i + k = l.length → (∀ j, j < l.length → ks.getD j false = true) → cutG ks l a i k = (l.drop i).map (dnR a)
  | 0, i, h, _ => by rw [List.drop_eq_nil_of_le (by omega)]; rfl
  | k + 1, i, h, hk => by
    have hi : i < l.length := by omega
    unfold cutG
    rw [hk i hi, bc_t, List.drop_eq_getElem_cons hi, List.map_cons, getD_at hi, cutG_all k (i + 1) (by omega) hk]
theorem sameR_map {f : List U → List U} (h : ∀ r, rowEq (f r) r = true) : ∀ l : List (List U), sameR (l.map f) l = true
  | [] => rfl
  | x :: l => by rw [List.map_cons, sameR_cons, h x, bc_t]; exact sameR_map h l

noncomputable def ordI (ks : List Bool) (i : Nat) : Nat → List Int
  | 0 => []
  | k + 1 => bc (ks.getD i false) ((i : Int) :: ordI ks (i + 1) k) (ordI ks (i + 1) k)
noncomputable def rstI (ks : List Bool) (i : Nat) : Nat → List Int
  | 0 => []
  | k + 1 => bc (ks.getD i false) (rstI ks (i + 1) k) ((i : Int) :: rstI ks (i + 1) k)
theorem ordI_eq (ks : List Bool) : ∀ (k i : Nat), ordI ks i k = ((List.range' i k).filter fun j => ks.getD j false).map fun (j : Nat) => (j : Int)
  | 0, i => rfl
  | k + 1, i => by
    unfold ordI
    rw [List.range'_succ, List.filter_cons, ordI_eq ks k (i + 1)]
    cases ks.getD i false <;> rfl
theorem rstI_eq (ks : List Bool) : ∀ (k i : Nat), rstI ks i k = ((List.range' i k).filter fun j => !ks.getD j false).map fun (j : Nat) => (j : Int)
  | 0, i => rfl
  | k + 1, i => by
    unfold rstI
    rw [List.range'_succ, List.filter_cons, rstI_eq ks k (i + 1)]
    cases ks.getD i false <;> rfl
theorem cutG_ordI (ks : List Bool) (l : List (List U)) (a : Int) : ∀ (k i : Nat), (cutG ks l a i k).length = (ordI ks i k).length
  | 0, i => rfl
  | k + 1, i => by
    unfold cutG ordI
    cases ks.getD i false
    · exact cutG_ordI ks l a k (i + 1)
    · show (cutG ks l a (i + 1) k).length + 1 = (ordI ks (i + 1) k).length + 1
      rw [cutG_ordI ks l a k (i + 1)]
theorem ord_kept (a b : Int) (l : List (List U)) : ordB l (List.replicate l.length false) (ordI (kepL a b l) 0 l.length ++ rstI (kepL a b l) 0 l.length) = true := by
  rw [ordI_eq, rstI_eq, ← List.map_append]
  refine ordB_of _ _ List.length_replicate (fun i hi => ?_) ?_ (fun i hi => ?_) ?_
  · simp only [List.mem_append, List.mem_filter, List.mem_range'_1] at hi
    omega
  · rw [List.nodup_append]
    refine ⟨List.Pairwise.filter _ List.nodup_range', List.Pairwise.filter _ List.nodup_range', ?_⟩
    rintro i hi j hj rfl
    simp only [List.mem_filter, Bool.not_eq_true'] at hi hj
    rw [hi.2] at hj
    cases hj.2
  · rw [show (List.replicate l.length false).getD i false = false by rw [List.getD_eq_getElem?_getD, List.getElem?_replicate]; split <;> rfl]
    simp only [List.mem_append, List.mem_filter, List.mem_range'_1, Bool.not_eq_true', true_iff]
    cases (kepL a b l).getD i false
    · exact .inr ⟨by omega, rfl⟩
    · exact .inl ⟨by omega, rfl⟩
  · have up : ∀ p : Nat → Bool, ((List.range' 0 l.length).filter p).Pairwise (fun p q => ¬ (q < p ∧ tch (l.getD q []) (l.getD p []) = true)) := fun p => (List.Pairwise.filter p List.pairwise_lt_range').imp fun h e => by omega
    rw [List.pairwise_append]
    refine ⟨up _, up _, fun p hp q hq e => ?_⟩
    simp only [List.mem_filter, List.mem_range'_1, Bool.not_eq_true'] at hp hq
    rw [kep_no (by omega) hp.2 e.1 hq.2] at e
    cases e.2

theorem shL_shL (d e : Int) (l : List (List U)) : shL d (shL e l) = shL (d + e) l := by
  unfold shL
  rw [List.map_map]
  apply List.map_congr_left
  intro r _
  show mkR (rK r) (rA r + e + d) (rW r) = mkR (rK r) (rA r + (d + e)) (rW r)
  rw [show rA r + e + d = rA r + (d + e) by omega]
theorem besX {n m n' m' : Int} {l k l' k' : List (List U)} (he : besE n m l k = besE n' m' l' k') (hp : n + m = n' + m') (hl : l ++ shL n k = l' ++ shL n' k') : besP n m l k = besP n' m' l' k' ∧ besL n m l k = besL n' m' l' k' := by
  unfold besP besL
  rw [he, hp, hl]
  exact ⟨rfl, rfl⟩
theorem belX {n m n' m' : Int} {l k l' k' : List (List U)} (he : belE n m l k = belE n' m' l' k') (hp : n = n') (hl : l ++ k = l' ++ k') : belP n m l k = belP n' m' l' k' ∧ belL n m l k = belL n' m' l' k' := by
  unfold belP belL
  rw [he, hp, hl]
  exact ⟨rfl, rfl⟩
theorem grA {a b c : Int} {A B C : List (List U)} (h1 : besE a b A B = 0) (h2 : besE b c B C = 0) :
    besE (besP a b A B) c (besL a b A B) C = besE a (besP b c B C) A (besL b c B C) ∧ besP (besP a b A B) c (besL a b A B) C = besP a (besP b c B C) A (besL b c B C) ∧ besL (besP a b A B) c (besL a b A B) C = besL a (besP b c B C) A (besL b c B C) := by
  obtain ⟨kA, kB, p1, n1⟩ := besE_0 h1
  obtain ⟨_, kC, p2, n2⟩ := besE_0 h2
  have wAB := (chk4_ok kA).bes (chk4_ok kB) p1 (by omega)
  have wBC := (chk4_ok kB).bes (chk4_ok kC) p2 (by omega)
  rw [(besV0 h1).1, (besV0 h1).2, (besV0 h2).1, (besV0 h2).2]
  have he : besE (a + b) c (A ++ shL a B) C = besE a (b + c) A (B ++ shL b C) := by
    rw [besE0 (chk4_of wAB) kC, besE0 kA (chk4_of wBC)]
    have e1 : ((A ++ shL a B).length : Int) + C.length = (A.length : Int) + (B ++ shL b C).length := by simp only [List.length_append, shL_len]; omega
    rw [e1, show a + b + c = a + (b + c) by omega]
  exact ⟨he, besX he (by omega) (by rw [shL_app, shL_shL, List.append_assoc])⟩
theorem grB {a b c : Int} {A B C : List (List U)} (h1 : belE a b A B = 0) (h2 : belE b c B C = 0) :
    belE (belP a b A B) c (belL a b A B) C = belE a (belP b c B C) A (belL b c B C) ∧ belP (belP a b A B) c (belL a b A B) C = belP a (belP b c B C) A (belL b c B C) ∧ belL (belP a b A B) c (belL a b A B) C = belL a (belP b c B C) A (belL b c B C) := by
  obtain ⟨kA, kB, e1, n1⟩ := belE_0 h1
  obtain ⟨_, kC, e2, n2⟩ := belE_0 h2
  subst e1 e2
  have wAB := (chk4_ok kA).app (chk4_ok kB) (by omega)
  have wBC := (chk4_ok kB).app (chk4_ok kC) (by omega)
  rw [(belV0 h1).1, (belV0 h1).2, (belV0 h2).1, (belV0 h2).2]
  have he : belE a a (A ++ B) C = belE a a A (B ++ C) := by
    rw [belE0 (chk4_of wAB) kC, belE0 kA (chk4_of wBC)]
    have e1 : ((A ++ B).length : Int) + C.length = (A.length : Int) + (B ++ C).length := by simp only [List.length_append]; omega
    rw [e1]
  exact ⟨he, belX he rfl (by simp)⟩
end Go.Proofs.Ytkbebiebaenbdaa.Ev
namespace Go.Proofs.Ytkbebiebaenbdaa
open Go.ChangeShapes Go.WideShapes Go.ChangeAt Go.RowKit
namespace Ev
variable {H : Type} {enc : TypeId × Value → H} {P : Program} {W : World} {base : Nat} {sp : Nat → Bool} {hd : Bool}
theorem open_arr {t e : TypeId} {m : Nat} {v : Value} {d : DataW H} {ps : List MemPlace} {k b0 : Nat} {rc : Reach} {sh : List Sh} (hu : P.underlying t = some (.array m e)) (hs : shB P k t = some sh) (hv : Value.okWide P W rc b0 t v) (h : DataW.Trod enc P W base sp hd t v d ps) : ∃ r, RowFit sh r ∧ EC (gAll W) (.agg (recE sh r)) v := by
  simp only [Value.okWide, hu] at hv
  obtain ⟨cs, rfl, _⟩ := hv
  obtain ⟨fuel, hf⟩ := h
  obtain ⟨r, h1, h2⟩ := open_cells k t sh fuel _ _ hs hf
  have h3 := h2 (gAll W) rfl
  refine ⟨r, h1, ?_⟩
  have := EC.agg (γ := gAll W) (recE sh r) cs.toList h3.1 h3.2
  simpa using this
end Ev
end Go.Proofs.Ytkbebiebaenbdaa
namespace Go.Proofs.Ytkbebiebaenbdaa.Ev
open Go.Proofs
namespace ROrd
noncomputable def RUN (s : ES) : ZF := RZs 45 ctK [(atS 0 45 5, [[(1,none),(2,none),(5,none),(6,none)]]), (atS 0 45 11, [[(1,none),(2,none),(5,none),(6,none),(7,none),(8,none)]])] [] false s

noncomputable def sO (n : Int) (l : List (List U)) (o : List Int) (z : Nat) (d : List Bool) (i : Int) : NS := ⟨[⟨45, 68, [(1, (EV.lst (SyC.ints IntKind.i64 (o)))), (2, (EV.ptr 0 0)), (5, EV.slO 1 1 z true), (6, iv i)], [.it (.code (nav [1, 1, 1, 0, 1, 0, 0, 0] (bodyOf Try.f45))), .it (.code (nav [1, 1, 1, 0, 1, 0, 0, 1] (bodyOf Try.f45))), .it (.inLoop (nav [1, 1, 1, 0, 1, 0, 0] (bodyOf Try.f45))), .it (.inBlock 0), .it (.code (nav [1, 1, 1, 1] (bodyOf Try.f45)))], [], Option.none⟩], [(0, (EK.cells 24 [(EV.v (Value.int IntKind.i64 (n))), (EV.lst (SyC.recs [(Sh.int IntKind.i64), (Sh.int IntKind.i64), Sh.str] (l)))] true)), (1, EK.seq 4 (.bools d) true)], 2⟩
noncomputable def sI (n : Int) (l : List (List U)) (o : List Int) (z : Nat) (d : List Bool) (i b a : Int) : NS := ⟨[⟨45, 68, [(1, (EV.lst (SyC.ints IntKind.i64 (o)))), (2, (EV.ptr 0 0)), (5, (EV.slO 1 1 (z) true)), (6, (EV.v (Value.int IntKind.i64 (i)))), (7, iv b), (8, iv a)], [.it (.code (nav [1, 1, 1, 0, 1, 0, 0, 1, 0, 0, 1, 1, 0, 1, 0, 0, 0] (bodyOf Try.f45))), .it (.code (nav [1, 1, 1, 0, 1, 0, 0, 1, 0, 0, 1, 1, 0, 1, 0, 0, 1] (bodyOf Try.f45))), .it (.inLoop (nav [1, 1, 1, 0, 1, 0, 0, 1, 0, 0, 1, 1, 0, 1, 0, 0] (bodyOf Try.f45))), .it (.inBlock 2), .it (.code (nav [1, 1, 1, 0, 1, 0, 0, 1, 0, 0, 1, 1, 1] (bodyOf Try.f45))), .it (.inBlock 1), .it (.code (nav [1, 1, 1, 0, 1, 0, 0, 1, 1] (bodyOf Try.f45))), .it (.inLoop (nav [1, 1, 1, 0, 1, 0, 0] (bodyOf Try.f45))), .it (.inBlock 0), .it (.code (nav [1, 1, 1, 1] (bodyOf Try.f45)))], [], Option.none⟩], [(0, (EK.cells 24 [(EV.v (Value.int IntKind.i64 (n))), (EV.lst (SyC.recs [(Sh.int IntKind.i64), (Sh.int IntKind.i64), Sh.str] (l)))] true)), (1, (EK.seq 4 (SyC.bools (d)) true))], 2⟩
theorem in_t (n : Int) (l : List (List U)) (o : List Int) : RUN (st0 45 [.agg [iv n, wl l], il o]) = (bc (Int.ofNat (List.length o) != Int.ofNat (List.length l)) (.done (EV.v (Value.bool false)) [] 0) (bc (bc (decide (Int.ofNat (List.length o) ≤ Int.ofNat (List.length o))) (decide (Int.ofNat (List.length o) ≤ (65536 : Int))) false) (.at (sO (n) (l) (o) (List.length (List.replicate (Int.toNat (Int.ofNat (List.length o))) false)) (List.replicate (Int.toNat (Int.ofNat (List.length o))) false) ((0 : Int)))) .bad)) := by kernel_rfl
theorem o_t (n : Int) (l : List (List U)) (o : List Int) (z : Nat) (d : List Bool) (i : Int) : RUN (stOf (sO n l o z d i)) = (bc (decide (i < Int.ofNat (List.length o))) (bc (bc (bc (decide ((0 : Int) ≤ i)) (Nat.blt (Int.toNat i) (List.length o)) false) true false) (bc (bc (Nat.blt (Int.toNat i) (List.length o)) true false) (bc (decide (List.getD o (Int.toNat i) (0 : Int) < (0 : Int))) (.done (EV.v (Value.bool false)) [] 0) (bc (decide (Int.ofNat z ≤ List.getD o (Int.toNat i) (0 : Int))) (.done (EV.v (Value.bool false)) [] 0) (bc (bc (bc (decide ((0 : Int) ≤ List.getD o (Int.toNat i) (0 : Int))) (Nat.blt (Int.toNat (List.getD o (Int.toNat i) (0 : Int))) z) false) true false) (bc (bc (Nat.blt (Int.toNat (List.getD o (Int.toNat i) (0 : Int))) (List.length d)) true false) (bc (List.getD d (Int.toNat (List.getD o (Int.toNat i) (0 : Int))) false) (.done (EV.v (Value.bool false)) [] 0) (.at (sI (n) (l) (o) (z) (d) (i) (List.getD o (Int.toNat i) (0 : Int)) ((0 : Int))))) .bad) .bad))) .bad) .bad) (.done (EV.v (Value.bool true)) [] 0)) := by kernel_rfl
theorem i_t (n : Int) (l : List (List U)) (o : List Int) (z : Nat) (d : List Bool) (i b a : Int) : RUN (stOf (sI n l o z d i b a)) = (bc (decide (a < b)) (bc (bc (decide (U.int (List.getD (List.getD l (Int.toNat a) []) (Nat.succ (0 : Nat)) (U.i (0 : Int))) - U.int (List.getD (List.getD l (Int.toNat b) []) (Nat.succ (0 : Nat)) (U.i (0 : Int))) ≤ (1 : Int))) (decide (U.int (List.getD (List.getD l (Int.toNat b) []) (Nat.succ (0 : Nat)) (U.i (0 : Int))) - U.int (List.getD (List.getD l (Int.toNat a) []) (Nat.succ (0 : Nat)) (U.i (0 : Int))) ≤ (1 : Int))) false) (bc (bc (bc (bc (bc (decide ((0 : Int) ≤ a)) (Nat.blt (Int.toNat a) (List.length l)) false) true false) (bc (bc (Nat.blt (Int.toNat a) (List.length l)) true false) (bc (bc (bc (decide ((0 : Int) ≤ b)) (Nat.blt (Int.toNat b) (List.length l)) false) true false) (bc (bc (Nat.blt (Int.toNat b) (List.length l)) true false) (bc (bc (decide ((-1000 : Int) ≤ U.int (List.getD (List.getD l (Int.toNat a) []) (Nat.succ (0 : Nat)) (U.i (0 : Int))) ∧ U.int (List.getD (List.getD l (Int.toNat a) []) (Nat.succ (0 : Nat)) (U.i (0 : Int))) ≤ (1000 : Int) ∧ (-1000 : Int) ≤ U.int (List.getD (List.getD l (Int.toNat b) []) (Nat.succ (0 : Nat)) (U.i (0 : Int))) ∧ U.int (List.getD (List.getD l (Int.toNat b) []) (Nat.succ (0 : Nat)) (U.i (0 : Int))) ≤ (1000 : Int))) true false) (bc (eqB (bc (decide (U.int (List.getD (List.getD l (Int.toNat a) []) (Nat.succ (0 : Nat)) (U.i (0 : Int))) - U.int (List.getD (List.getD l (Int.toNat b) []) (Nat.succ (0 : Nat)) (U.i (0 : Int))) ≤ (1 : Int))) (decide (U.int (List.getD (List.getD l (Int.toNat b) []) (Nat.succ (0 : Nat)) (U.i (0 : Int))) - U.int (List.getD (List.getD l (Int.toNat a) []) (Nat.succ (0 : Nat)) (U.i (0 : Int))) ≤ (1 : Int))) false) true) (bc (bc (bc (decide ((0 : Int) ≤ a)) (Nat.blt (Int.toNat a) z) false) true false) (bc (bc (Nat.blt (Int.toNat a) (List.length d)) true false) true false) false) false) false) false) false) false) false) true false) (bc (!List.getD d (Int.toNat a) false) (.done (EV.v (Value.bool false)) [] 0) (.at (sI (n) (l) (o) (z) (d) (i) (b) (IntKind.wrap IntKind.i64 (a + (1 : Int)))))) .bad) (bc (bc (bc (bc (bc (decide ((0 : Int) ≤ a)) (Nat.blt (Int.toNat a) (List.length l)) false) true false) (bc (bc (Nat.blt (Int.toNat a) (List.length l)) true false) (bc (bc (bc (decide ((0 : Int) ≤ b)) (Nat.blt (Int.toNat b) (List.length l)) false) true false) (bc (bc (Nat.blt (Int.toNat b) (List.length l)) true false) (bc (bc (decide ((-1000 : Int) ≤ U.int (List.getD (List.getD l (Int.toNat a) []) (Nat.succ (0 : Nat)) (U.i (0 : Int))) ∧ U.int (List.getD (List.getD l (Int.toNat a) []) (Nat.succ (0 : Nat)) (U.i (0 : Int))) ≤ (1000 : Int) ∧ (-1000 : Int) ≤ U.int (List.getD (List.getD l (Int.toNat b) []) (Nat.succ (0 : Nat)) (U.i (0 : Int))) ∧ U.int (List.getD (List.getD l (Int.toNat b) []) (Nat.succ (0 : Nat)) (U.i (0 : Int))) ≤ (1000 : Int))) true false) (bc (eqB (bc (decide (U.int (List.getD (List.getD l (Int.toNat a) []) (Nat.succ (0 : Nat)) (U.i (0 : Int))) - U.int (List.getD (List.getD l (Int.toNat b) []) (Nat.succ (0 : Nat)) (U.i (0 : Int))) ≤ (1 : Int))) (decide (U.int (List.getD (List.getD l (Int.toNat b) []) (Nat.succ (0 : Nat)) (U.i (0 : Int))) - U.int (List.getD (List.getD l (Int.toNat a) []) (Nat.succ (0 : Nat)) (U.i (0 : Int))) ≤ (1 : Int))) false) false) true false) false) false) false) false) false) true false) (.at (sI (n) (l) (o) (z) (d) (i) (b) (IntKind.wrap IntKind.i64 (a + (1 : Int))))) .bad)) (bc (bc (bc (decide ((0 : Int) ≤ b)) (Nat.blt (Int.toNat b) z) false) true false) (bc (Nat.blt (Int.toNat b) (List.length d)) (.at (sO (n) (l) (o) (z) (List.set d (Int.toNat b) true) (IntKind.wrap IntKind.i64 (i + (1 : Int))))) .bad) .bad)) := by kernel_rfl
theorem istep {n : Int} {l : List (List U)} {o : List Int} {d : List Bool} {i a b : Nat} (hl : l.length ≤ 1000) (hd : d.length = l.length) (hb : b < l.length) (hab : a < b) (ha : AtG l) : RUN (stOf (sI n l o l.length d i b a)) = bc (bc (tch (l.getD a []) (l.getD b [])) (!d.getD a false) false) (.done (bv false) [] 0) (.at (sI n l o l.length d i b (a + 1 : Nat))) := by
  rw [i_t]
  have k1 := ha a (by omega)
  have k2 := ha b hb
  have h3 : -1000 ≤ rA (l.getD a []) ∧ rA (l.getD a []) ≤ 1000 ∧ -1000 ≤ rA (l.getD b []) ∧ rA (l.getD b []) ≤ 1000 := ⟨k1.1, k1.2, k2.1, k2.2⟩
  have e : tch (l.getD a []) (l.getD b []) = bc (decide (rA (l.getD a []) - rA (l.getD b []) ≤ 1)) (decide (rA (l.getD b []) - rA (l.getD a []) ≤ 1)) false := rfl
  rw [e]
  cases h1 : decide (rA (l.getD a []) - rA (l.getD b []) ≤ 1) <;> cases h2 : decide (rA (l.getD b []) - rA (l.getD a []) ≤ 1) <;> cases h4 : d.getD a false <;> simp (disch := omega) only [Nat.add_eq, eqSy_self, eqN_self, bc_same, List.length_cons, ofn, wrap_in, dt, df, bltD, bltN, ble_of, bleN, beqD, bc_t, bc_f, nn_ok, Nat.zero_add, to_nat, Int.zero_add, Int.sub_zero, Int.sub_self, Int.cast_ofNat_Int, Int.natCast_zero, Int.toNat_zero, List.take_zero, List.nil_append, List.length_append, List.length_nil, fK0, fK1, fA0, fA1, fA2, fW0, fW1, fW2, h1, h2, h4, hd, dt h3, Bool.not_true, Bool.not_false, eqBt, eqBf] <;> rfl
theorem iend {n : Int} {l : List (List U)} {o : List Int} {d : List Bool} {i a b : Nat} (ho : o.length ≤ 1000) (hi : i < o.length) (hd : d.length = l.length) (hb : b < l.length) (hab : b ≤ a) : RUN (stOf (sI n l o l.length d i b a)) = .at (sO n l o l.length (d.set b true) (i + 1 : Nat)) := by
  rw [i_t]
  simp (disch := omega) only [Nat.add_eq, eqSy_self, eqN_self, bc_same, List.length_cons, ofn, wrap_in, dt, df, bltD, bltN, ble_of, bleN, beqD, bc_t, bc_f, nn_ok, Nat.zero_add, to_nat, Int.zero_add, Int.sub_zero, Int.sub_self, Int.cast_ofNat_Int, Int.natCast_zero, Int.toNat_zero, List.take_zero, List.nil_append, List.length_append, List.length_nil, hd]
  rfl
theorem inner {n : Int} {l : List (List U)} {o : List Int} {d : List Bool} {i b : Nat} {V : Bool} (hl : l.length ≤ 1000) (ho : o.length ≤ 1000) (hi : i < o.length) (hd : d.length = l.length) (hb : b < l.length) (ha : AtG l) (H : EndZ 45 ctK false (stOf (sO n l o l.length (d.set b true) (i + 1 : Nat))) (bv V) [] 0) :
    ∀ (k a : Nat), a + k = b → EndZ 45 ctK false (stOf (sI n l o l.length d i b a)) (bv (bc (prv l d b a k) V false)) [] 0
  | 0, a, h => .at ctK_ok (iend ho hi hd hb (by omega)) H
  | k + 1, a, h => by
    have hs := istep (n := n) (o := o) (i := i) hl hd hb (show a < b by omega) ha
    unfold prv
    cases hc : bc (tch (l.getD a []) (l.getD b [])) (!d.getD a false) false <;> rw [hc] at hs
    · exact .at ctK_ok hs (inner hl ho hi hd hb ha H k (a + 1) (by omega))
    · exact .done hs
theorem olast {n : Int} {l : List (List U)} {o : List Int} {z : Nat} {d : List Bool} {i : Nat} (hi : o.length ≤ i) : RUN (stOf (sO n l o z d i)) = .done (bv true) [] 0 := by
  rw [o_t]
  simp (disch := omega) only [Nat.add_eq, eqSy_self, eqN_self, bc_same, List.length_cons, ofn, wrap_in, dt, df, bltD, bltN, ble_of, bleN, beqD, bc_t, bc_f, nn_ok, Nat.zero_add, to_nat, Int.zero_add, Int.sub_zero, Int.sub_self, Int.cast_ofNat_Int, Int.natCast_zero, Int.toNat_zero, List.take_zero, List.nil_append, List.length_append, List.length_nil]
theorem loop {n : Int} {l : List (List U)} {o : List Int} (hl : l.length ≤ 1000) (ho : o.length ≤ 1000) (ha : AtG l) : ∀ (m i : Nat) (d : List Bool), i + m = o.length → d.length = l.length → EndZ 45 ctK false (stOf (sO n l o l.length d i)) (bv (ordB l d (o.drop i))) [] 0
  | 0, i, d, h, hd => by
    rw [List.drop_eq_nil_of_le (by omega)]
    exact .done (olast (by omega))
  | m + 1, i, d, h, hd => by
    have hi : i < o.length := by omega
    have hs := o_t n l o l.length d i
    rw [List.drop_eq_getElem_cons hi, ← getD_at (d := 0) hi]
    unfold ordB
    simp (disch := omega) only [Nat.add_eq, eqSy_self, eqN_self, bc_same, List.length_cons, ofn, wrap_in, dt, df, bltD, bltN, ble_of, bleN, beqD, bc_t, bc_f, nn_ok, Nat.zero_add, to_nat, Int.zero_add, Int.sub_zero, Int.sub_self, Int.cast_ofNat_Int, Int.natCast_zero, Int.toNat_zero, List.take_zero, List.nil_append, List.length_append, List.length_nil] at hs
    by_cases h0 : o.getD i 0 < 0
    · rw [dt h0, bc_t, bc_t]
      simp only [dt h0, bc_t] at hs
      exact .done hs
    simp only [df h0, bc_f] at hs
    rw [df h0, bc_f]
    by_cases h1 : (l.length : Int) ≤ o.getD i 0
    · rw [hd, dt h1, bc_t, bc_t]
      simp only [dt h1, bc_t] at hs
      exact .done hs
    simp only [df h1, bc_f] at hs
    rw [hd, df h1, bc_f]
    obtain ⟨b, hb⟩ := Int.eq_ofNat_of_zero_le (show 0 ≤ o.getD i 0 by omega)
    have hbl : b < l.length := by omega
    rw [hb] at hs ⊢
    simp (disch := omega) only [Nat.add_eq, eqSy_self, eqN_self, bc_same, List.length_cons, ofn, wrap_in, dt, df, bltD, bltN, ble_of, bleN, beqD, bc_t, bc_f, nn_ok, Nat.zero_add, to_nat, Int.zero_add, Int.sub_zero, Int.sub_self, Int.cast_ofNat_Int, Int.natCast_zero, Int.toNat_zero, List.take_zero, List.nil_append, List.length_append, List.length_nil, hd] at hs
    rw [Int.toNat_natCast]
    cases h2 : d.getD b false <;> rw [h2] at hs
    · exact .at ctK_ok hs (inner hl ho hi hd hbl ha (loop hl ho ha m (i + 1) _ (by omega) (by rw [List.length_set]; exact hd)) b 0 (by omega))
    · exact .done hs
theorem ends (n : Int) (l : List (List U)) (o : List Int) (hl : l.length ≤ 1000) (ha : AtG l) : EndZ 45 ctK false (st0 45 [.agg [iv n, wl l], il o]) (bv (bc (Int.ofNat o.length != Int.ofNat l.length) false (ordB l (List.replicate l.length false) o))) [] 0 := by
  have h := in_t n l o
  cases h1 : (Int.ofNat o.length != Int.ofNat l.length) <;> rw [h1] at h
  · have hb : o.length = l.length := by have : (o.length : Int) = l.length := by simpa using h1
                                        omega
    have e : Int.toNat (Int.ofNat l.length) = l.length := rfl
    rw [hb] at h
    simp (disch := omega) only [e, List.length_replicate, Nat.add_eq, eqSy_self, eqN_self, bc_same, List.length_cons, ofn, wrap_in, dt, df, bltD, bltN, ble_of, bleN, beqD, bc_t, bc_f, nn_ok, Nat.zero_add, to_nat, Int.zero_add, Int.sub_zero, Int.sub_self, Int.cast_ofNat_Int, Int.natCast_zero, Int.toNat_zero, List.take_zero, List.nil_append, List.length_append, List.length_nil] at h
    exact .at ctK_ok h (loop hl (by omega) ha o.length 0 _ (by omega) List.length_replicate)
  · exact .done h
end ROrd
noncomputable def spOrd : ZCT := fun ax => match ax with
  | [.agg [.v (.int .i64 n), .lst (.recs [.int .i64, .int .i64, .str] l)], .lst (.ints .i64 o)] => some ⟨decide (l.length ≤ 1000 ∧ AtG l), bv (bc (Int.ofNat o.length != Int.ofNat l.length) false (ordB l (List.replicate l.length false) o)), [], 0⟩
  | _ => none
theorem spOrd_ok : ZCtOk Try.prog 45 spOrd := fun γ w us ax r hs hc hax hN hfz => by
  unfold spOrd at hs
  split at hs
  case h_2 => cases hs
  rename_i n l o
  obtain ⟨rfl⟩ := Option.some.inj hs
  have hc_0 : decide (l.length ≤ 1000 ∧ AtG l) = true := hc
  have hc := of_decide_eq_true hc_0
  exact EndZ.calls (ROrd.ends n l o hc.1 hc.2) ctK_ok (by kernel_rfl) hax hN hfz
noncomputable def ctGp : Tr ZCC := ctEx.put 25 (some (dC spSame))
theorem ctGp_ok : ZCtsOk Try.prog ctGp := ctEx_ok.add rfl spSame_ok
theorem besL_len (n m : Int) (l k : List (List U)) : (besL n m l k).length ≤ 100000 := by
  by_cases h : besE n m l k = 0
  · have := (besE_0 h).2.2.2
    rw [(besV0 h).2, List.length_append, shL_len]; omega
  · rw [(besV rfl (by simp [h])).2]; exact Nat.zero_le _
theorem belL_len (n m : Int) (l k : List (List U)) : (belL n m l k).length ≤ 100000 := by
  by_cases h : belE n m l k = 0
  · have := (belE_0 h).2.2.2
    rw [(belV0 h).2, List.length_append]; omega
  · rw [(belV rfl (by simp [h])).2]; exact Nat.zero_le _
theorem ieq (x : Int) : (x == x) = true := by simp
theorem ine (x : Int) : (x != x) = false := by simp
namespace LGrp
noncomputable def RUN (s : ES) : ZF := RZ 43 ctGp (fun _ => false) [] [] false s
theorem in_t (a b c d : Int) (A B C D : List (List U)) : RUN (st0 43 [.agg [iv a, wl A, iv b, wl B, iv c, wl C, iv d, wl D]]) = (bc (besE a b A B == (0 : Int)) (bc (besE b c B C == (0 : Int)) (bc (besE (besP a b A B) c (besL a b A B) C != besE a (besP b c B C) A (besL b c B C)) (.done (EV.v (Value.bool false)) [] 0) (bc (bc (decide (List.length (besL (besP a b A B) c (besL a b A B) C) ≤ (100000 : Nat))) true false) (bc (!sameW (besP (besP a b A B) c (besL a b A B) C) (besP a (besP b c B C) A (besL b c B C)) (besL (besP a b A B) c (besL a b A B) C) (besL a (besP b c B C) A (besL b c B C))) (.done (EV.v (Value.bool false)) [] 0) (bc (belE a b A B != (0 : Int)) (.done (EV.v (Value.bool true)) [] 0) (bc (belE b c B C != (0 : Int)) (.done (EV.v (Value.bool true)) [] 0) (bc (belE (belP a b A B) c (belL a b A B) C == belE a (belP b c B C) A (belL b c B C)) (bc (bc (decide (List.length (belL (belP a b A B) c (belL a b A B) C) ≤ (100000 : Nat))) true false) (.done (EV.v (Value.bool (sameW (belP (belP a b A B) c (belL a b A B) C) (belP a (belP b c B C) A (belL b c B C)) (belL (belP a b A B) c (belL a b A B) C) (belL a (belP b c B C) A (belL b c B C))))) [] 0) .bad) (.done (EV.v (Value.bool false)) [] 0))))) .bad)) (bc (belE a b A B != (0 : Int)) (.done (EV.v (Value.bool true)) [] 0) (bc (belE b c B C != (0 : Int)) (.done (EV.v (Value.bool true)) [] 0) (bc (belE (belP a b A B) c (belL a b A B) C == belE a (belP b c B C) A (belL b c B C)) (bc (bc (decide (List.length (belL (belP a b A B) c (belL a b A B) C) ≤ (100000 : Nat))) true false) (.done (EV.v (Value.bool (sameW (belP (belP a b A B) c (belL a b A B) C) (belP a (belP b c B C) A (belL b c B C)) (belL (belP a b A B) c (belL a b A B) C) (belL a (belP b c B C) A (belL b c B C))))) [] 0) .bad) (.done (EV.v (Value.bool false)) [] 0))))) (bc (belE a b A B != (0 : Int)) (.done (EV.v (Value.bool true)) [] 0) (bc (belE b c B C != (0 : Int)) (.done (EV.v (Value.bool true)) [] 0) (bc (belE (belP a b A B) c (belL a b A B) C == belE a (belP b c B C) A (belL b c B C)) (bc (bc (decide (List.length (belL (belP a b A B) c (belL a b A B) C) ≤ (100000 : Nat))) true false) (.done (EV.v (Value.bool (sameW (belP (belP a b A B) c (belL a b A B) C) (belP a (belP b c B C) A (belL b c B C)) (belL (belP a b A B) c (belL a b A B) C) (belL a (belP b c B C) A (belL b c B C))))) [] 0) .bad) (.done (EV.v (Value.bool false)) [] 0))))) := by kernel_rfl
theorem ends (a b c d : Int) (A B C D : List (List U)) : EndZ 43 ctGp false (st0 43 [.agg [iv a, wl A, iv b, wl B, iv c, wl C, iv d, wl D]]) (bv true) [] 0 := by
  have h := in_t a b c d A B C D
  have tl : ∀ z : ZF, (∀ (_ : (belE a b A B != 0) = false) (_ : (belE b c B C != 0) = false), z = .done (bv true) [] 0) → bc (belE a b A B != 0) (.done (bv true) [] 0) (bc (belE b c B C != 0) (.done (bv true) [] 0) z) = .done (bv true) [] 0 := fun z hz => by
    cases h1 : (belE a b A B != 0)
    · cases h2 : (belE b c B C != 0)
      · exact hz h1 h2
      · rfl
    · rfl
  have tz := tl (bc (belE (belP a b A B) c (belL a b A B) C == belE a (belP b c B C) A (belL b c B C))
                (bc (bc (decide (List.length (belL (belP a b A B) c (belL a b A B) C) ≤ (100000 : Nat))) true false)
                  (.done (EV.v (Value.bool (sameW (belP (belP a b A B) c (belL a b A B) C) (belP a (belP b c B C) A (belL b c B C)) (belL (belP a b A B) c (belL a b A B) C) (belL a (belP b c B C) A (belL b c B C))))) [] 0)
                  .bad)
                (.done (EV.v (Value.bool false)) [] 0)) (fun h1 h2 => by
    obtain ⟨g1, g2, g3⟩ := grB (ne0 h1) (ne0 h2)
    rw [← g1, ← g2, ← g3, ieq, bc_t, dt (belL_len _ _ _ _), bc_t, bc_t, sameW_self])
  rw [tz] at h
  cases h1 : (besE a b A B == 0) <;> rw [h1] at h
  · exact .done h
  cases h2 : (besE b c B C == 0) <;> rw [h2] at h
  · exact .done h
  obtain ⟨g1, g2, g3⟩ := grA (a := a) (b := b) (c := c) (A := A) (B := B) (C := C) (by simpa using h1) (by simpa using h2)
  rw [← g1, ← g2, ← g3, ine] at h
  simp only [bc_t, bc_f, dt (besL_len _ _ _ _), sameW_self, Bool.not_true] at h
  exact .done h
end LGrp
noncomputable def spGrp : ZCT := fun ax => match ax with
  | [.agg [.v (.int .i64 a), .lst (.recs [.int .i64, .int .i64, .str] A), .v (.int .i64 b), .lst (.recs [.int .i64, .int .i64, .str] B), .v (.int .i64 c), .lst (.recs [.int .i64, .int .i64, .str] C), .v (.int .i64 d), .lst (.recs [.int .i64, .int .i64, .str] D)]] => some ⟨decide (True), bv true, [], 0⟩
  | _ => none
theorem spGrp_ok : ZCtOk Try.prog 43 spGrp := fun γ w us ax r hs hc hax hN hfz => by
  unfold spGrp at hs
  split at hs
  case h_2 => cases hs
  rename_i a A b B c C d D
  obtain ⟨rfl⟩ := Option.some.inj hs
  have hc_0 : decide (True) = true := hc
  have hc := of_decide_eq_true hc_0
  exact EndZ.calls (LGrp.ends a b c d A B C D) ctGp_ok (by kernel_rfl) hax hN hfz
noncomputable def ctGr : Tr ZCC := (((((((ctGp.put 42 (some (dC spChk4))).put 43 (some (dC spGrp))).put 40 (some (dC spPTim))).put 31 (some (dC spPPla))).put 33 (some (dC spPCut))).put 44 (some (dC spKep))).put 45 (some (dC spOrd)))
theorem ctGr_ok : ZCtsOk Try.prog ctGr := (((((((ctGp_ok.add rfl spChk4_ok).add rfl spGrp_ok).add rfl spPTim_ok).add rfl spPPla_ok).add rfl spPCut_ok).add rfl spKep_ok).add rfl spOrd_ok)
namespace AGrp
noncomputable def RUN (s : ES) : ZF := RZ 9 ctGr (atS 0 9 26) [] [[(3,none),(13,none),(22,none),(23,some (1, 3, .ints .i64 [])),(24,some (1, 3, .ints .i64 [])),(25,none)]] false s

noncomputable def sG (a b c d p : Int) (A B C D L : List (List U)) (ks : List Bool) (q1 q2 : List Int) (n1 n2 : Bool) (i : Int) : NS := ⟨[⟨9, 230, [(3, (EV.ptr 0 0)), (13, (EV.ptr 1 0)), (22, bl ks), (23, EV.slO 2 1 q1.length n1), (24, EV.slO 3 1 q2.length n2), (25, iv i)], [.it (.code (nav [1, 1, 1, 1, 1, 1, 1, 1, 1, 1, 1, 1, 1, 1, 1, 1, 1, 1, 1, 1, 0, 1, 0, 0, 0] (bodyOf Try.f9))), .it (.code (nav [1, 1, 1, 1, 1, 1, 1, 1, 1, 1, 1, 1, 1, 1, 1, 1, 1, 1, 1, 1, 0, 1, 0, 0, 1] (bodyOf Try.f9))), .it (.inLoop (nav [1, 1, 1, 1, 1, 1, 1, 1, 1, 1, 1, 1, 1, 1, 1, 1, 1, 1, 1, 1, 0, 1, 0, 0] (bodyOf Try.f9))), .it (.inBlock 0), .it (.code (nav [1, 1, 1, 1, 1, 1, 1, 1, 1, 1, 1, 1, 1, 1, 1, 1, 1, 1, 1, 1, 1] (bodyOf Try.f9)))], [], Option.none⟩], [(0, (EK.cells 61 [(EV.v (Value.int IntKind.i64 (a))), (EV.lst (SyC.recs [(Sh.int IntKind.i64), (Sh.int IntKind.i64), Sh.str] (A))), (EV.v (Value.int IntKind.i64 (b))), (EV.lst (SyC.recs [(Sh.int IntKind.i64), (Sh.int IntKind.i64), Sh.str] (B))), (EV.v (Value.int IntKind.i64 (c))), (EV.lst (SyC.recs [(Sh.int IntKind.i64), (Sh.int IntKind.i64), Sh.str] (C))), (EV.v (Value.int IntKind.i64 (d))), (EV.lst (SyC.recs [(Sh.int IntKind.i64), (Sh.int IntKind.i64), Sh.str] (D)))] true)), (1, EK.cells 24 [iv p, wl L] true), (2, EK.seq 3 (.ints .i64 q1) n1), (3, EK.seq 3 (.ints .i64 q2) n2)], 4⟩
theorem in_t (a b c d f g t : Int) (A B C D : List (List U)) : RUN (st0 9 [.agg [iv a, wl A, iv b, wl B, iv c, wl C, iv d, wl D], .agg [.v (.int .u8 f), .v (.int .u8 g)], .v (.int .u8 t)]) = (bc (farB A (60 : Int)) (.done (EV.v (Value.bool true)) [] 0) (bc (farB B (60 : Int)) (.done (EV.v (Value.bool true)) [] 0) (bc (farB C (60 : Int)) (.done (EV.v (Value.bool true)) [] 0) (bc (chk4 a A != (0 : Int)) (.done (EV.v (Value.bool true)) [] 0) (bc (chk4 b B != (0 : Int)) (.done (EV.v (Value.bool true)) [] 0) (bc (chk4 c C != (0 : Int)) (.done (EV.v (Value.bool true)) [] 0) (bc (timE a (IntKind.wrap IntKind.i64 (Int.tmod (IntKind.wrap IntKind.i64 (List.getD (List.map (fun r => U.int (List.headD r (U.i (0 : Int)))) [[U.i f], [U.i g]]) (Int.toNat (0 : Int)) (0 : Int))) (4 : Int) + Int.tmod (IntKind.wrap IntKind.i64 (List.getD (List.map (fun r => U.int (List.headD r (U.i (0 : Int)))) [[U.i f], [U.i g]]) (Int.toNat (1 : Int)) (0 : Int))) (4 : Int))) A != (0 : Int)) (.done (EV.v (Value.bool false)) [] 0) (bc (timE a (Int.tmod (IntKind.wrap IntKind.i64 (List.getD (List.map (fun r => U.int (List.headD r (U.i (0 : Int)))) [[U.i f], [U.i g]]) (Int.toNat (0 : Int)) (0 : Int))) (4 : Int)) A != (0 : Int)) (.done (EV.v (Value.bool false)) [] 0) (bc (timE a (Int.tmod (IntKind.wrap IntKind.i64 (List.getD (List.map (fun r => U.int (List.headD r (U.i (0 : Int)))) [[U.i f], [U.i g]]) (Int.toNat (1 : Int)) (0 : Int))) (4 : Int)) A != (0 : Int)) (.done (EV.v (Value.bool false)) [] 0) (bc (belE (timP a (Int.tmod (IntKind.wrap IntKind.i64 (List.getD (List.map (fun r => U.int (List.headD r (U.i (0 : Int)))) [[U.i f], [U.i g]]) (Int.toNat (0 : Int)) (0 : Int))) (4 : Int)) A) (timP a (Int.tmod (IntKind.wrap IntKind.i64 (List.getD (List.map (fun r => U.int (List.headD r (U.i (0 : Int)))) [[U.i f], [U.i g]]) (Int.toNat (1 : Int)) (0 : Int))) (4 : Int)) A) (timL a (Int.tmod (IntKind.wrap IntKind.i64 (List.getD (List.map (fun r => U.int (List.headD r (U.i (0 : Int)))) [[U.i f], [U.i g]]) (Int.toNat (0 : Int)) (0 : Int))) (4 : Int)) A) (timL a (Int.tmod (IntKind.wrap IntKind.i64 (List.getD (List.map (fun r => U.int (List.headD r (U.i (0 : Int)))) [[U.i f], [U.i g]]) (Int.toNat (1 : Int)) (0 : Int))) (4 : Int)) A) != (0 : Int)) (.done (EV.v (Value.bool false)) [] 0) (bc (bc (decide (List.length (timL a (IntKind.wrap IntKind.i64 (Int.tmod (IntKind.wrap IntKind.i64 (List.getD (List.map (fun r => U.int (List.headD r (U.i (0 : Int)))) [[U.i f], [U.i g]]) (Int.toNat (0 : Int)) (0 : Int))) (4 : Int) + Int.tmod (IntKind.wrap IntKind.i64 (List.getD (List.map (fun r => U.int (List.headD r (U.i (0 : Int)))) [[U.i f], [U.i g]]) (Int.toNat (1 : Int)) (0 : Int))) (4 : Int))) A) ≤ (100000 : Nat))) true false) (bc (!sameW (timP a (IntKind.wrap IntKind.i64 (Int.tmod (IntKind.wrap IntKind.i64 (List.getD (List.map (fun r => U.int (List.headD r (U.i (0 : Int)))) [[U.i f], [U.i g]]) (Int.toNat (0 : Int)) (0 : Int))) (4 : Int) + Int.tmod (IntKind.wrap IntKind.i64 (List.getD (List.map (fun r => U.int (List.headD r (U.i (0 : Int)))) [[U.i f], [U.i g]]) (Int.toNat (1 : Int)) (0 : Int))) (4 : Int))) A) (belP (timP a (Int.tmod (IntKind.wrap IntKind.i64 (List.getD (List.map (fun r => U.int (List.headD r (U.i (0 : Int)))) [[U.i f], [U.i g]]) (Int.toNat (0 : Int)) (0 : Int))) (4 : Int)) A) (timP a (Int.tmod (IntKind.wrap IntKind.i64 (List.getD (List.map (fun r => U.int (List.headD r (U.i (0 : Int)))) [[U.i f], [U.i g]]) (Int.toNat (1 : Int)) (0 : Int))) (4 : Int)) A) (timL a (Int.tmod (IntKind.wrap IntKind.i64 (List.getD (List.map (fun r => U.int (List.headD r (U.i (0 : Int)))) [[U.i f], [U.i g]]) (Int.toNat (0 : Int)) (0 : Int))) (4 : Int)) A) (timL a (Int.tmod (IntKind.wrap IntKind.i64 (List.getD (List.map (fun r => U.int (List.headD r (U.i (0 : Int)))) [[U.i f], [U.i g]]) (Int.toNat (1 : Int)) (0 : Int))) (4 : Int)) A)) (timL a (IntKind.wrap IntKind.i64 (Int.tmod (IntKind.wrap IntKind.i64 (List.getD (List.map (fun r => U.int (List.headD r (U.i (0 : Int)))) [[U.i f], [U.i g]]) (Int.toNat (0 : Int)) (0 : Int))) (4 : Int) + Int.tmod (IntKind.wrap IntKind.i64 (List.getD (List.map (fun r => U.int (List.headD r (U.i (0 : Int)))) [[U.i f], [U.i g]]) (Int.toNat (1 : Int)) (0 : Int))) (4 : Int))) A) (belL (timP a (Int.tmod (IntKind.wrap IntKind.i64 (List.getD (List.map (fun r => U.int (List.headD r (U.i (0 : Int)))) [[U.i f], [U.i g]]) (Int.toNat (0 : Int)) (0 : Int))) (4 : Int)) A) (timP a (Int.tmod (IntKind.wrap IntKind.i64 (List.getD (List.map (fun r => U.int (List.headD r (U.i (0 : Int)))) [[U.i f], [U.i g]]) (Int.toNat (1 : Int)) (0 : Int))) (4 : Int)) A) (timL a (Int.tmod (IntKind.wrap IntKind.i64 (List.getD (List.map (fun r => U.int (List.headD r (U.i (0 : Int)))) [[U.i f], [U.i g]]) (Int.toNat (0 : Int)) (0 : Int))) (4 : Int)) A) (timL a (Int.tmod (IntKind.wrap IntKind.i64 (List.getD (List.map (fun r => U.int (List.headD r (U.i (0 : Int)))) [[U.i f], [U.i g]]) (Int.toNat (1 : Int)) (0 : Int))) (4 : Int)) A))) (.done (EV.v (Value.bool false)) [] 0) (bc (bc (bnot (IntKind.wrap IntKind.i64 (IntKind.wrap IntKind.i64 ((24 : Int) - a) + (1 : Int)) == (0 : Int))) true false) (bc (plaE a (Int.tmod (IntKind.wrap IntKind.i64 (List.getD (List.map (fun r => U.int (List.headD r (U.i (0 : Int)))) [[U.i f], [U.i g]]) (Int.toNat (1 : Int)) (0 : Int))) (IntKind.wrap IntKind.i64 (IntKind.wrap IntKind.i64 ((24 : Int) - a) + (1 : Int)))) (24 : Int) A != (0 : Int)) (.done (EV.v (Value.bool false)) [] 0) (bc (cutE (plaP a (Int.tmod (IntKind.wrap IntKind.i64 (List.getD (List.map (fun r => U.int (List.headD r (U.i (0 : Int)))) [[U.i f], [U.i g]]) (Int.toNat (1 : Int)) (0 : Int))) (IntKind.wrap IntKind.i64 (IntKind.wrap IntKind.i64 ((24 : Int) - a) + (1 : Int)))) (24 : Int) A) (Int.tmod (IntKind.wrap IntKind.i64 (List.getD (List.map (fun r => U.int (List.headD r (U.i (0 : Int)))) [[U.i f], [U.i g]]) (Int.toNat (1 : Int)) (0 : Int))) (IntKind.wrap IntKind.i64 (IntKind.wrap IntKind.i64 ((24 : Int) - a) + (1 : Int)))) (IntKind.wrap IntKind.i64 (IntKind.wrap IntKind.i64 (Int.tmod (IntKind.wrap IntKind.i64 (List.getD (List.map (fun r => U.int (List.headD r (U.i (0 : Int)))) [[U.i f], [U.i g]]) (Int.toNat (1 : Int)) (0 : Int))) (IntKind.wrap IntKind.i64 (IntKind.wrap IntKind.i64 ((24 : Int) - a) + (1 : Int))) + a) - (1 : Int))) (plaL a (Int.tmod (IntKind.wrap IntKind.i64 (List.getD (List.map (fun r => U.int (List.headD r (U.i (0 : Int)))) [[U.i f], [U.i g]]) (Int.toNat (1 : Int)) (0 : Int))) (IntKind.wrap IntKind.i64 (IntKind.wrap IntKind.i64 ((24 : Int) - a) + (1 : Int)))) (24 : Int) A) != (0 : Int)) (.done (EV.v (Value.bool false)) [] 0) (bc (bc (decide (List.length (cutL (plaP a (Int.tmod (IntKind.wrap IntKind.i64 (List.getD (List.map (fun r => U.int (List.headD r (U.i (0 : Int)))) [[U.i f], [U.i g]]) (Int.toNat (1 : Int)) (0 : Int))) (IntKind.wrap IntKind.i64 (IntKind.wrap IntKind.i64 ((24 : Int) - a) + (1 : Int)))) (24 : Int) A) (Int.tmod (IntKind.wrap IntKind.i64 (List.getD (List.map (fun r => U.int (List.headD r (U.i (0 : Int)))) [[U.i f], [U.i g]]) (Int.toNat (1 : Int)) (0 : Int))) (IntKind.wrap IntKind.i64 (IntKind.wrap IntKind.i64 ((24 : Int) - a) + (1 : Int)))) (IntKind.wrap IntKind.i64 (IntKind.wrap IntKind.i64 (Int.tmod (IntKind.wrap IntKind.i64 (List.getD (List.map (fun r => U.int (List.headD r (U.i (0 : Int)))) [[U.i f], [U.i g]]) (Int.toNat (1 : Int)) (0 : Int))) (IntKind.wrap IntKind.i64 (IntKind.wrap IntKind.i64 ((24 : Int) - a) + (1 : Int))) + a) - (1 : Int))) (plaL a (Int.tmod (IntKind.wrap IntKind.i64 (List.getD (List.map (fun r => U.int (List.headD r (U.i (0 : Int)))) [[U.i f], [U.i g]]) (Int.toNat (1 : Int)) (0 : Int))) (IntKind.wrap IntKind.i64 (IntKind.wrap IntKind.i64 ((24 : Int) - a) + (1 : Int)))) (24 : Int) A)) ≤ (100000 : Nat))) true false) (bc (!sameW (cutP (plaP a (Int.tmod (IntKind.wrap IntKind.i64 (List.getD (List.map (fun r => U.int (List.headD r (U.i (0 : Int)))) [[U.i f], [U.i g]]) (Int.toNat (1 : Int)) (0 : Int))) (IntKind.wrap IntKind.i64 (IntKind.wrap IntKind.i64 ((24 : Int) - a) + (1 : Int)))) (24 : Int) A) (Int.tmod (IntKind.wrap IntKind.i64 (List.getD (List.map (fun r => U.int (List.headD r (U.i (0 : Int)))) [[U.i f], [U.i g]]) (Int.toNat (1 : Int)) (0 : Int))) (IntKind.wrap IntKind.i64 (IntKind.wrap IntKind.i64 ((24 : Int) - a) + (1 : Int)))) (IntKind.wrap IntKind.i64 (IntKind.wrap IntKind.i64 (Int.tmod (IntKind.wrap IntKind.i64 (List.getD (List.map (fun r => U.int (List.headD r (U.i (0 : Int)))) [[U.i f], [U.i g]]) (Int.toNat (1 : Int)) (0 : Int))) (IntKind.wrap IntKind.i64 (IntKind.wrap IntKind.i64 ((24 : Int) - a) + (1 : Int))) + a) - (1 : Int))) (plaL a (Int.tmod (IntKind.wrap IntKind.i64 (List.getD (List.map (fun r => U.int (List.headD r (U.i (0 : Int)))) [[U.i f], [U.i g]]) (Int.toNat (1 : Int)) (0 : Int))) (IntKind.wrap IntKind.i64 (IntKind.wrap IntKind.i64 ((24 : Int) - a) + (1 : Int)))) (24 : Int) A)) a (cutL (plaP a (Int.tmod (IntKind.wrap IntKind.i64 (List.getD (List.map (fun r => U.int (List.headD r (U.i (0 : Int)))) [[U.i f], [U.i g]]) (Int.toNat (1 : Int)) (0 : Int))) (IntKind.wrap IntKind.i64 (IntKind.wrap IntKind.i64 ((24 : Int) - a) + (1 : Int)))) (24 : Int) A) (Int.tmod (IntKind.wrap IntKind.i64 (List.getD (List.map (fun r => U.int (List.headD r (U.i (0 : Int)))) [[U.i f], [U.i g]]) (Int.toNat (1 : Int)) (0 : Int))) (IntKind.wrap IntKind.i64 (IntKind.wrap IntKind.i64 ((24 : Int) - a) + (1 : Int)))) (IntKind.wrap IntKind.i64 (IntKind.wrap IntKind.i64 (Int.tmod (IntKind.wrap IntKind.i64 (List.getD (List.map (fun r => U.int (List.headD r (U.i (0 : Int)))) [[U.i f], [U.i g]]) (Int.toNat (1 : Int)) (0 : Int))) (IntKind.wrap IntKind.i64 (IntKind.wrap IntKind.i64 ((24 : Int) - a) + (1 : Int))) + a) - (1 : Int))) (plaL a (Int.tmod (IntKind.wrap IntKind.i64 (List.getD (List.map (fun r => U.int (List.headD r (U.i (0 : Int)))) [[U.i f], [U.i g]]) (Int.toNat (1 : Int)) (0 : Int))) (IntKind.wrap IntKind.i64 (IntKind.wrap IntKind.i64 ((24 : Int) - a) + (1 : Int)))) (24 : Int) A)) A) (.done (EV.v (Value.bool false)) [] 0) (bc (bc (bc (bc (bnot (IntKind.wrap IntKind.i64 (a - (1 : Int)) == (0 : Int))) true false) true false) true false) (bc (bc (bnot (IntKind.wrap IntKind.i64 (IntKind.wrap IntKind.i64 (a - (1 : Int)) - Int.tmod (IntKind.wrap IntKind.i64 (List.getD (List.map (fun r => U.int (List.headD r (U.i (0 : Int)))) [[U.i f], [U.i g]]) (Int.toNat (1 : Int)) (0 : Int))) (IntKind.wrap IntKind.i64 (a - (1 : Int)))) == (0 : Int))) true false) (bc (cutE a (Int.tmod (IntKind.wrap IntKind.i64 (List.getD (List.map (fun r => U.int (List.headD r (U.i (0 : Int)))) [[U.i f], [U.i g]]) (Int.toNat (1 : Int)) (0 : Int))) (IntKind.wrap IntKind.i64 (a - (1 : Int)))) (IntKind.wrap IntKind.i64 (IntKind.wrap IntKind.i64 (Int.tmod (IntKind.wrap IntKind.i64 (List.getD (List.map (fun r => U.int (List.headD r (U.i (0 : Int)))) [[U.i f], [U.i g]]) (Int.toNat (1 : Int)) (0 : Int))) (IntKind.wrap IntKind.i64 (a - (1 : Int))) + (1 : Int)) + Int.tmod (IntKind.wrap IntKind.i64 t) (IntKind.wrap IntKind.i64 (IntKind.wrap IntKind.i64 (a - (1 : Int)) - Int.tmod (IntKind.wrap IntKind.i64 (List.getD (List.map (fun r => U.int (List.headD r (U.i (0 : Int)))) [[U.i f], [U.i g]]) (Int.toNat (1 : Int)) (0 : Int))) (IntKind.wrap IntKind.i64 (a - (1 : Int))))))) A != (0 : Int)) (.done (EV.v (Value.bool false)) [] 0) (bc (decide (List.length A ≤ (1000 : Nat) ∧ AtOk A)) (.at (sG (a) (b) (c) (d) (cutP a (Int.tmod (IntKind.wrap IntKind.i64 (List.getD (List.map (fun r => U.int (List.headD r (U.i (0 : Int)))) [[U.i f], [U.i g]]) (Int.toNat (1 : Int)) (0 : Int))) (IntKind.wrap IntKind.i64 (a - (1 : Int)))) (IntKind.wrap IntKind.i64 (IntKind.wrap IntKind.i64 (Int.tmod (IntKind.wrap IntKind.i64 (List.getD (List.map (fun r => U.int (List.headD r (U.i (0 : Int)))) [[U.i f], [U.i g]]) (Int.toNat (1 : Int)) (0 : Int))) (IntKind.wrap IntKind.i64 (a - (1 : Int))) + (1 : Int)) + Int.tmod (IntKind.wrap IntKind.i64 t) (IntKind.wrap IntKind.i64 (IntKind.wrap IntKind.i64 (a - (1 : Int)) - Int.tmod (IntKind.wrap IntKind.i64 (List.getD (List.map (fun r => U.int (List.headD r (U.i (0 : Int)))) [[U.i f], [U.i g]]) (Int.toNat (1 : Int)) (0 : Int))) (IntKind.wrap IntKind.i64 (a - (1 : Int))))))) A) (A) (B) (C) (D) (cutL a (Int.tmod (IntKind.wrap IntKind.i64 (List.getD (List.map (fun r => U.int (List.headD r (U.i (0 : Int)))) [[U.i f], [U.i g]]) (Int.toNat (1 : Int)) (0 : Int))) (IntKind.wrap IntKind.i64 (a - (1 : Int)))) (IntKind.wrap IntKind.i64 (IntKind.wrap IntKind.i64 (Int.tmod (IntKind.wrap IntKind.i64 (List.getD (List.map (fun r => U.int (List.headD r (U.i (0 : Int)))) [[U.i f], [U.i g]]) (Int.toNat (1 : Int)) (0 : Int))) (IntKind.wrap IntKind.i64 (a - (1 : Int))) + (1 : Int)) + Int.tmod (IntKind.wrap IntKind.i64 t) (IntKind.wrap IntKind.i64 (IntKind.wrap IntKind.i64 (a - (1 : Int)) - Int.tmod (IntKind.wrap IntKind.i64 (List.getD (List.map (fun r => U.int (List.headD r (U.i (0 : Int)))) [[U.i f], [U.i g]]) (Int.toNat (1 : Int)) (0 : Int))) (IntKind.wrap IntKind.i64 (a - (1 : Int))))))) A) (kepL (Int.tmod (IntKind.wrap IntKind.i64 (List.getD (List.map (fun r => U.int (List.headD r (U.i (0 : Int)))) [[U.i f], [U.i g]]) (Int.toNat (1 : Int)) (0 : Int))) (IntKind.wrap IntKind.i64 (a - (1 : Int)))) (IntKind.wrap IntKind.i64 (IntKind.wrap IntKind.i64 (Int.tmod (IntKind.wrap IntKind.i64 (List.getD (List.map (fun r => U.int (List.headD r (U.i (0 : Int)))) [[U.i f], [U.i g]]) (Int.toNat (1 : Int)) (0 : Int))) (IntKind.wrap IntKind.i64 (a - (1 : Int))) + (1 : Int)) + Int.tmod (IntKind.wrap IntKind.i64 t) (IntKind.wrap IntKind.i64 (IntKind.wrap IntKind.i64 (a - (1 : Int)) - Int.tmod (IntKind.wrap IntKind.i64 (List.getD (List.map (fun r => U.int (List.headD r (U.i (0 : Int)))) [[U.i f], [U.i g]]) (Int.toNat (1 : Int)) (0 : Int))) (IntKind.wrap IntKind.i64 (a - (1 : Int))))))) A) ([]) ([]) (false) (false) ((0 : Int)))) .bad)) .bad) .bad)) .bad))) .bad)) .bad))))))))))) := by kernel_rfl
theorem step_t (a b c d p : Int) (A B C D L : List (List U)) (ks : List Bool) (q1 q2 : List Int) (n1 n2 : Bool) (i : Int) : RUN (stOf (sG a b c d p A B C D L ks q1 q2 n1 n2 i)) = (bc (decide (i < Int.ofNat (List.length ks))) (bc (bc (bc (decide ((0 : Int) ≤ i)) (Nat.blt (Int.toNat i) (List.length ks)) false) true false) (bc (bc (Nat.blt (Int.toNat i) (List.length ks)) true false) (bc (List.getD ks (Int.toNat i) false) (bc (bc (Nat.beq (List.length q1) (List.length q1)) (bc (Nat.ble (List.length q1 + List.length (List.map (fun r => U.int (List.headD r (U.i (0 : Int)))) [[U.i i]])) (65536 : Nat)) (bc n1 true (bc n1 false true)) false) false) (.at (sG (a) (b) (c) (d) (p) (A) (B) (C) (D) (L) (ks) (q1 ++ List.map (fun r => U.int (List.headD r (U.i (0 : Int)))) [[U.i i]]) (q2) (bc n1 true (Nat.blt (0 : Nat) (List.length (List.map (fun r => U.int (List.headD r (U.i (0 : Int)))) [[U.i i]])))) (n2) (IntKind.wrap IntKind.i64 (i + (1 : Int))))) .bad) (bc (bc (Nat.beq (List.length q2) (List.length q2)) (bc (Nat.ble (List.length q2 + List.length (List.map (fun r => U.int (List.headD r (U.i (0 : Int)))) [[U.i i]])) (65536 : Nat)) (bc n2 true (bc n2 false true)) false) false) (.at (sG (a) (b) (c) (d) (p) (A) (B) (C) (D) (L) (ks) (q1) (q2 ++ List.map (fun r => U.int (List.headD r (U.i (0 : Int)))) [[U.i i]]) (n1) (bc n2 true (Nat.blt (0 : Nat) (List.length (List.map (fun r => U.int (List.headD r (U.i (0 : Int)))) [[U.i i]])))) (IntKind.wrap IntKind.i64 (i + (1 : Int))))) .bad)) .bad) .bad) (bc (Int.ofNat (List.length q1) == Int.ofNat (List.length L)) (bc (bc (Int.ofNat (List.length (q1 ++ q2)) != Int.ofNat (List.length A)) false (ordB A (List.replicate (List.length A) false) (q1 ++ q2))) (bc (bc (bc (eqB (Int.ofNat (List.length q1) == Int.ofNat (List.length L)) true) (bc (bc (Nat.beq (List.length q2) (List.length q2)) (bc (Nat.beq (List.length q1) (List.length q1)) (bc (Nat.ble (List.length q1 + List.length q2) (65536 : Nat)) (bc n1 true (bc n1 false true)) false) false) false) (bc (bc (bc (bc (Nat.beq (List.length (q1 ++ q2)) (List.length (q1 ++ q2))) true false) (decide (List.length A ≤ (1000 : Nat) ∧ AtG A)) false) true false) (bc (eqB (bc (Int.ofNat (List.length (q1 ++ q2)) != Int.ofNat (List.length A)) false (ordB A (List.replicate (List.length A) false) (q1 ++ q2))) true) true false) false) false) false) (bc (bc (bc (bc (decide (a = a)) (bc (eqSy (SyC.recs [Sh.int IntKind.i64, Sh.int IntKind.i64, Sh.str] A) (SyC.recs [Sh.int IntKind.i64, Sh.int IntKind.i64, Sh.str] A)) true false) false) true false) true false) true false) false) (.done (EV.v (Value.bool true)) [] 0) .bad) (bc (bc (bc (eqB (Int.ofNat (List.length q1) == Int.ofNat (List.length L)) true) (bc (bc (Nat.beq (List.length q2) (List.length q2)) (bc (Nat.beq (List.length q1) (List.length q1)) (bc (Nat.ble (List.length q1 + List.length q2) (65536 : Nat)) (bc n1 true (bc n1 false true)) false) false) false) (bc (bc (bc (bc (Nat.beq (List.length (q1 ++ q2)) (List.length (q1 ++ q2))) true false) (decide (List.length A ≤ (1000 : Nat) ∧ AtG A)) false) true false) (bc (eqB (bc (Int.ofNat (List.length (q1 ++ q2)) != Int.ofNat (List.length A)) false (ordB A (List.replicate (List.length A) false) (q1 ++ q2))) false) true false) false) false) false) (bc (bc (bc (bc (decide (a = a)) (bc (eqSy (SyC.recs [Sh.int IntKind.i64, Sh.int IntKind.i64, Sh.str] A) (SyC.recs [Sh.int IntKind.i64, Sh.int IntKind.i64, Sh.str] A)) true false) false) true false) true false) true false) false) (.done (EV.v (Value.bool false)) [] 0) .bad)) (bc (bc (bc (eqB (Int.ofNat (List.length q1) == Int.ofNat (List.length L)) false) true false) true false) (.done (EV.v (Value.bool false)) [] 0) .bad))) := by kernel_rfl
theorem gstep {a b c d p : Int} {A B C D L : List (List U)} {ks : List Bool} {q1 q2 : List Int} {n1 n2 : Bool} {i : Nat} (hi : i < ks.length) (hk : ks.length ≤ 1000) (h1 : q1.length ≤ 1000) (h2 : q2.length ≤ 1000) : RUN (stOf (sG a b c d p A B C D L ks q1 q2 n1 n2 i)) = bc (ks.getD i false) (.at (sG a b c d p A B C D L ks (q1 ++ [(i : Int)]) q2 true n2 (i + 1 : Nat))) (.at (sG a b c d p A B C D L ks q1 (q2 ++ [(i : Int)]) n1 true (i + 1 : Nat))) := by
  rw [step_t]
  cases hb : ks.getD i false
  · simp (disch := omega) only [Nat.add_eq, eqSy_self, eqN_self, bc_same, List.length_cons, ofn, wrap_in, dt, df, bltD, bltN, ble_of, bleN, beqD, bc_t, bc_f, nn_ok, Nat.zero_add, to_nat, Int.zero_add, Int.sub_zero, Int.sub_self, Int.cast_ofNat_Int, Int.natCast_zero, Int.toNat_zero, List.take_zero, List.nil_append, List.length_append, List.length_nil, hb, List.map_cons, List.map_nil]
    cases n2 <;> rfl
  · simp (disch := omega) only [Nat.add_eq, eqSy_self, eqN_self, bc_same, List.length_cons, ofn, wrap_in, dt, df, bltD, bltN, ble_of, bleN, beqD, bc_t, bc_f, nn_ok, Nat.zero_add, to_nat, Int.zero_add, Int.sub_zero, Int.sub_self, Int.cast_ofNat_Int, Int.natCast_zero, Int.toNat_zero, List.take_zero, List.nil_append, List.length_append, List.length_nil, hb, List.map_cons, List.map_nil]
    cases n1 <;> rfl
theorem glast {a b c d p : Int} {A B C D L : List (List U)} {ks : List Bool} {q1 q2 : List Int} {n1 n2 : Bool} {i : Nat} (hi : ks.length ≤ i) (hA : A.length ≤ 1000) (ha : AtG A) (h1 : L.length = q1.length) (h2 : q1.length + q2.length = A.length) (ho : ordB A (List.replicate A.length false) (q1 ++ q2) = true) : RUN (stOf (sG a b c d p A B C D L ks q1 q2 n1 n2 i)) = .done (bv true) [] 0 := by
  rw [step_t]
  have e1 : (Int.ofNat q1.length == Int.ofNat L.length) = true := by rw [h1]; simp
  have e2 : (Int.ofNat (q1 ++ q2).length != Int.ofNat A.length) = false := by rw [List.length_append, h2]; simp
  have e3 : A.length ≤ 1000 ∧ AtG A := ⟨hA, ha⟩
  have e4 : Nat.ble (q1.length + q2.length) 65536 = true := ble_of (by omega)
  have e0 : decide ((i : Int) < Int.ofNat ks.length) = false := df (show ¬ (i : Int) < (ks.length : Int) by omega)
  simp only [e0, e1, e2, ho, dt e3, e4, bc_t, bc_f, eqBt, beqD (Eq.refl _), nn_ok, eqSy_self, eqN_self, decide_true, bc_same]
theorem gloop {a b c d p : Int} {A B C D L : List (List U)} {ks : List Bool} (hk : ks.length = A.length) (hA : A.length ≤ 1000) (ha : AtG A) : ∀ (m i : Nat) (q1 q2 : List Int) (n1 n2 : Bool), i + m = ks.length → q1.length + q2.length = i → L.length = (q1 ++ ordI ks i m).length → ordB A (List.replicate A.length false) ((q1 ++ ordI ks i m) ++ (q2 ++ rstI ks i m)) = true → EndZ 9 ctGr false (stOf (sG a b c d p A B C D L ks q1 q2 n1 n2 i)) (bv true) [] 0
  | 0, i, q1, q2, n1, n2, h, hq, hl, ho => by
    have e1 : ordI ks i 0 = [] := rfl
    have e2 : rstI ks i 0 = [] := rfl
    rw [e1, e2, List.append_nil, List.append_nil] at ho
    rw [e1, List.append_nil] at hl
    exact .done (glast (by omega) hA ha hl (by omega) ho)
  | m + 1, i, q1, q2, n1, n2, h, hq, hl, ho => by
    have hs := gstep (a := a) (b := b) (c := c) (d := d) (p := p) (A := A) (B := B) (C := C) (D := D) (L := L) (ks := ks) (q1 := q1) (q2 := q2) (n1 := n1) (n2 := n2) (show i < ks.length by omega) (by omega) (by omega) (by omega)
    unfold ordI at hl ho
    unfold rstI at ho
    cases hb : ks.getD i false <;> rw [hb] at hs hl ho
    · refine .at ctGr_ok hs (gloop hk hA ha m (i + 1) q1 (q2 ++ [(i : Int)]) n1 true (by omega) (by simp; omega) hl ?_)
      rw [List.append_assoc q2]
      exact ho
    · refine .at ctGr_ok hs (gloop hk hA ha m (i + 1) (q1 ++ [(i : Int)]) q2 true n2 (by omega) (by simp; omega) ?_ ?_)
      · rw [List.append_assoc q1]; exact hl
      · rw [List.append_assoc q1]; exact ho
end AGrp
theorem timE_of {n t : Int} {l : List (List U)} (h : chk4 n l = 0) (h0 : 0 ≤ t) (h1 : t ≤ 400) (h2 : t * (l.length : Int) ≤ 400) : timE n t l = 0 := by
  unfold timE
  rw [show (chk4 n l != 0) = false by rw [h]; rfl, bc_f, df (by omega), bc_f, df (by omega), bc_f, df (by omega), bc_f]
theorem mem_rep {l : List (List U)} {r : List U} : ∀ k, r ∈ repL l k → r ∈ l
  | 0, h => by cases h
  | k + 1, h => by
    have e : repL l (k + 1) = l ++ repL l k := rfl
    rw [e] at h
    rcases List.mem_append.1 h with h | h
    · exact h
    · exact mem_rep k h
theorem tiA {a i k : Int} {A : List (List U)} (hA : chk4 a A = 0) (hl : (A.length : Int) ≤ 60) (i0 : 0 ≤ i) (i3 : i ≤ 3) (k0 : 0 ≤ k) (k3 : k ≤ 3) :
    timE a (i + k) A = 0 ∧ timE a i A = 0 ∧ timE a k A = 0 ∧ belE (timP a i A) (timP a k A) (timL a i A) (timL a k A) = 0 ∧ (timL a (i + k) A).length ≤ 100000 ∧
    sameW (timP a (i + k) A) (belP (timP a i A) (timP a k A) (timL a i A) (timL a k A)) (timL a (i + k) A) (belL (timP a i A) (timP a k A) (timL a i A) (timL a k A)) = true := by
  obtain ⟨x, rfl⟩ := Int.eq_ofNat_of_zero_le i0
  obtain ⟨y, rfl⟩ := Int.eq_ofNat_of_zero_le k0
  have m1 : x * A.length ≤ 3 * 60 := Nat.mul_le_mul (by omega) (by omega)
  have m2 : y * A.length ≤ 3 * 60 := Nat.mul_le_mul (by omega) (by omega)
  have m3 : (x + y) * A.length = x * A.length + y * A.length := Nat.add_mul _ _ _
  have t1 : timE a ((x : Int) + y) A = 0 := timE_of hA (by omega) (by omega) (by rw [← Int.natCast_add, ← Int.natCast_mul]; omega)
  have t2 : timE a (x : Int) A = 0 := timE_of hA (by omega) (by omega) (by rw [← Int.natCast_mul]; omega)
  have t3 : timE a (y : Int) A = 0 := timE_of hA (by omega) (by omega) (by rw [← Int.natCast_mul]; omega)
  have vA := chk4_ok hA
  have vr : ∀ z : Nat, z * A.length ≤ 400 → chk4 a (repL A z) = 0 := fun z hz => chk4_of ⟨vA.lo, vA.hi, by rw [repL_len]; exact hz, fun r hr => vA.val r (mem_rep z hr)⟩
  have b1 : belE a a (repL A x) (repL A y) = 0 := belE_of (vr x (by omega)) (vr y (by omega)) (by rw [repL_len, repL_len]; omega)
  have n1 : ((x : Int) + y).toNat = x + y := by omega
  rw [(timV0 t1).1, (timV0 t1).2, (timV0 t2).1, (timV0 t2).2, (timV0 t3).1, (timV0 t3).2, Int.toNat_natCast, Int.toNat_natCast, n1, (belV0 b1).1, (belV0 b1).2]
  exact ⟨t1, t2, t3, b1, by rw [repL_len]; omega, by rw [repL_add, sameW_self]⟩
theorem plA {a at' : Int} {A : List (List U)} (hA : chk4 a A = 0) (h0 : 0 ≤ at') (h1 : at' ≤ 24 - a) :
    plaE a at' 24 A = 0 ∧ cutE (plaP a at' 24 A) at' (at' + a - 1) (plaL a at' 24 A) = 0 ∧ (cutL (plaP a at' 24 A) at' (at' + a - 1) (plaL a at' 24 A)).length ≤ 100000 ∧
    sameW (cutP (plaP a at' 24 A) at' (at' + a - 1) (plaL a at' 24 A)) a (cutL (plaP a at' 24 A) at' (at' + a - 1) (plaL a at' 24 A)) A = true := by
  have vA := chk4_ok hA
  have a2 := vA.lo
  have a24 := vA.hi
  have al := vA.len
  have p0 : plaE a at' 24 A = 0 := by
    unfold plaE
    rw [show (chk4 a A != 0) = false by rw [hA]; rfl, bc_f, df (by omega), bc_f, df (by omega), bc_f, df (by omega), bc_f, df (by omega), bc_f]
  rw [(plaV0 p0).1, (plaV0 p0).2]
  have vs : ValS 24 (shL at' A) := ⟨by omega, by omega, by rw [shL_len]; exact al, fun r hr => by
    unfold shL at hr
    obtain ⟨x, hx, rfl⟩ := List.mem_map.1 hr
    exact (vA.val x hx).sh h0 (by omega)⟩
  have c0 : cutE 24 at' (at' + a - 1) (shL at' A) = 0 := by
    unfold cutE
    rw [show (chk4 24 (shL at' A) != 0) = false by rw [chk4_of vs]; rfl, bc_f, df (by omega), bc_f, df (by omega), bc_f, df (by omega), bc_f]
  rw [(cutV0 c0).1, (cutV0 c0).2]
  have hk : ∀ j, j < (shL at' A).length → (kepL at' (at' + a - 1) (shL at' A)).getD j false = true := fun j hj => kep_all (fun i hi => by
    have hi' : i < A.length := by rw [shL_len] at hi; exact hi
    have e : (shL at' A).getD i [] = shR at' A[i] := by
      show (List.map (shR at') A).getD i [] = _
      rw [getD_at (by rw [List.length_map]; exact hi'), List.getElem_map]
    have v := vA.val _ (List.getElem_mem hi')
    have v1 := v.lo
    have v2 := v.hi
    rw [e]
    unfold rng
    have e2 : rA (shR at' A[i]) = rA A[i] + at' := rfl
    rw [e2, dt (by omega), bc_t, dt (by omega)]) (j + 1) j (by omega) hj
  rw [cutG_all (shL at' A).length 0 (by omega) hk, List.drop_zero]
  refine ⟨p0, c0, by rw [List.length_map, shL_len]; omega, ?_⟩
  unfold shL
  rw [List.map_map]
  unfold sameW
  rw [show (at' + a - 1 - at' + 1 != a) = false by rw [show at' + a - 1 - at' + 1 = a by omega]; simp, bc_f, List.length_map, show (Int.ofNat A.length != Int.ofNat A.length) = false by simp, bc_f]
  refine sameR_map (fun r => ?_) A
  show rowEq (mkR (rK r) (rA r + at' - at') (rW r)) r = true
  rw [show rA r + at' - at' = rA r by omega]
  unfold rowEq
  rw [rK_mk, rA_mk, rW_mk, ieq, bc_t, ieq, bc_t, show ((rW r).toList == (rW r).toList) = true by simp]
  rfl
theorem cutE_of {n a b : Int} {l : List (List U)} (h : chk4 n l = 0) (h0 : 0 ≤ a) (h1 : b < n) (h2 : a < b) : cutE n a b l = 0 := by
  unfold cutE
  rw [show (chk4 n l != 0) = false by rw [h]; rfl, bc_f, df (by omega), bc_f, df (by omega), bc_f, df (by omega), bc_f]
theorem tm {x y : Int} (hx : 0 ≤ x) (hy : 0 < y) : 0 ≤ Int.tmod x y ∧ Int.tmod x y ≤ y - 1 := by
  rw [Int.tmod_eq_emod_of_nonneg hx]
  have := Int.emod_nonneg x (show y ≠ 0 by omega)
  have := Int.emod_lt_of_pos x hy
  omega
namespace AGrp
theorem bnz {x : Int} (h : x ≠ 0) : bnot (x == 0) = true := by
  rw [show (x == 0) = false by simp [h]]; rfl
theorem ends (a b c d f g t : Int) (A B C D : List (List U)) (hf : 0 ≤ f ∧ f ≤ 255) (hg : 0 ≤ g ∧ g ≤ 255) (ht : 0 ≤ t ∧ t ≤ 255) : EndZ 9 ctGr false (st0 9 [.agg [iv a, wl A, iv b, wl B, iv c, wl C, iv d, wl D], .agg [.v (.int .u8 f), .v (.int .u8 g)], .v (.int .u8 t)]) (bv true) [] 0 := by
  have h := in_t a b c d f g t A B C D
  have ef : List.getD (List.map (fun r => U.int (List.headD r (U.i (0 : Int)))) [[U.i f], [U.i g]]) (Int.toNat (0 : Int)) (0 : Int) = f := rfl
  have eg : List.getD (List.map (fun r => U.int (List.headD r (U.i (0 : Int)))) [[U.i f], [U.i g]]) (Int.toNat (1 : Int)) (0 : Int) = g := rfl
  have wf : IntKind.wrap IntKind.i64 f = f := wrap_in f (by omega) (by omega)
  have wg : IntKind.wrap IntKind.i64 g = g := wrap_in g (by omega) (by omega)
  have wt : IntKind.wrap IntKind.i64 t = t := wrap_in t (by omega) (by omega)
  simp only [ef, eg, wf, wg, wt] at h
  cases f1 : farB A 60
  case true => rw [f1] at h; exact .done h
  cases f2 : farB B 60
  case true => rw [f1, f2] at h; exact .done h
  cases f3 : farB C 60
  case true => rw [f1, f2, f3] at h; exact .done h
  simp only [f1, f2, f3, bc_f] at h
  cases c1 : (chk4 a A != 0)
  case true => rw [c1] at h; exact .done h
  cases c2 : (chk4 b B != 0)
  case true => rw [c1, c2] at h; exact .done h
  cases c3 : (chk4 c C != 0)
  case true => rw [c1, c2, c3] at h; exact .done h
  simp only [c1, c2, c3, bc_f] at h
  have hA := ne0 c1
  have vA := chk4_ok hA
  have a2 := vA.lo
  have a24 := vA.hi
  have lA := far_len f1 (by have := vA.len; omega)
  have r1 := tm hf.1 (show (0 : Int) < 4 by omega)
  have r2 := tm hg.1 (show (0 : Int) < 4 by omega)
  have r3 := tm hg.1 (show (0 : Int) < 24 - a + 1 by omega)
  have r4 := tm hg.1 (show (0 : Int) < a - 1 by omega)
  have w1 : IntKind.wrap IntKind.i64 (24 - a) = 24 - a := wrap_in _ (by omega) (by omega)
  have w2 : IntKind.wrap IntKind.i64 (24 - a + 1) = 24 - a + 1 := wrap_in _ (by omega) (by omega)
  have w3 : IntKind.wrap IntKind.i64 (a - 1) = a - 1 := wrap_in _ (by omega) (by omega)
  simp only [w1, w2, w3] at h
  generalize Int.tmod f 4 = i at h r1
  generalize Int.tmod g 4 = k at h r2
  generalize Int.tmod g (24 - a + 1) = q at h r3
  generalize Int.tmod g (a - 1) = x at h r4
  have w4 : IntKind.wrap IntKind.i64 (i + k) = i + k := wrap_in _ (by omega) (by omega)
  have w5 : IntKind.wrap IntKind.i64 (q + a) = q + a := wrap_in _ (by omega) (by omega)
  have w6 : IntKind.wrap IntKind.i64 (q + a - 1) = q + a - 1 := wrap_in _ (by omega) (by omega)
  have w7 : IntKind.wrap IntKind.i64 (a - 1 - x) = a - 1 - x := wrap_in _ (by omega) (by omega)
  have w8 : IntKind.wrap IntKind.i64 (x + 1) = x + 1 := wrap_in _ (by omega) (by omega)
  simp only [w4, w5, w6, w7, w8] at h
  have r5 := tm ht.1 (show (0 : Int) < a - 1 - x by omega)
  generalize Int.tmod t (a - 1 - x) = y at h r5
  have w9 : IntKind.wrap IntKind.i64 (x + 1 + y) = x + 1 + y := wrap_in _ (by omega) (by omega)
  obtain ⟨t1, t2, t3, t4, t5, t6⟩ := tiA hA lA r1.1 (by omega) r2.1 (by omega)
  obtain ⟨p1, p2, p3, p4⟩ := plA hA r3.1 (show q ≤ 24 - a by omega)
  have c0 := cutE_of hA r4.1 (show x + 1 + y < a by omega) (show x < x + 1 + y by omega)
  have z0 : ((0 : Int) != 0) = false := rfl
  have b1 : bnot (24 - a + 1 == 0) = true := bnz (by omega)
  have b2 : bnot (a - 1 == 0) = true := bnz (by omega)
  have b3 : bnot (a - 1 - x == 0) = true := bnz (by omega)
  have hq : A.length ≤ 1000 ∧ AtOk A := ⟨by omega, vA.at⟩
  simp only [w9, t1, t2, t3, t4, dt t5, t6, p1, p2, dt p3, p4, c0, z0, b1, b2, b3, dt hq, Bool.not_true, bc_t, bc_f] at h
  have kl : (kepL x (x + 1 + y) A).length = A.length := kepL_len _ _ _
  refine .at ctGr_ok h (gloop kl (by omega) vA.at.g A.length 0 [] [] false false (by omega) rfl ?_ ?_)
  · rw [(cutV0 c0).2, List.nil_append, cutG_ordI]
  · rw [List.nil_append, List.nil_append]
    exact ord_kept x (x + 1 + y) A
end AGrp
theorem u8_fit {n : Int} (h : (Lit.int .u8 n).wf = true) : 0 ≤ n ∧ n ≤ 255 := by
  have h1 : IntKind.u8.min ≤ n ∧ n ≤ IntKind.u8.max := by simpa [Lit.wf] using h
  have e1 : IntKind.u8.min = 0 := rfl
  have e2 : IntKind.u8.max = 255 := rfl
  omega
theorem fit_u8 {u : U} (h : UFit (.int .u8) u) : ∃ n, u = .i n ∧ 0 ≤ n ∧ n ≤ 255 := by
  cases h with
  | int k n h => exact ⟨n, rfl, u8_fit h⟩
theorem assembleGroups_calls {γ : G} {w : World} {us : Array Value} (ra : List U) (wa : RowFit [.int .i64, .list [.int .i64, .int .i64, .str], .int .i64, .list [.int .i64, .int .i64, .str], .int .i64, .list [.int .i64, .int .i64, .str], .int .i64, .list [.int .i64, .int .i64, .str]] ra) (ry : List U) (wy : RowFit [.int .u8, .int .u8] ry) (t : Int) (wt : (Lit.int .u8 t).wf = true)
    (hax : ECL γ [.agg (recE [.int .i64, .list [.int .i64, .int .i64, .str], .int .i64, .list [.int .i64, .int .i64, .str], .int .i64, .list [.int .i64, .int .i64, .str], .int .i64, .list [.int .i64, .int .i64, .str]] ra), .agg (recE [.int .u8, .int .u8] ry), .v (.int .u8 t)] us.toList) (hN : ∀ i, γ i = none) (hfz : FzAt γ w) : Calls Try.prog 9 us w fun e w' => e = .returned (.bool true) ∧ Stays w w' := by
  have h0 := wy.fit 0 _ rfl
  have h1 := wy.fit 1 _ rfl
  have hlen := wy.len
  match ry, hlen with
  | [x, y], _ =>
    obtain ⟨f, rfl, hf⟩ := fit_u8 h0
    obtain ⟨g, rfl, hg⟩ := fit_u8 h1
    exact law_of ((AGrp.ends _ _ _ _ f g t _ _ _ _ hf hg (u8_fit wt)).calls ctGr_ok (by kernel_rfl) hax hN hfz)
end Go.Proofs.Ytkbebiebaenbdaa.Ev
namespace Go.Proofs.Ytkbebiebaenbdaa
open Go.ChangeShapes Go.WideShapes Go.ChangeAt Go.RowKit Go.ChangeMaps
theorem knobAssembleGroups : ownKnob Try.prog.godebug = none := by kernel_rfl
theorem kidsAssembleGroups : Kids Try.prog (· < Try.prog.types.size) := kids_rows (by kernel_rfl) (by kernel_rfl)
theorem fullAssembleGroups : ∀ t e, t < Try.prog.types.size → Try.prog.underlying t = some (.slice e) → 0 < Try.prog.cellsOf e := slices_full_of Try.prog (by kernel_rfl)
set_option maxRecDepth 100000 in
theorem liftedAssembleGroups (os : Os) (started : os.Started) (H : Type) (enc : TypeId × Value → H) :
    ReturnsInHanded {} Try.checked os 9 .any (Rows.assembleGroupsSpec.pre6 enc Try.prog Try.f9 Rows.assembleGroupsRow.domain false) (Rows.assembleGroupsSpec.post enc Try.prog Try.f9 false true false false) := by
  refine returnsInHanded_of_change (C := Try.checked) knobAssembleGroups started (by kernel_rfl) Try.func9
    (ChangeSpec.witness6 (enc := enc) (C := Try.checked) false ⟨#[], #[.agg #[.int .i64 0, .slice none 0 0, .int .i64 0, .slice none 0 0, .int .i64 0, .slice none 0 0, .int .i64 0, .slice none 0 0], .agg #[.int .u8 0, .int .u8 0], .int .u8 0], []⟩ 8 (by kernel_rfl) (by kernel_rfl) (by kernel_rfl) (by kernel_rfl)) ?_
  intro W base args ds gs before hval0 hW hcnd _
  have hval : ∀ (j : Nat) t v, Try.f9.params[j]? = some t → args[j]? = some v → Value.okWide Try.prog W .any base t v := hval0
  have hW' := hW
  obtain ⟨p, q, hA0, hV, rfl, hfz, hnd⟩ := hW
  have hA : DataW.TrodAll enc Try.prog W 0 (fun _ => true) true Try.f9.params.toList args.toList ds p := hA0
  have hAk := hA
  rw [Try.params9] at hA hval
  obtain ⟨rfl, rfl⟩ := trodVars_none hV
  obtain ⟨v0, v1, v2, d0, d1, d2, p0, p1, p2, rfl, rfl, rfl, h0, h1, h2⟩ := trodAll_three hA
  obtain ⟨r, wr, er⟩ := Ev.open_agg (k := 8) Try.underlying61 (by kernel_rfl : Ev.shB Try.prog 8 61 = some [.int .i64, .list [.int .i64, .int .i64, .str], .int .i64, .list [.int .i64, .int .i64, .str], .int .i64, .list [.int .i64, .int .i64, .str], .int .i64, .list [.int .i64, .int .i64, .str]]) (hval 0 61 v0 rfl rfl) h0
  obtain ⟨y, wy, ey⟩ := Ev.open_arr (k := 8) Try.underlying68 (by kernel_rfl : Ev.shB Try.prog 8 68 = some [.int .u8, .int .u8]) (hval 1 68 v1 rfl rfl) h1
  obtain ⟨t, rfl, rfl, rfl, wt⟩ := open_int Try.underlying5 (hval 2 5 v2 rfl rfl) h2
  clear hA0 hval0
  refine (Ev.assembleGroups_calls r wr y wy t wt (γ := Ev.gAll W) (.cons er (.cons ey (.cons (.v _) (.nil _)))) (fun i => rfl) (Ev.fzAll_at W)).mono fun e W' ⟨he, hg⟩ => ?_
  subst he
  exact ⟨_, rfl, post_law kidsAssembleGroups fullAssembleGroups Try.underlying4 (by kernel_rfl) (by kernel_rfl) rfl rfl (by rw [Try.params9]; decide) hW' hAk hg (ok_one (by kernel_rfl) rfl (okWide_bool_mk Try.underlying4 _))⟩
theorem assembleGroups_holds : Rows.AssembleGroupsSaid :=
  OpenClaim.holds_of_wide 9 Try.f9 rfl rfl rfl rfl rfl rfl rfl ⟨rfl, rfl, rfl, rfl, rfl⟩ rfl rfl rfl rfl rfl (by kernel_rfl) Try.func9 (by kernel_rfl)
    (of_decide_eq_true (by kernel_rfl)) (by unfold Func.isWrapper; first | (rw [if_pos (by decide +kernel)]; kernel_rfl) | (rw [if_neg (by decide +kernel)]; exact ⟨rfl, rfl⟩))
    (fun os started H enc _ => liftedAssembleGroups os started H enc)
end Go.Proofs.Ytkbebiebaenbdaa
