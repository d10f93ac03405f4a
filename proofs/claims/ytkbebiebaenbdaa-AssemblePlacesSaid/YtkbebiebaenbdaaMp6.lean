/- AssemblePlaces returns true, for all arguments, in every world in which it is called, and nothing that was there turns. -/
import Derived.ProofKit
import Derived.ReadAgain
import Derived.OpenShut
import Derived.Test.YtkbebiebaenbdaaRows
import Derived.WalkKit
import Derived.Test.YtkbebiebaenbdaaMp5
set_option linter.unusedSimpArgs false
set_option linter.unusedVariables false
namespace Go.Proofs.Ytkbebiebaenbdaa.Ev
open Go.Proofs
noncomputable abbrev l2 (l k : List (List U)) : EV := .lst (.recs [.list shW] [[.l l], [.l k]])
namespace POr
noncomputable def RUN (s : ES) : ZF := RZ 71 .nil (fun _ => false) [] [] false s
theorem in_t (a b : Int) : RUN (st0 71 [.lst (.ints .i64 [a, b])]) = (bc (List.getD [a, b] (Int.toNat (0 : Int)) (0 : Int) != (0 : Int))
  (.done (EV.v (Value.int IntKind.i64 (List.getD [a, b] (Int.toNat (0 : Int)) (0 : Int)))) [] 0)
  (bc (List.getD [a, b] (Int.toNat (IntKind.wrap IntKind.i64 ((0 : Int) + (1 : Int)))) (0 : Int) != (0 : Int))
    (.done (EV.v (Value.int IntKind.i64 (List.getD [a, b] (Int.toNat (IntKind.wrap IntKind.i64 ((0 : Int) + (1 : Int)))) (0 : Int)))) [] 0)
    (.done (EV.v (Value.int IntKind.i64 (0))) [] 0))) := by kernel_rfl
theorem ends (a b : Int) : EndZ 71 .nil false (st0 71 [.lst (.ints .i64 [a, b])]) (iv (bc (a != 0) a (bc (b != 0) b 0))) [] 0 := by
  have h := in_t a b
  have e1 : List.getD [a, b] (Int.toNat 0) 0 = a := rfl
  have e2 : List.getD [a, b] (Int.toNat (IntKind.wrap IntKind.i64 (0 + 1))) 0 = b := rfl
  rw [e1, e2] at h
  cases h1 : (a != 0) <;> rw [h1] at h
  · cases h2 : (b != 0) <;> rw [h2] at h
    · exact .done h
    · exact .done h
  · exact .done h
end POr
noncomputable def spOr : ZCT := fun ax => match ax with
  | [.lst (.ints .i64 [a, b])] => some ⟨decide (True), iv (bc (a != 0) a (bc (b != 0) b 0)), [], 0⟩
  | _ => none
theorem spOr_ok : ZCtOk Try.prog 71 spOr := fun γ w us ax r hs hc hax hN hfz => by
  unfold spOr at hs
  split at hs
  case h_2 => cases hs
  rename_i a b
  obtain ⟨rfl⟩ := Option.some.inj hs
  have hc_0 : decide (True) = true := hc
  have hc := of_decide_eq_true hc_0
  exact EndZ.calls (POr.ends a b) (.nil _) (by kernel_rfl) hax hN hfz
namespace PCat
noncomputable def RUN (s : ES) : ZF := RZ 72 .nil (fun _ => false) [] [] false s
theorem in_t (l k : List (List U)) : RUN (st0 72 [l2 l k]) = (bc (Decidable.decide (IntKind.wrap IntKind.i64 ((0 : Int) + Int.ofNat (List.length (U.list (List.getD (List.getD [[U.l l], [U.l k]] (Int.toNat (0 : Int)) []) (0 : Nat) (U.i (0 : Int)))))) < (0 : Int)))
  .bad
  (bc (Decidable.decide (IntKind.wrap IntKind.i64 (IntKind.wrap IntKind.i64 ((0 : Int) + Int.ofNat (List.length (U.list (List.getD (List.getD [[U.l l], [U.l k]] (Int.toNat (0 : Int)) []) (0 : Nat) (U.i (0 : Int)))))) + Int.ofNat (List.length (U.list (List.getD (List.getD [[U.l l], [U.l k]] (Int.toNat (IntKind.wrap IntKind.i64 ((0 : Int) + (1 : Int)))) []) (0 : Nat) (U.i (0 : Int)))))) < (0 : Int)))
    .bad
    (bc (Decidable.decide (IntKind.wrap IntKind.i64 (IntKind.wrap IntKind.i64 ((0 : Int) + Int.ofNat (List.length (U.list (List.getD (List.getD [[U.l l], [U.l k]] (Int.toNat (0 : Int)) []) (0 : Nat) (U.i (0 : Int)))))) + Int.ofNat (List.length (U.list (List.getD (List.getD [[U.l l], [U.l k]] (Int.toNat (IntKind.wrap IntKind.i64 ((0 : Int) + (1 : Int)))) []) (0 : Nat) (U.i (0 : Int)))))) < (0 : Int)))
      .bad
      (bc (Decidable.decide ((0 : Int) < IntKind.wrap IntKind.i64 (IntKind.wrap IntKind.i64 (IntKind.wrap IntKind.i64 ((0 : Int) + Int.ofNat (List.length (U.list (List.getD (List.getD [[U.l l], [U.l k]] (Int.toNat (0 : Int)) []) (0 : Nat) (U.i (0 : Int)))))) + Int.ofNat (List.length (U.list (List.getD (List.getD [[U.l l], [U.l k]] (Int.toNat (IntKind.wrap IntKind.i64 ((0 : Int) + (1 : Int)))) []) (0 : Nat) (U.i (0 : Int)))))) - IntKind.wrap IntKind.i64 ((Nat.cast (0 : Nat) : Int) - (Nat.cast (0 : Nat) : Int)))))
        (bc (bc (Decidable.decide ((0 : Int) < IntKind.wrap IntKind.i64 (IntKind.wrap IntKind.i64 (IntKind.wrap IntKind.i64 ((0 : Int) + Int.ofNat (List.length (U.list (List.getD (List.getD [[U.l l], [U.l k]] (Int.toNat (0 : Int)) []) (0 : Nat) (U.i (0 : Int)))))) + Int.ofNat (List.length (U.list (List.getD (List.getD [[U.l l], [U.l k]] (Int.toNat (IntKind.wrap IntKind.i64 ((0 : Int) + (1 : Int)))) []) (0 : Nat) (U.i (0 : Int)))))) - IntKind.wrap IntKind.i64 ((Nat.cast (0 : Nat) : Int) - (Nat.cast (0 : Nat) : Int))))) (Decidable.decide (IntKind.wrap IntKind.i64 (IntKind.wrap IntKind.i64 (IntKind.wrap IntKind.i64 ((0 : Int) + Int.ofNat (List.length (U.list (List.getD (List.getD [[U.l l], [U.l k]] (Int.toNat (0 : Int)) []) (0 : Nat) (U.i (0 : Int)))))) + Int.ofNat (List.length (U.list (List.getD (List.getD [[U.l l], [U.l k]] (Int.toNat (IntKind.wrap IntKind.i64 ((0 : Int) + (1 : Int)))) []) (0 : Nat) (U.i (0 : Int)))))) - IntKind.wrap IntKind.i64 ((Nat.cast (0 : Nat) : Int) - (Nat.cast (0 : Nat) : Int))) ≤ (4096 : Int))) Bool.false)
          (bc (Nat.beq (Int.toNat (IntKind.wrap IntKind.i64 (IntKind.wrap IntKind.i64 (IntKind.wrap IntKind.i64 ((0 : Int) + Int.ofNat (List.length (U.list (List.getD (List.getD [[U.l l], [U.l k]] (Int.toNat (0 : Int)) []) (0 : Nat) (U.i (0 : Int)))))) + Int.ofNat (List.length (U.list (List.getD (List.getD [[U.l l], [U.l k]] (Int.toNat (IntKind.wrap IntKind.i64 ((0 : Int) + (1 : Int)))) []) (0 : Nat) (U.i (0 : Int)))))) - IntKind.wrap IntKind.i64 ((Nat.cast (0 : Nat) : Int) - (Nat.cast (0 : Nat) : Int))))) (List.length (List.replicate (Int.toNat (IntKind.wrap IntKind.i64 (IntKind.wrap IntKind.i64 (IntKind.wrap IntKind.i64 ((0 : Int) + Int.ofNat (List.length (U.list (List.getD (List.getD [[U.l l], [U.l k]] (Int.toNat (0 : Int)) []) (0 : Nat) (U.i (0 : Int)))))) + Int.ofNat (List.length (U.list (List.getD (List.getD [[U.l l], [U.l k]] (Int.toNat (IntKind.wrap IntKind.i64 ((0 : Int) + (1 : Int)))) []) (0 : Nat) (U.i (0 : Int)))))) - IntKind.wrap IntKind.i64 ((Nat.cast (0 : Nat) : Int) - (Nat.cast (0 : Nat) : Int))))) [U.i (0 : Int), U.i (0 : Int), U.s { data := #[] }])))
            (bc (bc (Nat.ble (List.length (List.take (Int.toNat (Nat.cast (0 : Nat) : Int)) (List.replicate (Int.toNat (IntKind.wrap IntKind.i64 (IntKind.wrap IntKind.i64 (IntKind.wrap IntKind.i64 ((0 : Int) + Int.ofNat (List.length (U.list (List.getD (List.getD [[U.l l], [U.l k]] (Int.toNat (0 : Int)) []) (0 : Nat) (U.i (0 : Int)))))) + Int.ofNat (List.length (U.list (List.getD (List.getD [[U.l l], [U.l k]] (Int.toNat (IntKind.wrap IntKind.i64 ((0 : Int) + (1 : Int)))) []) (0 : Nat) (U.i (0 : Int)))))) - IntKind.wrap IntKind.i64 ((Nat.cast (0 : Nat) : Int) - (Nat.cast (0 : Nat) : Int))))) [U.i (0 : Int), U.i (0 : Int), U.s { data := #[] }])) + List.length (U.list (List.getD (List.getD [[U.l l], [U.l k]] (Int.toNat (0 : Int)) []) (0 : Nat) (U.i (0 : Int))))) (65536 : Nat)) Bool.true Bool.false)
              (bc (bc (Nat.beq (List.length (List.take (Int.toNat (Nat.cast (0 : Nat) : Int)) (List.replicate (Int.toNat (IntKind.wrap IntKind.i64 (IntKind.wrap IntKind.i64 (IntKind.wrap IntKind.i64 ((0 : Int) + Int.ofNat (List.length (U.list (List.getD (List.getD [[U.l l], [U.l k]] (Int.toNat (0 : Int)) []) (0 : Nat) (U.i (0 : Int)))))) + Int.ofNat (List.length (U.list (List.getD (List.getD [[U.l l], [U.l k]] (Int.toNat (IntKind.wrap IntKind.i64 ((0 : Int) + (1 : Int)))) []) (0 : Nat) (U.i (0 : Int)))))) - IntKind.wrap IntKind.i64 ((Nat.cast (0 : Nat) : Int) - (Nat.cast (0 : Nat) : Int))))) [U.i (0 : Int), U.i (0 : Int), U.s { data := #[] }]) ++ U.list (List.getD (List.getD [[U.l l], [U.l k]] (Int.toNat (0 : Int)) []) (0 : Nat) (U.i (0 : Int))))) (List.length (List.take (Int.toNat (Nat.cast (0 : Nat) : Int)) (List.replicate (Int.toNat (IntKind.wrap IntKind.i64 (IntKind.wrap IntKind.i64 (IntKind.wrap IntKind.i64 ((0 : Int) + Int.ofNat (List.length (U.list (List.getD (List.getD [[U.l l], [U.l k]] (Int.toNat (0 : Int)) []) (0 : Nat) (U.i (0 : Int)))))) + Int.ofNat (List.length (U.list (List.getD (List.getD [[U.l l], [U.l k]] (Int.toNat (IntKind.wrap IntKind.i64 ((0 : Int) + (1 : Int)))) []) (0 : Nat) (U.i (0 : Int)))))) - IntKind.wrap IntKind.i64 ((Nat.cast (0 : Nat) : Int) - (Nat.cast (0 : Nat) : Int))))) [U.i (0 : Int), U.i (0 : Int), U.s { data := #[] }]) ++ U.list (List.getD (List.getD [[U.l l], [U.l k]] (Int.toNat (0 : Int)) []) (0 : Nat) (U.i (0 : Int)))))) (bc (Nat.ble (List.length (List.take (Int.toNat (Nat.cast (0 : Nat) : Int)) (List.replicate (Int.toNat (IntKind.wrap IntKind.i64 (IntKind.wrap IntKind.i64 (IntKind.wrap IntKind.i64 ((0 : Int) + Int.ofNat (List.length (U.list (List.getD (List.getD [[U.l l], [U.l k]] (Int.toNat (0 : Int)) []) (0 : Nat) (U.i (0 : Int)))))) + Int.ofNat (List.length (U.list (List.getD (List.getD [[U.l l], [U.l k]] (Int.toNat (IntKind.wrap IntKind.i64 ((0 : Int) + (1 : Int)))) []) (0 : Nat) (U.i (0 : Int)))))) - IntKind.wrap IntKind.i64 ((Nat.cast (0 : Nat) : Int) - (Nat.cast (0 : Nat) : Int))))) [U.i (0 : Int), U.i (0 : Int), U.s { data := #[] }]) ++ U.list (List.getD (List.getD [[U.l l], [U.l k]] (Int.toNat (0 : Int)) []) (0 : Nat) (U.i (0 : Int)))) + List.length (U.list (List.getD (List.getD [[U.l l], [U.l k]] (Int.toNat (IntKind.wrap IntKind.i64 ((0 : Int) + (1 : Int)))) []) (0 : Nat) (U.i (0 : Int))))) (65536 : Nat)) Bool.true Bool.false) Bool.false)
                (bc (Nat.beq (List.length (List.take (Int.toNat (Nat.cast (0 : Nat) : Int)) (List.replicate (Int.toNat (IntKind.wrap IntKind.i64 (IntKind.wrap IntKind.i64 (IntKind.wrap IntKind.i64 ((0 : Int) + Int.ofNat (List.length (U.list (List.getD (List.getD [[U.l l], [U.l k]] (Int.toNat (0 : Int)) []) (0 : Nat) (U.i (0 : Int)))))) + Int.ofNat (List.length (U.list (List.getD (List.getD [[U.l l], [U.l k]] (Int.toNat (IntKind.wrap IntKind.i64 ((0 : Int) + (1 : Int)))) []) (0 : Nat) (U.i (0 : Int)))))) - IntKind.wrap IntKind.i64 ((Nat.cast (0 : Nat) : Int) - (Nat.cast (0 : Nat) : Int))))) [U.i (0 : Int), U.i (0 : Int), U.s { data := #[] }]) ++ U.list (List.getD (List.getD [[U.l l], [U.l k]] (Int.toNat (0 : Int)) []) (0 : Nat) (U.i (0 : Int))) ++ U.list (List.getD (List.getD [[U.l l], [U.l k]] (Int.toNat (IntKind.wrap IntKind.i64 ((0 : Int) + (1 : Int)))) []) (0 : Nat) (U.i (0 : Int))))) (List.length (List.take (Int.toNat (Nat.cast (0 : Nat) : Int)) (List.replicate (Int.toNat (IntKind.wrap IntKind.i64 (IntKind.wrap IntKind.i64 (IntKind.wrap IntKind.i64 ((0 : Int) + Int.ofNat (List.length (U.list (List.getD (List.getD [[U.l l], [U.l k]] (Int.toNat (0 : Int)) []) (0 : Nat) (U.i (0 : Int)))))) + Int.ofNat (List.length (U.list (List.getD (List.getD [[U.l l], [U.l k]] (Int.toNat (IntKind.wrap IntKind.i64 ((0 : Int) + (1 : Int)))) []) (0 : Nat) (U.i (0 : Int)))))) - IntKind.wrap IntKind.i64 ((Nat.cast (0 : Nat) : Int) - (Nat.cast (0 : Nat) : Int))))) [U.i (0 : Int), U.i (0 : Int), U.s { data := #[] }]) ++ U.list (List.getD (List.getD [[U.l l], [U.l k]] (Int.toNat (0 : Int)) []) (0 : Nat) (U.i (0 : Int))) ++ U.list (List.getD (List.getD [[U.l l], [U.l k]] (Int.toNat (IntKind.wrap IntKind.i64 ((0 : Int) + (1 : Int)))) []) (0 : Nat) (U.i (0 : Int))))))
                  (.done (EV.lst (SyC.recs [(Sh.int IntKind.i64), (Sh.int IntKind.i64), Sh.str] (List.take (Int.toNat (Nat.cast (0 : Nat) : Int)) (List.replicate (Int.toNat (IntKind.wrap IntKind.i64 (IntKind.wrap IntKind.i64 (IntKind.wrap IntKind.i64 ((0 : Int) + Int.ofNat (List.length (U.list (List.getD (List.getD [[U.l l], [U.l k]] (Int.toNat (0 : Int)) []) (0 : Nat) (U.i (0 : Int)))))) + Int.ofNat (List.length (U.list (List.getD (List.getD [[U.l l], [U.l k]] (Int.toNat (IntKind.wrap IntKind.i64 ((0 : Int) + (1 : Int)))) []) (0 : Nat) (U.i (0 : Int)))))) - IntKind.wrap IntKind.i64 ((Nat.cast (0 : Nat) : Int) - (Nat.cast (0 : Nat) : Int))))) [U.i (0 : Int), U.i (0 : Int), U.s { data := #[] }]) ++ U.list (List.getD (List.getD [[U.l l], [U.l k]] (Int.toNat (0 : Int)) []) (0 : Nat) (U.i (0 : Int))) ++ U.list (List.getD (List.getD [[U.l l], [U.l k]] (Int.toNat (IntKind.wrap IntKind.i64 ((0 : Int) + (1 : Int)))) []) (0 : Nat) (U.i (0 : Int)))))) [] 0)
                  .bad)
                .bad)
              .bad)
            .bad)
          .bad)
        (bc (bc (Nat.ble ((0 : Nat) + List.length (U.list (List.getD (List.getD [[U.l l], [U.l k]] (Int.toNat (0 : Int)) []) (0 : Nat) (U.i (0 : Int))))) (65536 : Nat)) Bool.true Bool.false)
          (bc (bc (Nat.beq (List.length ([] ++ U.list (List.getD (List.getD [[U.l l], [U.l k]] (Int.toNat (0 : Int)) []) (0 : Nat) (U.i (0 : Int))))) (List.length ([] ++ U.list (List.getD (List.getD [[U.l l], [U.l k]] (Int.toNat (0 : Int)) []) (0 : Nat) (U.i (0 : Int)))))) (bc (Nat.ble (List.length ([] ++ U.list (List.getD (List.getD [[U.l l], [U.l k]] (Int.toNat (0 : Int)) []) (0 : Nat) (U.i (0 : Int)))) + List.length (U.list (List.getD (List.getD [[U.l l], [U.l k]] (Int.toNat (IntKind.wrap IntKind.i64 ((0 : Int) + (1 : Int)))) []) (0 : Nat) (U.i (0 : Int))))) (65536 : Nat)) (bc (Nat.blt (0 : Nat) (List.length (U.list (List.getD (List.getD [[U.l l], [U.l k]] (Int.toNat (0 : Int)) []) (0 : Nat) (U.i (0 : Int)))))) Bool.true (bc (Nat.blt (0 : Nat) (List.length (U.list (List.getD (List.getD [[U.l l], [U.l k]] (Int.toNat (0 : Int)) []) (0 : Nat) (U.i (0 : Int)))))) Bool.false Bool.true)) Bool.false) Bool.false)
            (bc (Nat.beq (List.length ([] ++ U.list (List.getD (List.getD [[U.l l], [U.l k]] (Int.toNat (0 : Int)) []) (0 : Nat) (U.i (0 : Int))) ++ U.list (List.getD (List.getD [[U.l l], [U.l k]] (Int.toNat (IntKind.wrap IntKind.i64 ((0 : Int) + (1 : Int)))) []) (0 : Nat) (U.i (0 : Int))))) (List.length ([] ++ U.list (List.getD (List.getD [[U.l l], [U.l k]] (Int.toNat (0 : Int)) []) (0 : Nat) (U.i (0 : Int))) ++ U.list (List.getD (List.getD [[U.l l], [U.l k]] (Int.toNat (IntKind.wrap IntKind.i64 ((0 : Int) + (1 : Int)))) []) (0 : Nat) (U.i (0 : Int))))))
              (.done (EV.lst (SyC.recs [(Sh.int IntKind.i64), (Sh.int IntKind.i64), Sh.str] ([] ++ U.list (List.getD (List.getD [[U.l l], [U.l k]] (Int.toNat (0 : Int)) []) (0 : Nat) (U.i (0 : Int))) ++ U.list (List.getD (List.getD [[U.l l], [U.l k]] (Int.toNat (IntKind.wrap IntKind.i64 ((0 : Int) + (1 : Int)))) []) (0 : Nat) (U.i (0 : Int)))))) [] 0)
              .bad)
            .bad)
          .bad))))) := by kernel_rfl
theorem ends (l k : List (List U)) (hl : l.length ≤ 1000) (hk : k.length ≤ 1000) : EndZ 72 .nil false (st0 72 [l2 l k]) (wl (l ++ k)) [] 0 := by
  have h := in_t l k
  have e1 : U.list (List.getD (List.getD [[U.l l], [U.l k]] (Int.toNat 0) []) 0 (U.i 0)) = l := rfl
  have e2 : U.list (List.getD (List.getD [[U.l l], [U.l k]] (Int.toNat (IntKind.wrap IntKind.i64 (0 + 1))) []) 0 (U.i 0)) = k := rfl
  have e3 : IntKind.wrap IntKind.i64 ((Nat.cast 0 : Int) - (Nat.cast 0 : Int)) = 0 := rfl
  have e4 : (Int.toNat (Nat.cast 0 : Int)) = 0 := rfl
  have w1 : IntKind.wrap IntKind.i64 (0 + (l.length : Int)) = l.length := by simp (disch := omega) only [Int.zero_add, wrap_in]
  have w2 : IntKind.wrap IntKind.i64 ((l.length : Int) + (k.length : Int)) = l.length + k.length := by simp (disch := omega) only [wrap_in]
  have w3 : IntKind.wrap IntKind.i64 ((l.length : Int) + (k.length : Int) - 0) = l.length + k.length := by simp (disch := omega) only [Int.sub_zero, wrap_in]
  simp only [e1, e2, e3, e4, ofn, w1, w2, w3] at h
  have d1 : ¬ (l.length : Int) < 0 := by omega
  have d2 : ¬ (l.length : Int) + (k.length : Int) < 0 := by omega
  simp only [df d1, df d2, bc_f] at h
  by_cases h0 : (0 : Int) < (l.length : Int) + (k.length : Int)
  · have d3 : (l.length : Int) + (k.length : Int) ≤ 4096 := by omega
    simp (disch := omega) only [Nat.add_eq, eqSy_self, eqN_self, bc_same, List.length_cons, ofn, wrap_in, dt, df, bltD, bltN, ble_of, bleN, beqD, bc_t, bc_f, nn_ok, Nat.zero_add, to_nat, Int.zero_add, Int.sub_zero, Int.sub_self, Int.cast_ofNat_Int, Int.natCast_zero, Int.toNat_zero, List.take_zero, List.nil_append, List.length_append, List.length_nil, dt h0, dt d3, bc_t, List.take_zero, List.length_nil, List.nil_append, List.length_replicate, Nat.zero_add] at h
    exact .done h
  · have z1 : l = [] := List.eq_nil_of_length_eq_zero (by omega)
    have z2 : k = [] := List.eq_nil_of_length_eq_zero (by omega)
    subst z1; subst z2
    exact .done h
end PCat
noncomputable def spCat : ZCT := fun ax => match ax with
  | [.lst (.recs [.list [.int .i64, .int .i64, .str]] [[.l l], [.l k]])] => some ⟨decide (l.length ≤ 1000 ∧ k.length ≤ 1000), .lst (.recs [.int .i64, .int .i64, .str] (l ++ k)), [], 0⟩
  | _ => none
theorem spCat_ok : ZCtOk Try.prog 72 spCat := fun γ w us ax r hs hc hax hN hfz => by
  unfold spCat at hs
  split at hs
  case h_2 => cases hs
  rename_i l k
  obtain ⟨rfl⟩ := Option.some.inj hs
  have hc_0 : decide (l.length ≤ 1000 ∧ k.length ≤ 1000) = true := hc
  have hc := of_decide_eq_true hc_0
  exact EndZ.calls (PCat.ends l k hc.1 hc.2) (.nil _) (by kernel_rfl) hax hN hfz
namespace PChg
noncomputable def RUN (s : ES) : ZF := RZ 58 .nil (atS 0 58 3) [] [[(2,none),(3,none),(4,none),(5,some (3, 81, .recs shW [])),(12,none),(13,none),(14,none)]] false s

noncomputable def sP (n a b : Int) (l : List (List U)) (i : Int) (q : List (List U)) (nn : Bool) : NS := ⟨[⟨58, 51, [(2, (EV.ptr 0 0)), (3, (EV.ptr 1 0)), (4, (EV.ptr 2 0)), (5, (EV.ptr 3 0)), (12, (EV.lst (SyC.recs [(Sh.int IntKind.i64), (Sh.int IntKind.i64), Sh.str] (l)))), (13, (EV.v (Value.int IntKind.i64 (Int.ofNat (List.length l))))), (14, iv i)], [.it (.code (nav [1, 1, 0, 1, 0, 0] (bodyOf Try.f58))), .it (.inLoop (nav [1, 1, 0, 1, 0, 0] (bodyOf Try.f58))), .it (.inBlock 0), .it (.code (nav [1, 1, 1] (bodyOf Try.f58)))], [], Option.none⟩], [(0, (EK.cells 24 [(EV.v (Value.int IntKind.i64 (n))), (EV.lst (SyC.recs [(Sh.int IntKind.i64), (Sh.int IntKind.i64), Sh.str] (l)))] true)), (1, (EK.cells 102 [(EV.v (Value.int IntKind.i64 (a))), (EV.v (Value.int IntKind.i64 (b))), (EV.v Value.nilFunc)] true)), (2, (EK.cells 24 [(EV.v (Value.int IntKind.i64 (0))), (EV.v (Value.slice Option.none 0 0))] true)), (3, EK.cells 24 [iv b, EV.slO 4 3 q.length nn] true), (4, EK.seq 81 (.recs shW q) nn)], 5⟩
theorem in_t (n a b : Int) (l : List (List U)) : RUN (st0 58 [.agg [iv n, wl l], .v (.agg ⟨[.int .i64 a, .int .i64 b, .nilFunc]⟩)]) = (.at (sP (n) (a) (b) (l) ((0 : Int)) ([]) (Bool.false))) := by kernel_rfl
theorem step_t (n a b : Int) (l : List (List U)) (i : Int) (q : List (List U)) (nn : Bool) : RUN (stOf (sP n a b l i q nn)) = (bc (Decidable.decide (i < Int.ofNat (List.length l)))
  (bc (bc (bc (Decidable.decide ((0 : Int) ≤ i)) (Nat.blt (Int.toNat i) (List.length l)) Bool.false) Bool.true Bool.false)
    (bc (bc (Nat.blt (Int.toNat i) (List.length l)) Bool.true Bool.false)
      (bc (bc (Nat.beq (List.length q) (List.length q)) (bc (Nat.ble (List.length q + List.length [[U.i (U.int (List.getD (List.getD l (Int.toNat i) []) (0 : Nat) (U.i (0 : Int)))), U.i (IntKind.wrap IntKind.i64 (U.int (List.getD (List.getD l (Int.toNat i) []) (Nat.succ (0 : Nat)) (U.i (0 : Int))) + a)), U.s (U.str (List.getD (List.getD l (Int.toNat i) []) (Nat.succ (Nat.succ (0 : Nat))) (U.i (0 : Int))))]]) (65536 : Nat)) (bc nn Bool.true (bc nn Bool.false Bool.true)) Bool.false) Bool.false)
        (.at (sP (n) (a) (b) (l) (IntKind.wrap IntKind.i64 (i + (1 : Int))) (q ++ [[U.i (U.int (List.getD (List.getD l (Int.toNat i) []) (0 : Nat) (U.i (0 : Int)))), U.i (IntKind.wrap IntKind.i64 (U.int (List.getD (List.getD l (Int.toNat i) []) (Nat.succ (0 : Nat)) (U.i (0 : Int))) + a)), U.s (U.str (List.getD (List.getD l (Int.toNat i) []) (Nat.succ (Nat.succ (0 : Nat))) (U.i (0 : Int))))]]) (bc nn Bool.true (Nat.blt (0 : Nat) (List.length [[U.i (U.int (List.getD (List.getD l (Int.toNat i) []) (0 : Nat) (U.i (0 : Int)))), U.i (IntKind.wrap IntKind.i64 (U.int (List.getD (List.getD l (Int.toNat i) []) (Nat.succ (0 : Nat)) (U.i (0 : Int))) + a)), U.s (U.str (List.getD (List.getD l (Int.toNat i) []) (Nat.succ (Nat.succ (0 : Nat))) (U.i (0 : Int))))]])))))
        .bad)
      .bad)
    .bad)
  (bc (bc (Nat.beq (List.length q) (List.length q)) Bool.true Bool.false)
    (.done (EV.agg [(EV.v (Value.int IntKind.i64 (b))), (EV.lst (SyC.recs [(Sh.int IntKind.i64), (Sh.int IntKind.i64), Sh.str] (q)))]) [] 0)
    .bad)) := by kernel_rfl
theorem step {n a b : Int} {l : List (List U)} {i : Nat} {q : List (List U)} {nn : Bool} (hi : i < l.length) (hl : l.length ≤ 1000) (hq : q.length ≤ 1000) (ha : 0 ≤ rA l[i] ∧ rA l[i] ≤ 1000) (hk : -1000 ≤ a ∧ a ≤ 1000) : RUN (stOf (sP n a b l i q nn)) = .at (sP n a b l (i + 1 : Nat) (q ++ [shR a l[i]]) true) := by
  rw [step_t]
  have e : l.getD i [] = l[i] := getD_at hi
  simp (disch := omega) only [Nat.add_eq, eqSy_self, eqN_self, bc_same, List.length_cons, ofn, wrap_in, dt, df, bltD, bltN, ble_of, bleN, beqD, bc_t, bc_f, nn_ok, Nat.zero_add, to_nat, Int.zero_add, Int.sub_zero, Int.sub_self, Int.cast_ofNat_Int, Int.natCast_zero, Int.toNat_zero, List.take_zero, List.nil_append, List.length_append, List.length_nil, e, fK0, fK1, fA0, fA1, fA2, fW0, fW1, fW2]
  rfl
theorem last {n a b : Int} {l : List (List U)} {i : Nat} {q : List (List U)} {nn : Bool} (hi : l.length ≤ i) : RUN (stOf (sP n a b l i q nn)) = .done (.agg [iv b, wl q]) [] 0 := by
  rw [step_t]
  simp (disch := omega) only [Nat.add_eq, eqSy_self, eqN_self, bc_same, List.length_cons, ofn, wrap_in, dt, df, bltD, bltN, ble_of, bleN, beqD, bc_t, bc_f, nn_ok, Nat.zero_add, to_nat, Int.zero_add, Int.sub_zero, Int.sub_self, Int.cast_ofNat_Int, Int.natCast_zero, Int.toNat_zero, List.take_zero, List.nil_append, List.length_append, List.length_nil]
  rfl
theorem loop {n a b : Int} {l : List (List U)} (hl : l.length ≤ 1000) (ha : AtOk l) (hk : -1000 ≤ a ∧ a ≤ 1000) : ∀ (m i : Nat) (q : List (List U)) (nn : Bool), i + m = l.length → q.length ≤ i → EndZ 58 .nil false (stOf (sP n a b l i q nn)) (.agg [iv b, wl (q ++ shL a (l.drop i))]) [] 0
  | 0, i, q, nn, h, hq => by
    rw [List.drop_eq_nil_of_le (by omega)]
    show EndZ _ _ _ _ (.agg [iv b, wl (q ++ [])]) _ _
    rw [List.append_nil]
    exact .done (last (by omega))
  | m + 1, i, q, nn, h, hq => by
    have hi : i < l.length := by omega
    rw [List.drop_eq_getElem_cons hi]
    show EndZ _ _ _ _ (.agg [iv b, wl (q ++ (shR a l[i] :: shL a (l.drop (i + 1))))]) _ _
    rw [show q ++ (shR a l[i] :: shL a (l.drop (i + 1))) = (q ++ [shR a l[i]]) ++ shL a (l.drop (i + 1)) by simp]
    exact .at (.nil _) (step hi hl (by omega) (ha _ (List.getElem_mem hi)) hk) (loop hl ha hk m (i + 1) _ true (by omega) (by simp; omega))
end PChg
noncomputable def spChg : ZCT := fun ax => match ax with
  | [.agg [.v (.int .i64 n), .lst (.recs [.int .i64, .int .i64, .str] l)], .v (.agg ⟨[.int .i64 a, .int .i64 b, .nilFunc]⟩)] => some ⟨decide (l.length ≤ 1000 ∧ AtOk l ∧ -1000 ≤ a ∧ a ≤ 1000), .agg [iv b, wl (shL a l)], [], 0⟩
  | _ => none
theorem spChg_ok : ZCtOk Try.prog 58 spChg := fun γ w us ax r hs hc hax hN hfz => by
  unfold spChg at hs
  split at hs
  case h_2 => cases hs
  rename_i n l a b
  obtain ⟨rfl⟩ := Option.some.inj hs
  have hc_0 : decide (l.length ≤ 1000 ∧ AtOk l ∧ -1000 ≤ a ∧ a ≤ 1000) = true := hc
  have hc := of_decide_eq_true hc_0
  exact EndZ.calls (.at (.nil _) (PChg.in_t n a b l) (by have := PChg.loop (n := n) (b := b) hc.1 hc.2.1 hc.2.2 l.length 0 [] false (by omega) (by simp); rw [List.nil_append] at this; exact this)) (.nil _) (by kernel_rfl) hax hN hfz
noncomputable def ctJ1 : Tr ZCC := ((ctP3.put 69 (some (dC spPChk4))).put 71 (some (dC spOr))).put 72 (some (dC spCat)) |>.put 58 (some (dC spChg))
theorem ctJ1_ok : ZCtsOk Try.prog ctJ1 := (((ctP3_ok.add rfl spPChk4_ok).add rfl spOr_ok).add rfl spCat_ok).add rfl spChg_ok
theorem uH (x : Int) : U.int (List.headD [U.i x] (U.i 0)) = x := rfl
theorem orBoth (n m : Int) (l k : List (List U)) : bc (chk4 n l != 0) (chk4 n l) (bc (chk4 m k != 0) (chk4 m k) 0) = both n m l k := by
  unfold both
  cases h1 : (chk4 n l != 0)
  · cases h2 : (chk4 m k != 0)
    · simp only [bc_f]; exact (ne0 h2).symm
    · simp only [bc_f, bc_t]
  · simp only [bc_t]
theorem both0 {n m : Int} {l k : List (List U)} (h : (both n m l k != 0) = false) : chk4 n l = 0 ∧ chk4 m k = 0 := by
  have h := ne0 h
  unfold both at h
  cases h1 : (chk4 n l != 0) <;> rw [h1] at h
  · exact ⟨ne0 h1, h⟩
  · simp only [bc_t] at h
    rw [h] at h1; cases h1
namespace PBes
noncomputable def RUN (s : ES) : ZF := RZ 36 ctJ1 (fun _ => false) [] [] false s
theorem in_t (n m : Int) (l k : List (List U)) : RUN (st0 36 (as2 n m l k)) = (bc (bc (U.int (List.headD [U.i (chk4 n l)] (U.i (0 : Int))) != (0 : Int)) (U.int (List.headD [U.i (chk4 n l)] (U.i (0 : Int)))) (bc (U.int (List.headD [U.i (chk4 m k)] (U.i (0 : Int))) != (0 : Int)) (U.int (List.headD [U.i (chk4 m k)] (U.i (0 : Int)))) (0 : Int)) != (0 : Int))
  (.done (EV.tup [(EV.v (Value.agg (Array.mk [(Value.int IntKind.i64 (0)), (Value.slice Option.none 0 0)]))), (EV.v (Value.int IntKind.i64 (bc (U.int (List.headD [U.i (chk4 n l)] (U.i (0 : Int))) != (0 : Int)) (U.int (List.headD [U.i (chk4 n l)] (U.i (0 : Int)))) (bc (U.int (List.headD [U.i (chk4 m k)] (U.i (0 : Int))) != (0 : Int)) (U.int (List.headD [U.i (chk4 m k)] (U.i (0 : Int)))) (0 : Int)))))]) [] 0)
  (bc (Decidable.decide ((24 : Int) < IntKind.wrap IntKind.i64 (n + m)))
    (.done (EV.tup [(EV.v (Value.agg (Array.mk [(Value.int IntKind.i64 (0)), (Value.slice Option.none 0 0)]))), (EV.v (Value.int IntKind.i64 (3)))]) [] 0)
    (bc (Decidable.decide ((400 : Int) < IntKind.wrap IntKind.i64 (Int.ofNat (List.length l) + Int.ofNat (List.length k))))
      (.done (EV.tup [(EV.v (Value.agg (Array.mk [(Value.int IntKind.i64 (0)), (Value.slice Option.none 0 0)]))), (EV.v (Value.int IntKind.i64 (3)))]) [] 0)
      (bc (Decidable.decide (List.length k ≤ (1000 : Nat) ∧ AtOk k ∧ (-1000 : Int) ≤ n ∧ n ≤ (1000 : Int)))
        (bc (bc (bc (Decidable.decide (List.length l ≤ (1000 : Nat) ∧ List.length (shL n k) ≤ (1000 : Nat))) Bool.true Bool.false) (bc (bc (bc (Decidable.decide (IntKind.wrap IntKind.i64 (n + m) = IntKind.wrap IntKind.i64 (n + m))) Bool.true Bool.false) Bool.true Bool.false) Bool.true Bool.false) Bool.false)
          (.done (EV.tup [(EV.agg [(EV.v (Value.int IntKind.i64 (IntKind.wrap IntKind.i64 (n + m)))), (EV.lst (SyC.recs [(Sh.int IntKind.i64), (Sh.int IntKind.i64), Sh.str] (l ++ shL n k)))]), (EV.v (Value.int IntKind.i64 (0)))]) [] 0)
          .bad)
        .bad)))) := by kernel_rfl
theorem ends (n m : Int) (l k : List (List U)) : EndZ 36 ctJ1 false (st0 36 (as2 n m l k)) (shE (besP n m l k) (besL n m l k) (besE n m l k)) [] 0 := by
  have h := in_t n m l k
  simp only [uH, orBoth] at h
  cases h1 : (both n m l k != 0) <;> rw [h1] at h
  · obtain ⟨e1, e2⟩ := both0 h1
    have v1 := chk4_ok e1
    have v2 := chk4_ok e2
    have g1 := v1.lo
    have g2 := v1.hi
    have g3 := v1.len
    have g4 := v2.lo
    have g5 := v2.hi
    have g6 := v2.len
    have e := besE0 e1 e2
    have hp := atS3 v2 n (by omega) (by omega)
    have hq : l.length ≤ 1000 ∧ (shL n k).length ≤ 1000 := ⟨by omega, by rw [shL_len]; omega⟩
    by_cases h3 : 24 < n + m
    · rw [dt h3, bc_t] at e
      simp (disch := omega) only [Nat.add_eq, eqSy_self, eqN_self, bc_same, List.length_cons, ofn, wrap_in, dt, df, bltD, bltN, ble_of, bleN, beqD, bc_t, bc_f, nn_ok, Nat.zero_add, to_nat, Int.zero_add, Int.sub_zero, Int.sub_self, Int.cast_ofNat_Int, Int.natCast_zero, Int.toNat_zero, List.take_zero, List.nil_append, List.length_append, List.length_nil] at h
      exact doneY h (besV e rfl).1.symm (besV e rfl).2.symm e.symm
    rw [df h3, bc_f] at e
    by_cases h4 : 400 < (l.length : Int) + (k.length : Int)
    · rw [dt h4, bc_t] at e
      simp (disch := omega) only [Nat.add_eq, eqSy_self, eqN_self, bc_same, List.length_cons, ofn, wrap_in, dt, df, bltD, bltN, ble_of, bleN, beqD, bc_t, bc_f, nn_ok, Nat.zero_add, to_nat, Int.zero_add, Int.sub_zero, Int.sub_self, Int.cast_ofNat_Int, Int.natCast_zero, Int.toNat_zero, List.take_zero, List.nil_append, List.length_append, List.length_nil] at h
      exact doneY h (besV e rfl).1.symm (besV e rfl).2.symm e.symm
    rw [df h4, bc_f] at e
    simp (disch := omega) only [Nat.add_eq, eqSy_self, eqN_self, bc_same, List.length_cons, ofn, wrap_in, dt, df, bltD, bltN, ble_of, bleN, beqD, bc_t, bc_f, nn_ok, Nat.zero_add, to_nat, Int.zero_add, Int.sub_zero, Int.sub_self, Int.cast_ofNat_Int, Int.natCast_zero, Int.toNat_zero, List.take_zero, List.nil_append, List.length_append, List.length_nil, dt hp, dt hq] at h
    exact doneX h (besV0 e).1.symm (besV0 e).2.symm e.symm
  · have e := besE1 (rfl : both n m l k = _) h1
    simp only [bc_t] at h
    exact doneY h (besV e h1).1.symm (besV e h1).2.symm e.symm
end PBes
noncomputable def spPBes : ZCT := fun ax => match ax with
  | [.agg [.v (.int .i64 n), .lst (.recs [.int .i64, .int .i64, .str] l)], .agg [.v (.int .i64 m), .lst (.recs [.int .i64, .int .i64, .str] k)]] => some ⟨decide (True), shE (besP n m l k) (besL n m l k) (besE n m l k), [], 0⟩
  | _ => none
theorem spPBes_ok : ZCtOk Try.prog 36 spPBes := fun γ w us ax r hs hc hax hN hfz => by
  unfold spPBes at hs
  split at hs
  case h_2 => cases hs
  rename_i n l m k
  obtain ⟨rfl⟩ := Option.some.inj hs
  have hc_0 : decide (True) = true := hc
  have hc := of_decide_eq_true hc_0
  exact EndZ.calls (PBes.ends n m l k) ctJ1_ok (by kernel_rfl) hax hN hfz
namespace PBel
noncomputable def RUN (s : ES) : ZF := RZ 35 ctJ1 (fun _ => false) [] [] false s
theorem in_t (n m : Int) (l k : List (List U)) : RUN (st0 35 (as2 n m l k)) = (bc (bc (U.int (List.headD [U.i (chk4 n l)] (U.i (0 : Int))) != (0 : Int)) (U.int (List.headD [U.i (chk4 n l)] (U.i (0 : Int)))) (bc (U.int (List.headD [U.i (chk4 m k)] (U.i (0 : Int))) != (0 : Int)) (U.int (List.headD [U.i (chk4 m k)] (U.i (0 : Int)))) (0 : Int)) != (0 : Int))
  (.done (EV.tup [(EV.v (Value.agg (Array.mk [(Value.int IntKind.i64 (0)), (Value.slice Option.none 0 0)]))), (EV.v (Value.int IntKind.i64 (bc (U.int (List.headD [U.i (chk4 n l)] (U.i (0 : Int))) != (0 : Int)) (U.int (List.headD [U.i (chk4 n l)] (U.i (0 : Int)))) (bc (U.int (List.headD [U.i (chk4 m k)] (U.i (0 : Int))) != (0 : Int)) (U.int (List.headD [U.i (chk4 m k)] (U.i (0 : Int)))) (0 : Int)))))]) [] 0)
  (bc (n != m)
    (.done (EV.tup [(EV.v (Value.agg (Array.mk [(Value.int IntKind.i64 (0)), (Value.slice Option.none 0 0)]))), (EV.v (Value.int IntKind.i64 (2)))]) [] 0)
    (bc (Decidable.decide ((400 : Int) < IntKind.wrap IntKind.i64 (Int.ofNat (List.length l) + Int.ofNat (List.length k))))
      (.done (EV.tup [(EV.v (Value.agg (Array.mk [(Value.int IntKind.i64 (0)), (Value.slice Option.none 0 0)]))), (EV.v (Value.int IntKind.i64 (3)))]) [] 0)
      (bc (bc (bc (Decidable.decide (List.length l ≤ (1000 : Nat) ∧ List.length k ≤ (1000 : Nat))) Bool.true Bool.false) (bc (bc (bc (Decidable.decide (n = n)) Bool.true Bool.false) Bool.true Bool.false) Bool.true Bool.false) Bool.false)
        (.done (EV.tup [(EV.agg [(EV.v (Value.int IntKind.i64 (n))), (EV.lst (SyC.recs [(Sh.int IntKind.i64), (Sh.int IntKind.i64), Sh.str] (l ++ k)))]), (EV.v (Value.int IntKind.i64 (0)))]) [] 0)
        .bad)))) := by kernel_rfl
theorem ends (n m : Int) (l k : List (List U)) : EndZ 35 ctJ1 false (st0 35 (as2 n m l k)) (shE (belP n m l k) (belL n m l k) (belE n m l k)) [] 0 := by
  have h := in_t n m l k
  simp only [uH, orBoth] at h
  cases h1 : (both n m l k != 0) <;> rw [h1] at h
  · obtain ⟨e1, e2⟩ := both0 h1
    have v1 := chk4_ok e1
    have v2 := chk4_ok e2
    have g3 := v1.len
    have g6 := v2.len
    have e := belE0 e1 e2
    have hq : l.length ≤ 1000 ∧ k.length ≤ 1000 := ⟨by omega, by omega⟩
    cases h3 : (n != m) <;> rw [h3] at e h
    · rw [bc_f] at e
      by_cases h4 : 400 < (l.length : Int) + (k.length : Int)
      · rw [dt h4, bc_t] at e
        simp (disch := omega) only [Nat.add_eq, eqSy_self, eqN_self, bc_same, List.length_cons, ofn, wrap_in, dt, df, bltD, bltN, ble_of, bleN, beqD, bc_t, bc_f, nn_ok, Nat.zero_add, to_nat, Int.zero_add, Int.sub_zero, Int.sub_self, Int.cast_ofNat_Int, Int.natCast_zero, Int.toNat_zero, List.take_zero, List.nil_append, List.length_append, List.length_nil] at h
        exact doneY h (belV e rfl).1.symm (belV e rfl).2.symm e.symm
      rw [df h4, bc_f] at e
      simp (disch := omega) only [Nat.add_eq, eqSy_self, eqN_self, bc_same, List.length_cons, ofn, wrap_in, dt, df, bltD, bltN, ble_of, bleN, beqD, bc_t, bc_f, nn_ok, Nat.zero_add, to_nat, Int.zero_add, Int.sub_zero, Int.sub_self, Int.cast_ofNat_Int, Int.natCast_zero, Int.toNat_zero, List.take_zero, List.nil_append, List.length_append, List.length_nil, dt hq] at h
      exact doneX h (belV0 e).1.symm (belV0 e).2.symm e.symm
    · rw [bc_t] at e
      exact doneY h (belV e rfl).1.symm (belV e rfl).2.symm e.symm
  · have e := belE1 (rfl : both n m l k = _) h1
    simp only [bc_t] at h
    exact doneY h (belV e h1).1.symm (belV e h1).2.symm e.symm
end PBel
noncomputable def spPBel : ZCT := fun ax => match ax with
  | [.agg [.v (.int .i64 n), .lst (.recs [.int .i64, .int .i64, .str] l)], .agg [.v (.int .i64 m), .lst (.recs [.int .i64, .int .i64, .str] k)]] => some ⟨decide (True), shE (belP n m l k) (belL n m l k) (belE n m l k), [], 0⟩
  | _ => none
theorem spPBel_ok : ZCtOk Try.prog 35 spPBel := fun γ w us ax r hs hc hax hN hfz => by
  unfold spPBel at hs
  split at hs
  case h_2 => cases hs
  rename_i n l m k
  obtain ⟨rfl⟩ := Option.some.inj hs
  have hc_0 : decide (True) = true := hc
  have hc := of_decide_eq_true hc_0
  exact EndZ.calls (PBel.ends n m l k) ctJ1_ok (by kernel_rfl) hax hN hfz
end Go.Proofs.Ytkbebiebaenbdaa.Ev
namespace Go.Proofs.Ytkbebiebaenbdaa.Ev
open Go.Proofs
noncomputable def trB (t : ByteArray) (c : Int) : Int := byteAt t (idx bLet c).toNat
theorem bytesL_len (w : ByteArray) : (bytesL w).length = w.size := by unfold bytesL; rw [List.length_map, Array.length_toList]; rfl
theorem bytesL_at {w : ByteArray} {i : Nat} (hi : i < w.size) : (bytesL w)[i]'(by rw [bytesL_len]; exact hi) = byteAt w i := by
  have hl : i < w.data.toList.length := by rw [Array.length_toList]; exact hi
  unfold bytesL byteAt
  rw [List.getElem_map, getD_at hl]
theorem strOfNums_snoc (p : List Int) (t : ByteArray) (j : Nat) (h : j < t.size) : strOfNums p ++ t.extract j (j + 1) = strOfNums (p ++ [byteAt t j]) := by
  have hl : j < t.data.toList.length := by rw [Array.length_toList]; exact h
  apply ByteArray.ext
  apply Array.ext'
  rw [ByteArray.data_append, Array.toList_append, ByteArray.data_extract, Array.toList_extract, strOfNums_data, strOfNums_data, List.map_append]
  congr 1
  unfold byteAt
  rw [getD_at hl, List.extract_eq_take_drop]
  rw [show j + 1 - j = 1 by omega, List.drop_eq_getElem_cons hl]
  simp
theorem chgB_eq {t w : ByteArray} (ht : t.size = 9) : ∀ (k i : Nat) (p : List Int), i + k = w.size → badF w i k = false → chgB t w i (strOfNums p) k = strOfNums (p ++ ((bytesL w).drop i).map (trB t))
  | 0, i, p, h, hb => by
    rw [List.drop_eq_nil_of_le (by rw [bytesL_len]; omega)]
    show strOfNums p = strOfNums (p ++ [])
    rw [List.append_nil]
  | k + 1, i, p, h, hb => by
    unfold badF at hb
    have h0 : ¬ idx bLet (byteAt w i) < 0 := fun h => by rw [dt h, bc_t] at hb; cases hb
    rw [df h0, bc_f] at hb
    have h9 : idx bLet (byteAt w i) < 9 := idx_lt bLet _
    have hi : i < w.size := by omega
    rw [List.drop_eq_getElem_cons (show i < (bytesL w).length by rw [bytesL_len]; exact hi), bytesL_at hi, List.map_cons]
    unfold chgB
    rw [strOfNums_snoc p t _ (by omega), chgB_eq ht k (i + 1) _ (by omega) hb, List.append_assoc]
    rfl
namespace PExc
noncomputable def RUN (s : ES) : ZF := RZ 94 ctP2 (atS 0 94 6) [] [[(1,none),(7,none),(17,none),(18,none),(19,none)]] false s

noncomputable def sX (t : ByteArray) (m : Nat) (i : Int) (q : List Int) : NS := ⟨[⟨94, 34, [(1, sv t), (7, EV.slO 0 1 m true), (17, EV.slO 0 1 m true), (18, iv m), (19, iv i)], [.it (.code (nav [1, 1, 1, 0, 1, 0, 0] (bodyOf Try.f94))), .it (.inLoop (nav [1, 1, 1, 0, 1, 0, 0] (bodyOf Try.f94))), .it (.inBlock 0), .it (.code (nav [1, 1, 1, 1] (bodyOf Try.f94)))], [], Option.none⟩], [(0, EK.seq 5 (.ints .u8 q) true)], 1⟩
theorem step_t (t : ByteArray) (m : Nat) (i : Int) (q : List Int) : RUN (stOf (sX t m i q)) = (bc (Decidable.decide (i < (Nat.cast m : Int)))
  (bc (bc (bc (Decidable.decide ((0 : Int) ≤ i)) (Nat.blt (Int.toNat i) m) Bool.false) Bool.true Bool.false)
    (bc (bc (Nat.blt (Int.toNat i) (List.length q)) Bool.true Bool.false)
      (bc (bc (bc (Decidable.decide ((0 : Int) ≤ List.getD q (Int.toNat i) (0 : Int))) (Decidable.decide (List.getD q (Int.toNat i) (0 : Int) < (256 : Int))) Bool.false) Bool.true Bool.false)
        (bc (bc (bc (Decidable.decide ((0 : Int) ≤ idx { data := #[(67 : UInt8), (84 : UInt8), (76 : UInt8), (82 : UInt8), (80 : UInt8), (99 : UInt8), (116 : UInt8), (108 : UInt8), (114 : UInt8)] } (List.getD q (Int.toNat i) (0 : Int)))) (Nat.blt (Int.toNat (idx { data := #[(67 : UInt8), (84 : UInt8), (76 : UInt8), (82 : UInt8), (80 : UInt8), (99 : UInt8), (116 : UInt8), (108 : UInt8), (114 : UInt8)] } (List.getD q (Int.toNat i) (0 : Int)))) (ByteArray.size t)) Bool.false) Bool.true Bool.false)
          (bc (bc (bc (Decidable.decide ((0 : Int) ≤ i)) (Nat.blt (Int.toNat i) m) Bool.false) Bool.true Bool.false)
            (bc (Nat.blt (Int.toNat i) (List.length q))
              (.at (sX (t) (m) (IntKind.wrap IntKind.i64 (i + (1 : Int))) (List.set q (Int.toNat i) (byteAt t (Int.toNat (idx { data := #[(67 : UInt8), (84 : UInt8), (76 : UInt8), (82 : UInt8), (80 : UInt8), (99 : UInt8), (116 : UInt8), (108 : UInt8), (114 : UInt8)] } (List.getD q (Int.toNat i) (0 : Int))))))))
              .bad)
            .bad)
          .bad)
        .bad)
      .bad)
    .bad)
  (bc (bc (Nat.beq m (List.length q)) Bool.true Bool.false)
    (.done (EV.tup [(EV.v (Value.string (strOfNums q))), (EV.v (Value.int IntKind.i64 (0)))]) [] 0)
    .bad)) := by kernel_rfl
theorem in_t (w t : ByteArray) : RUN (st0 94 [sv w, sv t]) = (bc (chk3 w != (0 : Int))
  (.done (EV.tup [(EV.v (Value.string (ByteArray.mk #[]))), (EV.v (Value.int IntKind.i64 (chk3 w)))]) [] 0)
  (bc (Nat.ble (ByteArray.size w) (65536 : Nat))
    (.at (sX (t) (ByteArray.size w) ((0 : Int)) (List.map (fun b => Int.ofNat (UInt8.toNat b)) (Array.toList (ByteArray.data w)))))
    .bad)) := by kernel_rfl
theorem step {t : ByteArray} {m i j : Nat} {q : List Int} {c : Int} (hi : i < m) (hm : q.length = m) (hmm : m ≤ 16) (ht : t.size = 9) (hc : q.getD i 0 = c) (c0 : 0 ≤ c) (c1 : c < 256) (hj : idx bLet c = (j : Int)) (hj9 : j < 9) : RUN (stOf (sX t m i q)) = .at (sX t m (i + 1 : Nat) (q.set i (byteAt t j))) := by
  rw [step_t]
  have e0 : List.getD q (Int.toNat (i : Int)) 0 = c := hc
  have e : idx (ByteArray.mk #[(67 : UInt8), (84 : UInt8), (76 : UInt8), (82 : UInt8), (80 : UInt8), (99 : UInt8), (116 : UInt8), (108 : UInt8), (114 : UInt8)]) c = (j : Int) := hj
  simp only [e0, e]
  simp (disch := omega) only [Nat.add_eq, eqSy_self, eqN_self, bc_same, List.length_cons, ofn, wrap_in, dt, df, bltD, bltN, ble_of, bleN, beqD, bc_t, bc_f, nn_ok, Nat.zero_add, to_nat, Int.zero_add, Int.sub_zero, Int.sub_self, Int.cast_ofNat_Int, Int.natCast_zero, Int.toNat_zero, List.take_zero, List.nil_append, List.length_append, List.length_nil, Int.toNat_natCast, ht]
  rfl
theorem last {t : ByteArray} {m i : Nat} {q : List Int} (hi : m ≤ i) (hm : q.length = m) : RUN (stOf (sX t m i q)) = .done (.tup [sv (strOfNums q), iv 0]) [] 0 := by
  rw [step_t]
  subst hm
  simp (disch := omega) only [Nat.add_eq, eqSy_self, eqN_self, bc_same, List.length_cons, ofn, wrap_in, dt, df, bltD, bltN, ble_of, bleN, beqD, bc_t, bc_f, nn_ok, Nat.zero_add, to_nat, Int.zero_add, Int.sub_zero, Int.sub_self, Int.cast_ofNat_Int, Int.natCast_zero, Int.toNat_zero, List.take_zero, List.nil_append, List.length_append, List.length_nil]
theorem loop {w t : ByteArray} (hw : w.size ≤ 16) (ht : t.size = 9) : ∀ (k i : Nat) (p : List Int), i + k = w.size → p.length = i → badF w i k = false → EndZ 94 ctP2 false (stOf (sX t w.size i (p ++ (bytesL w).drop i))) (.tup [sv (strOfNums (p ++ ((bytesL w).drop i).map (trB t))), iv 0]) [] 0
  | 0, i, p, h, hp, hb => by
    rw [List.drop_eq_nil_of_le (by rw [bytesL_len]; omega)]
    exact .done (last (by omega) (by rw [List.length_append, List.length_nil]; omega))
  | k + 1, i, p, h, hp, hb => by
    unfold badF at hb
    have h0 : ¬ idx bLet (byteAt w i) < 0 := fun h => by rw [dt h, bc_t] at hb; cases hb
    rw [df h0, bc_f] at hb
    obtain ⟨j, hj⟩ := Int.eq_ofNat_of_zero_le (show 0 ≤ idx bLet (byteAt w i) by omega)
    have h9 : idx bLet (byteAt w i) < 9 := idx_lt bLet _
    have hi : i < w.size := by omega
    have hbl := bytesL_len w
    have hd : (bytesL w).drop i = byteAt w i :: (bytesL w).drop (i + 1) := by rw [List.drop_eq_getElem_cons (by omega), bytesL_at hi]
    have hlen : (p ++ (bytesL w).drop i).length = w.size := by rw [List.length_append, List.length_drop]; omega
    have hg : (p ++ (bytesL w).drop i).getD i 0 = byteAt w i := by
      rw [hd, List.getD_eq_getElem?_getD, List.getElem?_append_right (by omega), hp, Nat.sub_self]; rfl
    have hset : (p ++ (bytesL w).drop i).set i (byteAt t j) = (p ++ [byteAt t j]) ++ (bytesL w).drop (i + 1) := by
      rw [hd, List.set_append_right _ _ (by omega), hp, Nat.sub_self, List.set_cons_zero, List.append_assoc]; rfl
    have htr : trB t (byteAt w i) = byteAt t j := by unfold trB; rw [hj]; rfl
    have hs := step hi hlen hw ht hg (byteAt_lo w i) (byteAt_hi w i) hj (by omega)
    rw [hset] at hs
    have key := loop hw ht k (i + 1) (p ++ [byteAt t j]) (by omega) (by rw [List.length_append, hp]; rfl) hb
    rw [show p ++ ((bytesL w).drop i).map (trB t) = (p ++ [byteAt t j]) ++ ((bytesL w).drop (i + 1)).map (trB t) by rw [hd, List.map_cons, htr, List.append_assoc]; rfl]
    exact .at ctP2_ok hs key
theorem ends (w t : ByteArray) (ht : t.size = 9) : EndZ 94 ctP2 false (st0 94 [sv w, sv t]) (.tup [sv (chgW t w), iv (chk3 w)]) [] 0 := by
  have h := in_t w t
  unfold chgW
  cases h1 : (chk3 w != 0) <;> rw [h1] at h
  · have e := ne0 h1
    obtain ⟨h3, h4⟩ := chk3_0 e
    rw [bc_f, ble_of (by omega), bc_t] at h
    rw [e]
    have key := loop h3 ht w.size 0 [] (by omega) rfl h4
    have e2 : chg t w = strOfNums ([] ++ ((bytesL w).drop 0).map (trB t)) := chgB_eq ht w.size 0 [] (by omega) h4
    rw [← e2] at key
    exact .at ctP2_ok h key
  · exact .done h
end PExc
noncomputable def spExc : ZCT := fun ax => match ax with
  | [.v (.string w), .v (.string t)] => some ⟨decide (t.size = 9), .tup [sv (chgW t w), iv (chk3 w)], [], 0⟩
  | _ => none
theorem spExc_ok : ZCtOk Try.prog 94 spExc := fun γ w us ax r hs hc hax hN hfz => by
  unfold spExc at hs
  split at hs
  case h_2 => cases hs
  rename_i w t
  obtain ⟨rfl⟩ := Option.some.inj hs
  have hc_0 : decide (t.size = 9) = true := hc
  have hc := of_decide_eq_true hc_0
  exact EndZ.calls (PExc.ends w t hc) ctP2_ok (by kernel_rfl) hax hN hfz
noncomputable def ctE : Tr ZCC := ctP2.put 94 (some (dC spExc))
theorem ctE_ok : ZCtsOk Try.prog ctE := ctP2_ok.add rfl spExc_ok
namespace PWFlip
noncomputable def RUN (s : ES) : ZF := RZ 65 ctE (fun _ => false) [] [] false s
theorem in_t (w : ByteArray) : RUN (st0 65 [sv w]) = (.done (EV.tup [(EV.v (Value.string (chgW { data := #[(67 : UInt8), (84 : UInt8), (82 : UInt8), (76 : UInt8), (80 : UInt8), (99 : UInt8), (116 : UInt8), (114 : UInt8), (108 : UInt8)] } w))), (EV.v (Value.int IntKind.i64 (chk3 w)))]) [] 0) := by kernel_rfl
end PWFlip
namespace PWMir
noncomputable def RUN (s : ES) : ZF := RZ 67 ctE (fun _ => false) [] [] false s
theorem in_t (w : ByteArray) : RUN (st0 67 [sv w]) = (.done (EV.tup [(EV.v (Value.string (chgW { data := #[(99 : UInt8), (116 : UInt8), (114 : UInt8), (108 : UInt8), (80 : UInt8), (67 : UInt8), (84 : UInt8), (82 : UInt8), (76 : UInt8)] } w))), (EV.v (Value.int IntKind.i64 (chk3 w)))]) [] 0) := by kernel_rfl
end PWMir
noncomputable def spPWF : ZCT := fun ax => match ax with
  | [.v (.string w)] => some ⟨decide (True), .tup [sv (chgW bFlip w), iv (chk3 w)], [], 0⟩
  | _ => none
theorem spPWF_ok : ZCtOk Try.prog 65 spPWF := fun γ w us ax r hs hc hax hN hfz => by
  unfold spPWF at hs
  split at hs
  case h_2 => cases hs
  rename_i w
  obtain ⟨rfl⟩ := Option.some.inj hs
  have hc_0 : decide (True) = true := hc
  have hc := of_decide_eq_true hc_0
  exact EndZ.calls (.done (PWFlip.in_t w)) ctE_ok (by kernel_rfl) hax hN hfz
noncomputable def spPWM : ZCT := fun ax => match ax with
  | [.v (.string w)] => some ⟨decide (True), .tup [sv (chgW bMir w), iv (chk3 w)], [], 0⟩
  | _ => none
theorem spPWM_ok : ZCtOk Try.prog 67 spPWM := fun γ w us ax r hs hc hax hN hfz => by
  unfold spPWM at hs
  split at hs
  case h_2 => cases hs
  rename_i w
  obtain ⟨rfl⟩ := Option.some.inj hs
  have hc_0 : decide (True) = true := hc
  have hc := of_decide_eq_true hc_0
  exact EndZ.calls (.done (PWMir.in_t w)) ctE_ok (by kernel_rfl) hax hN hfz
noncomputable def ctH : Tr ZCC := (ctJ1.put 65 (some (dC spPWF))).put 67 (some (dC spPWM))
theorem ctH_ok : ZCtsOk Try.prog ctH := (ctJ1_ok.add rfl spPWF_ok).add rfl spPWM_ok
namespace PChF
noncomputable def RUN (s : ES) : ZF := RZ 58 ctH (atS 0 58 3) [] [[(2,none),(3,none),(4,none),(5,some (3, 81, .recs shW [])),(12,none),(13,none),(14,none)]] false s

noncomputable def sP (n a b : Int) (l : List (List U)) (i : Int) (q : List (List U)) (nn : Bool) : NS := ⟨[⟨58, 51, [(2, (EV.ptr 0 0)), (3, (EV.ptr 1 0)), (4, (EV.ptr 2 0)), (5, (EV.ptr 3 0)), (12, (EV.lst (SyC.recs [(Sh.int IntKind.i64), (Sh.int IntKind.i64), Sh.str] (l)))), (13, (EV.v (Value.int IntKind.i64 (Int.ofNat (List.length l))))), (14, iv i)], [.it (.code (nav [1, 1, 0, 1, 0, 0] (bodyOf Try.f58))), .it (.inLoop (nav [1, 1, 0, 1, 0, 0] (bodyOf Try.f58))), .it (.inBlock 0), .it (.code (nav [1, 1, 1] (bodyOf Try.f58)))], [], Option.none⟩], [(0, (EK.cells 24 [(EV.v (Value.int IntKind.i64 (n))), (EV.lst (SyC.recs [(Sh.int IntKind.i64), (Sh.int IntKind.i64), Sh.str] (l)))] true)), (1, (EK.cells 102 [(EV.v (Value.int IntKind.i64 (a))), (EV.v (Value.int IntKind.i64 (b))), (EV.fn 65 [])] true)), (2, (EK.cells 24 [(EV.v (Value.int IntKind.i64 (0))), (EV.v (Value.slice Option.none 0 0))] true)), (3, EK.cells 24 [iv b, EV.slO 4 3 q.length nn] true), (4, EK.seq 81 (.recs shW q) nn)], 5⟩
theorem in_t (n a b : Int) (l : List (List U)) : RUN (st0 58 [.agg [iv n, wl l], .agg [iv a, iv b, .fn 65 []]]) = (.at (sP (n) (a) (b) (l) ((0 : Int)) ([]) (Bool.false))) := by kernel_rfl
theorem step_t (n a b : Int) (l : List (List U)) (i : Int) (q : List (List U)) (nn : Bool) : RUN (stOf (sP n a b l i q nn)) = (bc (Decidable.decide (i < Int.ofNat (List.length l)))
  (bc (bc (bc (Decidable.decide ((0 : Int) ≤ i)) (Nat.blt (Int.toNat i) (List.length l)) Bool.false) Bool.true Bool.false)
    (bc (bc (Nat.blt (Int.toNat i) (List.length l)) Bool.true Bool.false)
      (bc (bc (Nat.beq (List.length q) (List.length q)) (bc (Nat.ble (List.length q + List.length [[U.i (U.int (List.getD (List.getD l (Int.toNat i) []) (0 : Nat) (U.i (0 : Int)))), U.i (IntKind.wrap IntKind.i64 (IntKind.wrap IntKind.i64 (n - (2 : Int)) - U.int (List.getD (List.getD l (Int.toNat i) []) (Nat.succ (0 : Nat)) (U.i (0 : Int))))), U.s (chgW bFlip (U.str (List.getD (List.getD l (Int.toNat i) []) (Nat.succ (Nat.succ (0 : Nat))) (U.i (0 : Int)))))]]) (65536 : Nat)) (bc nn Bool.true (bc nn Bool.false Bool.true)) Bool.false) Bool.false)
        (.at (sP (n) (a) (b) (l) (IntKind.wrap IntKind.i64 (i + (1 : Int))) (q ++ [[U.i (U.int (List.getD (List.getD l (Int.toNat i) []) (0 : Nat) (U.i (0 : Int)))), U.i (IntKind.wrap IntKind.i64 (IntKind.wrap IntKind.i64 (n - (2 : Int)) - U.int (List.getD (List.getD l (Int.toNat i) []) (Nat.succ (0 : Nat)) (U.i (0 : Int))))), U.s (chgW bFlip (U.str (List.getD (List.getD l (Int.toNat i) []) (Nat.succ (Nat.succ (0 : Nat))) (U.i (0 : Int)))))]]) (bc nn Bool.true (Nat.blt (0 : Nat) (List.length [[U.i (U.int (List.getD (List.getD l (Int.toNat i) []) (0 : Nat) (U.i (0 : Int)))), U.i (IntKind.wrap IntKind.i64 (IntKind.wrap IntKind.i64 (n - (2 : Int)) - U.int (List.getD (List.getD l (Int.toNat i) []) (Nat.succ (0 : Nat)) (U.i (0 : Int))))), U.s (chgW bFlip (U.str (List.getD (List.getD l (Int.toNat i) []) (Nat.succ (Nat.succ (0 : Nat))) (U.i (0 : Int)))))]])))))
        .bad)
      .bad)
    .bad)
  (bc (bc (Nat.beq (List.length q) (List.length q)) Bool.true Bool.false)
    (.done (EV.agg [(EV.v (Value.int IntKind.i64 (b))), (EV.lst (SyC.recs [(Sh.int IntKind.i64), (Sh.int IntKind.i64), Sh.str] (q)))]) [] 0)
    .bad)) := by kernel_rfl
theorem step {n a b : Int} {l : List (List U)} {i : Nat} {q : List (List U)} {nn : Bool} (hi : i < l.length) (hl : l.length ≤ 1000) (hq : q.length ≤ 1000) (ha : 0 ≤ rA l[i] ∧ rA l[i] ≤ 1000) (hk : -1000 ≤ n ∧ n ≤ 1000) : RUN (stOf (sP n a b l i q nn)) = .at (sP n a b l (i + 1 : Nat) (q ++ [flR bFlip n l[i]]) true) := by
  rw [step_t]
  have e : l.getD i [] = l[i] := getD_at hi
  simp (disch := omega) only [Nat.add_eq, eqSy_self, eqN_self, bc_same, List.length_cons, ofn, wrap_in, dt, df, bltD, bltN, ble_of, bleN, beqD, bc_t, bc_f, nn_ok, Nat.zero_add, to_nat, Int.zero_add, Int.sub_zero, Int.sub_self, Int.cast_ofNat_Int, Int.natCast_zero, Int.toNat_zero, List.take_zero, List.nil_append, List.length_append, List.length_nil, e, fK0, fK1, fA0, fA1, fA2, fW0, fW1, fW2]
  rfl
theorem last {n a b : Int} {l : List (List U)} {i : Nat} {q : List (List U)} {nn : Bool} (hi : l.length ≤ i) : RUN (stOf (sP n a b l i q nn)) = .done (.agg [iv b, wl q]) [] 0 := by
  rw [step_t]
  simp (disch := omega) only [Nat.add_eq, eqSy_self, eqN_self, bc_same, List.length_cons, ofn, wrap_in, dt, df, bltD, bltN, ble_of, bleN, beqD, bc_t, bc_f, nn_ok, Nat.zero_add, to_nat, Int.zero_add, Int.sub_zero, Int.sub_self, Int.cast_ofNat_Int, Int.natCast_zero, Int.toNat_zero, List.take_zero, List.nil_append, List.length_append, List.length_nil]
  rfl
theorem loop {n a b : Int} {l : List (List U)} (hl : l.length ≤ 1000) (ha : AtOk l) (hk : -1000 ≤ n ∧ n ≤ 1000) : ∀ (m i : Nat) (q : List (List U)) (nn : Bool), i + m = l.length → q.length ≤ i → EndZ 58 ctH false (stOf (sP n a b l i q nn)) (.agg [iv b, wl (q ++ flL bFlip n (l.drop i))]) [] 0
  | 0, i, q, nn, h, hq => by
    rw [List.drop_eq_nil_of_le (by omega)]
    show EndZ _ _ _ _ (.agg [iv b, wl (q ++ [])]) _ _
    rw [List.append_nil]
    exact .done (last (by omega))
  | m + 1, i, q, nn, h, hq => by
    have hi : i < l.length := by omega
    rw [List.drop_eq_getElem_cons hi]
    show EndZ _ _ _ _ (.agg [iv b, wl (q ++ (flR bFlip n l[i] :: flL bFlip n (l.drop (i + 1))))]) _ _
    rw [show q ++ (flR bFlip n l[i] :: flL bFlip n (l.drop (i + 1))) = (q ++ [flR bFlip n l[i]]) ++ flL bFlip n (l.drop (i + 1)) by simp]
    exact .at ctH_ok (step hi hl (by omega) (ha _ (List.getElem_mem hi)) hk) (loop hl ha hk m (i + 1) _ true (by omega) (by simp; omega))
theorem ends (n a b : Int) (l : List (List U)) (hc : l.length ≤ 1000 ∧ AtOk l ∧ -1000 ≤ n ∧ n ≤ 1000) : EndZ 58 ctH false (st0 58 [.agg [iv n, wl l], .agg [iv a, iv b, .fn 65 []]]) (.agg [iv b, wl (flL bFlip n l)]) [] 0 := .at ctH_ok (in_t n a b l) (by have := loop (n := n) (a := a) (b := b) hc.1 hc.2.1 hc.2.2 l.length 0 [] false (by omega) (by simp); rw [List.nil_append] at this; exact this)
end PChF
namespace PChM
noncomputable def RUN (s : ES) : ZF := RZ 58 ctH (atS 0 58 3) [] [[(2,none),(3,none),(4,none),(5,some (3, 81, .recs shW [])),(12,none),(13,none),(14,none)]] false s

noncomputable def sP (n a b : Int) (l : List (List U)) (i : Int) (q : List (List U)) (nn : Bool) : NS := ⟨[⟨58, 51, [(2, (EV.ptr 0 0)), (3, (EV.ptr 1 0)), (4, (EV.ptr 2 0)), (5, (EV.ptr 3 0)), (12, (EV.lst (SyC.recs [(Sh.int IntKind.i64), (Sh.int IntKind.i64), Sh.str] (l)))), (13, (EV.v (Value.int IntKind.i64 (Int.ofNat (List.length l))))), (14, iv i)], [.it (.code (nav [1, 1, 0, 1, 0, 0] (bodyOf Try.f58))), .it (.inLoop (nav [1, 1, 0, 1, 0, 0] (bodyOf Try.f58))), .it (.inBlock 0), .it (.code (nav [1, 1, 1] (bodyOf Try.f58)))], [], Option.none⟩], [(0, (EK.cells 24 [(EV.v (Value.int IntKind.i64 (n))), (EV.lst (SyC.recs [(Sh.int IntKind.i64), (Sh.int IntKind.i64), Sh.str] (l)))] true)), (1, (EK.cells 102 [(EV.v (Value.int IntKind.i64 (a))), (EV.v (Value.int IntKind.i64 (b))), (EV.fn 67 [])] true)), (2, (EK.cells 24 [(EV.v (Value.int IntKind.i64 (0))), (EV.v (Value.slice Option.none 0 0))] true)), (3, EK.cells 24 [iv b, EV.slO 4 3 q.length nn] true), (4, EK.seq 81 (.recs shW q) nn)], 5⟩
theorem in_t (n a b : Int) (l : List (List U)) : RUN (st0 58 [.agg [iv n, wl l], .agg [iv a, iv b, .fn 67 []]]) = (.at (sP (n) (a) (b) (l) ((0 : Int)) ([]) (Bool.false))) := by kernel_rfl
theorem step_t (n a b : Int) (l : List (List U)) (i : Int) (q : List (List U)) (nn : Bool) : RUN (stOf (sP n a b l i q nn)) = (bc (Decidable.decide (i < Int.ofNat (List.length l)))
  (bc (bc (bc (Decidable.decide ((0 : Int) ≤ i)) (Nat.blt (Int.toNat i) (List.length l)) Bool.false) Bool.true Bool.false)
    (bc (bc (Nat.blt (Int.toNat i) (List.length l)) Bool.true Bool.false)
      (bc (bc (Nat.beq (List.length q) (List.length q)) (bc (Nat.ble (List.length q + List.length [[U.i (U.int (List.getD (List.getD l (Int.toNat i) []) (0 : Nat) (U.i (0 : Int)))), U.i (IntKind.wrap IntKind.i64 (IntKind.wrap IntKind.i64 (n - (2 : Int)) - U.int (List.getD (List.getD l (Int.toNat i) []) (Nat.succ (0 : Nat)) (U.i (0 : Int))))), U.s (chgW bMir (U.str (List.getD (List.getD l (Int.toNat i) []) (Nat.succ (Nat.succ (0 : Nat))) (U.i (0 : Int)))))]]) (65536 : Nat)) (bc nn Bool.true (bc nn Bool.false Bool.true)) Bool.false) Bool.false)
        (.at (sP (n) (a) (b) (l) (IntKind.wrap IntKind.i64 (i + (1 : Int))) (q ++ [[U.i (U.int (List.getD (List.getD l (Int.toNat i) []) (0 : Nat) (U.i (0 : Int)))), U.i (IntKind.wrap IntKind.i64 (IntKind.wrap IntKind.i64 (n - (2 : Int)) - U.int (List.getD (List.getD l (Int.toNat i) []) (Nat.succ (0 : Nat)) (U.i (0 : Int))))), U.s (chgW bMir (U.str (List.getD (List.getD l (Int.toNat i) []) (Nat.succ (Nat.succ (0 : Nat))) (U.i (0 : Int)))))]]) (bc nn Bool.true (Nat.blt (0 : Nat) (List.length [[U.i (U.int (List.getD (List.getD l (Int.toNat i) []) (0 : Nat) (U.i (0 : Int)))), U.i (IntKind.wrap IntKind.i64 (IntKind.wrap IntKind.i64 (n - (2 : Int)) - U.int (List.getD (List.getD l (Int.toNat i) []) (Nat.succ (0 : Nat)) (U.i (0 : Int))))), U.s (chgW bMir (U.str (List.getD (List.getD l (Int.toNat i) []) (Nat.succ (Nat.succ (0 : Nat))) (U.i (0 : Int)))))]])))))
        .bad)
      .bad)
    .bad)
  (bc (bc (Nat.beq (List.length q) (List.length q)) Bool.true Bool.false)
    (.done (EV.agg [(EV.v (Value.int IntKind.i64 (b))), (EV.lst (SyC.recs [(Sh.int IntKind.i64), (Sh.int IntKind.i64), Sh.str] (q)))]) [] 0)
    .bad)) := by kernel_rfl
theorem step {n a b : Int} {l : List (List U)} {i : Nat} {q : List (List U)} {nn : Bool} (hi : i < l.length) (hl : l.length ≤ 1000) (hq : q.length ≤ 1000) (ha : 0 ≤ rA l[i] ∧ rA l[i] ≤ 1000) (hk : -1000 ≤ n ∧ n ≤ 1000) : RUN (stOf (sP n a b l i q nn)) = .at (sP n a b l (i + 1 : Nat) (q ++ [flR bMir n l[i]]) true) := by
  rw [step_t]
  have e : l.getD i [] = l[i] := getD_at hi
  simp (disch := omega) only [Nat.add_eq, eqSy_self, eqN_self, bc_same, List.length_cons, ofn, wrap_in, dt, df, bltD, bltN, ble_of, bleN, beqD, bc_t, bc_f, nn_ok, Nat.zero_add, to_nat, Int.zero_add, Int.sub_zero, Int.sub_self, Int.cast_ofNat_Int, Int.natCast_zero, Int.toNat_zero, List.take_zero, List.nil_append, List.length_append, List.length_nil, e, fK0, fK1, fA0, fA1, fA2, fW0, fW1, fW2]
  rfl
theorem last {n a b : Int} {l : List (List U)} {i : Nat} {q : List (List U)} {nn : Bool} (hi : l.length ≤ i) : RUN (stOf (sP n a b l i q nn)) = .done (.agg [iv b, wl q]) [] 0 := by
  rw [step_t]
  simp (disch := omega) only [Nat.add_eq, eqSy_self, eqN_self, bc_same, List.length_cons, ofn, wrap_in, dt, df, bltD, bltN, ble_of, bleN, beqD, bc_t, bc_f, nn_ok, Nat.zero_add, to_nat, Int.zero_add, Int.sub_zero, Int.sub_self, Int.cast_ofNat_Int, Int.natCast_zero, Int.toNat_zero, List.take_zero, List.nil_append, List.length_append, List.length_nil]
  rfl
theorem loop {n a b : Int} {l : List (List U)} (hl : l.length ≤ 1000) (ha : AtOk l) (hk : -1000 ≤ n ∧ n ≤ 1000) : ∀ (m i : Nat) (q : List (List U)) (nn : Bool), i + m = l.length → q.length ≤ i → EndZ 58 ctH false (stOf (sP n a b l i q nn)) (.agg [iv b, wl (q ++ flL bMir n (l.drop i))]) [] 0
  | 0, i, q, nn, h, hq => by
    rw [List.drop_eq_nil_of_le (by omega)]
    show EndZ _ _ _ _ (.agg [iv b, wl (q ++ [])]) _ _
    rw [List.append_nil]
    exact .done (last (by omega))
  | m + 1, i, q, nn, h, hq => by
    have hi : i < l.length := by omega
    rw [List.drop_eq_getElem_cons hi]
    show EndZ _ _ _ _ (.agg [iv b, wl (q ++ (flR bMir n l[i] :: flL bMir n (l.drop (i + 1))))]) _ _
    rw [show q ++ (flR bMir n l[i] :: flL bMir n (l.drop (i + 1))) = (q ++ [flR bMir n l[i]]) ++ flL bMir n (l.drop (i + 1)) by simp]
    exact .at ctH_ok (step hi hl (by omega) (ha _ (List.getElem_mem hi)) hk) (loop hl ha hk m (i + 1) _ true (by omega) (by simp; omega))
theorem ends (n a b : Int) (l : List (List U)) (hc : l.length ≤ 1000 ∧ AtOk l ∧ -1000 ≤ n ∧ n ≤ 1000) : EndZ 58 ctH false (st0 58 [.agg [iv n, wl l], .agg [iv a, iv b, .fn 67 []]]) (.agg [iv b, wl (flL bMir n l)]) [] 0 := .at ctH_ok (in_t n a b l) (by have := loop (n := n) (a := a) (b := b) hc.1 hc.2.1 hc.2.2 l.length 0 [] false (by omega) (by simp); rw [List.nil_append] at this; exact this)
end PChM
noncomputable def spChF_0 : ZCT := fun ax => match ax with
  | [.agg [.v (.int .i64 n), .lst (.recs [.int .i64, .int .i64, .str] l)], .agg [.v (.int .i64 a), .v (.int .i64 b), .fn 65 []]] => some ⟨decide (l.length ≤ 1000 ∧ AtOk l ∧ -1000 ≤ n ∧ n ≤ 1000), .agg [iv b, wl (flL bFlip n l)], [], 0⟩
  | _ => none
theorem spChF_0_ok : ZCtOk Try.prog 58 spChF_0 := fun γ w us ax r hs hc hax hN hfz => by
  unfold spChF_0 at hs
  split at hs
  case h_2 => cases hs
  rename_i n l a b
  obtain ⟨rfl⟩ := Option.some.inj hs
  have hc_0 : decide (l.length ≤ 1000 ∧ AtOk l ∧ -1000 ≤ n ∧ n ≤ 1000) = true := hc
  have hc := of_decide_eq_true hc_0
  exact EndZ.calls (PChF.ends n a b l hc) ctH_ok (by kernel_rfl) hax hN hfz
noncomputable def spChF_1 : ZCT := fun ax => match ax with
  | [.agg [.v (.int .i64 n), .lst (.recs [.int .i64, .int .i64, .str] l)], .agg [.v (.int .i64 a), .v (.int .i64 b), .fn 67 []]] => some ⟨decide (l.length ≤ 1000 ∧ AtOk l ∧ -1000 ≤ n ∧ n ≤ 1000), .agg [iv b, wl (flL bMir n l)], [], 0⟩
  | _ => none
theorem spChF_1_ok : ZCtOk Try.prog 58 spChF_1 := fun γ w us ax r hs hc hax hN hfz => by
  unfold spChF_1 at hs
  split at hs
  case h_2 => cases hs
  rename_i n l a b
  obtain ⟨rfl⟩ := Option.some.inj hs
  have hc_0 : decide (l.length ≤ 1000 ∧ AtOk l ∧ -1000 ≤ n ∧ n ≤ 1000) = true := hc
  have hc := of_decide_eq_true hc_0
  exact EndZ.calls (PChM.ends n a b l hc) ctH_ok (by kernel_rfl) hax hN hfz
noncomputable def spChF : ZCT := ZCT.or spChF_0 (spChF_1)
theorem spChF_ok : ZCtOk Try.prog 58 spChF := spChF_0_ok.or (spChF_1_ok)
noncomputable def ctT : Tr ZCC := ctH.put 58 (some (dC spChF))
theorem ctT_ok : ZCtsOk Try.prog ctT := ctH_ok.add rfl spChF_ok
namespace PFlip
noncomputable def RUN (s : ES) : ZF := RZ 27 ctT (fun _ => false) [] [] false s
theorem in_t (n : Int) (l : List (List U)) : RUN (st0 27 [.agg [iv n, wl l]]) = (bc (chk4 n l != (0 : Int))
  (.done (EV.tup [(EV.v (Value.agg (Array.mk [(Value.int IntKind.i64 (0)), (Value.slice Option.none 0 0)]))), (EV.v (Value.int IntKind.i64 (chk4 n l)))]) [] 0)
  (bc (Decidable.decide (List.length l ≤ (1000 : Nat) ∧ AtOk l ∧ (-1000 : Int) ≤ n ∧ n ≤ (1000 : Int)))
    (.done (EV.tup [(EV.agg [(EV.v (Value.int IntKind.i64 (n))), (EV.lst (SyC.recs [(Sh.int IntKind.i64), (Sh.int IntKind.i64), Sh.str] (flL bFlip n l)))]), (EV.v (Value.int IntKind.i64 (0)))]) [] 0)
    .bad)) := by kernel_rfl
theorem ends (n : Int) (l : List (List U)) : EndZ 27 ctT false (st0 27 [.agg [iv n, wl l]]) (shE (turP n l) (turL bFlip n l) (chk4 n l)) [] 0 := by
  have h := in_t n l
  unfold turP turL
  cases h1 : (chk4 n l != 0) <;> rw [h1] at h
  · have e := ne0 h1
    have v := chk4_ok e
    have g1 := v.lo
    have g2 := v.hi
    have hq : l.length ≤ 1000 ∧ AtOk l ∧ -1000 ≤ n ∧ n ≤ 1000 := ⟨by have := v.len; omega, v.at, by omega, by omega⟩
    simp (disch := omega) only [Nat.add_eq, eqSy_self, eqN_self, bc_same, List.length_cons, ofn, wrap_in, dt, df, bltD, bltN, ble_of, bleN, beqD, bc_t, bc_f, nn_ok, Nat.zero_add, to_nat, Int.zero_add, Int.sub_zero, Int.sub_self, Int.cast_ofNat_Int, Int.natCast_zero, Int.toNat_zero, List.take_zero, List.nil_append, List.length_append, List.length_nil, dt hq] at h
    exact doneX h rfl rfl e.symm
  · exact doneY h rfl rfl rfl
end PFlip
noncomputable def spPFlip : ZCT := fun ax => match ax with
  | [.agg [.v (.int .i64 n), .lst (.recs [.int .i64, .int .i64, .str] l)]] => some ⟨decide (True), shE (turP n l) (turL bFlip n l) (chk4 n l), [], 0⟩
  | _ => none
theorem spPFlip_ok : ZCtOk Try.prog 27 spPFlip := fun γ w us ax r hs hc hax hN hfz => by
  unfold spPFlip at hs
  split at hs
  case h_2 => cases hs
  rename_i n l
  obtain ⟨rfl⟩ := Option.some.inj hs
  have hc_0 : decide (True) = true := hc
  have hc := of_decide_eq_true hc_0
  exact EndZ.calls (PFlip.ends n l) ctT_ok (by kernel_rfl) hax hN hfz
namespace PMir
noncomputable def RUN (s : ES) : ZF := RZ 29 ctT (fun _ => false) [] [] false s
theorem in_t (n : Int) (l : List (List U)) : RUN (st0 29 [.agg [iv n, wl l]]) = (bc (chk4 n l != (0 : Int))
  (.done (EV.tup [(EV.v (Value.agg (Array.mk [(Value.int IntKind.i64 (0)), (Value.slice Option.none 0 0)]))), (EV.v (Value.int IntKind.i64 (chk4 n l)))]) [] 0)
  (bc (Decidable.decide (List.length l ≤ (1000 : Nat) ∧ AtOk l ∧ (-1000 : Int) ≤ n ∧ n ≤ (1000 : Int)))
    (.done (EV.tup [(EV.agg [(EV.v (Value.int IntKind.i64 (n))), (EV.lst (SyC.recs [(Sh.int IntKind.i64), (Sh.int IntKind.i64), Sh.str] (flL bMir n l)))]), (EV.v (Value.int IntKind.i64 (0)))]) [] 0)
    .bad)) := by kernel_rfl
theorem ends (n : Int) (l : List (List U)) : EndZ 29 ctT false (st0 29 [.agg [iv n, wl l]]) (shE (turP n l) (turL bMir n l) (chk4 n l)) [] 0 := by
  have h := in_t n l
  unfold turP turL
  cases h1 : (chk4 n l != 0) <;> rw [h1] at h
  · have e := ne0 h1
    have v := chk4_ok e
    have g1 := v.lo
    have g2 := v.hi
    have hq : l.length ≤ 1000 ∧ AtOk l ∧ -1000 ≤ n ∧ n ≤ 1000 := ⟨by have := v.len; omega, v.at, by omega, by omega⟩
    simp (disch := omega) only [Nat.add_eq, eqSy_self, eqN_self, bc_same, List.length_cons, ofn, wrap_in, dt, df, bltD, bltN, ble_of, bleN, beqD, bc_t, bc_f, nn_ok, Nat.zero_add, to_nat, Int.zero_add, Int.sub_zero, Int.sub_self, Int.cast_ofNat_Int, Int.natCast_zero, Int.toNat_zero, List.take_zero, List.nil_append, List.length_append, List.length_nil, dt hq] at h
    exact doneX h rfl rfl e.symm
  · exact doneY h rfl rfl rfl
end PMir
noncomputable def spPMir : ZCT := fun ax => match ax with
  | [.agg [.v (.int .i64 n), .lst (.recs [.int .i64, .int .i64, .str] l)]] => some ⟨decide (True), shE (turP n l) (turL bMir n l) (chk4 n l), [], 0⟩
  | _ => none
theorem spPMir_ok : ZCtOk Try.prog 29 spPMir := fun γ w us ax r hs hc hax hN hfz => by
  unfold spPMir at hs
  split at hs
  case h_2 => cases hs
  rename_i n l
  obtain ⟨rfl⟩ := Option.some.inj hs
  have hc_0 : decide (True) = true := hc
  have hc := of_decide_eq_true hc_0
  exact EndZ.calls (PMir.ends n l) ctT_ok (by kernel_rfl) hax hN hfz
namespace PPla
noncomputable def RUN (s : ES) : ZF := RZ 31 ctJ1 (fun _ => false) [] [] false s
theorem in_t (n a b : Int) (l : List (List U)) : RUN (st0 31 [.agg [iv n, wl l], iv a, iv b]) = (bc (chk4 n l != (0 : Int))
  (.done (EV.tup [(EV.v (Value.agg (Array.mk [(Value.int IntKind.i64 (0)), (Value.slice Option.none 0 0)]))), (EV.v (Value.int IntKind.i64 (chk4 n l)))]) [] 0)
  (bc (Decidable.decide (b < (2 : Int)))
    (.done (EV.tup [(EV.v (Value.agg (Array.mk [(Value.int IntKind.i64 (0)), (Value.slice Option.none 0 0)]))), (EV.v (Value.int IntKind.i64 (7)))]) [] 0)
    (bc (Decidable.decide ((24 : Int) < b))
      (.done (EV.tup [(EV.v (Value.agg (Array.mk [(Value.int IntKind.i64 (0)), (Value.slice Option.none 0 0)]))), (EV.v (Value.int IntKind.i64 (7)))]) [] 0)
      (bc (Decidable.decide (a < (0 : Int)))
        (.done (EV.tup [(EV.v (Value.agg (Array.mk [(Value.int IntKind.i64 (0)), (Value.slice Option.none 0 0)]))), (EV.v (Value.int IntKind.i64 (7)))]) [] 0)
        (bc (Decidable.decide (IntKind.wrap IntKind.i64 (b - n) < a))
          (.done (EV.tup [(EV.v (Value.agg (Array.mk [(Value.int IntKind.i64 (0)), (Value.slice Option.none 0 0)]))), (EV.v (Value.int IntKind.i64 (7)))]) [] 0)
          (bc (Decidable.decide (List.length l ≤ (1000 : Nat) ∧ AtOk l ∧ (-1000 : Int) ≤ a ∧ a ≤ (1000 : Int)))
            (.done (EV.tup [(EV.agg [(EV.v (Value.int IntKind.i64 (b))), (EV.lst (SyC.recs [(Sh.int IntKind.i64), (Sh.int IntKind.i64), Sh.str] (shL a l)))]), (EV.v (Value.int IntKind.i64 (0)))]) [] 0)
            .bad)))))) := by kernel_rfl
theorem ends (n a b : Int) (l : List (List U)) : EndZ 31 ctJ1 false (st0 31 [.agg [iv n, wl l], iv a, iv b]) (shE (plaP n a b l) (plaL n a b l) (plaE n a b l)) [] 0 := by
  have h := in_t n a b l
  have he : plaE n a b l = bc (chk4 n l != 0) (chk4 n l) (bc (decide (b < 2)) 7 (bc (decide (24 < b)) 7 (bc (decide (a < 0)) 7 (bc (decide (b - n < a)) 7 0)))) := rfl
  cases h1 : (chk4 n l != 0) <;> rw [h1] at h he
  · have v := chk4_ok (ne0 h1)
    have g1 := v.lo
    have g2 := v.hi
    have g3 := v.len
    simp only [bc_f] at h he
    by_cases h2 : b < 2
    · simp only [dt h2, bc_t] at h he
      exact doneY h (plaV he rfl).1.symm (plaV he rfl).2.symm he.symm
    by_cases h3 : 24 < b
    · simp only [df h2, dt h3, bc_t, bc_f] at h he
      exact doneY h (plaV he rfl).1.symm (plaV he rfl).2.symm he.symm
    by_cases h4 : a < 0
    · simp only [df h2, df h3, dt h4, bc_t, bc_f] at h he
      exact doneY h (plaV he rfl).1.symm (plaV he rfl).2.symm he.symm
    by_cases h5 : b - n < a
    · simp (disch := omega) only [df h2, df h3, df h4, dt h5, bc_t, bc_f, wrap_in] at h he
      exact doneY h (plaV he rfl).1.symm (plaV he rfl).2.symm he.symm
    have hq : l.length ≤ 1000 ∧ AtOk l ∧ -1000 ≤ a ∧ a ≤ 1000 := ⟨by omega, v.at, by omega, by omega⟩
    simp (disch := omega) only [df h2, df h3, df h4, df h5, dt hq, bc_t, bc_f, wrap_in] at h he
    exact doneX h (plaV0 he).1.symm (plaV0 he).2.symm he.symm
  · simp only [bc_t] at h he
    exact doneY h (plaV he h1).1.symm (plaV he h1).2.symm he.symm
end PPla
noncomputable def spPPla : ZCT := fun ax => match ax with
  | [.agg [.v (.int .i64 n), .lst (.recs [.int .i64, .int .i64, .str] l)], .v (.int .i64 a), .v (.int .i64 b)] => some ⟨decide (True), shE (plaP n a b l) (plaL n a b l) (plaE n a b l), [], 0⟩
  | _ => none
theorem spPPla_ok : ZCtOk Try.prog 31 spPPla := fun γ w us ax r hs hc hax hN hfz => by
  unfold spPPla at hs
  split at hs
  case h_2 => cases hs
  rename_i n l a b
  obtain ⟨rfl⟩ := Option.some.inj hs
  have hc_0 : decide (True) = true := hc
  have hc := of_decide_eq_true hc_0
  exact EndZ.calls (PPla.ends n a b l) ctJ1_ok (by kernel_rfl) hax hN hfz
end Go.Proofs.Ytkbebiebaenbdaa.Ev
namespace Go.Proofs.Ytkbebiebaenbdaa.Ev
open Go.Proofs
noncomputable abbrev bl (l : List Bool) : EV := .lst (.bools l)
namespace RTou
noncomputable def RUN (s : ES) : ZF := RZ 78 .nil (fun _ => false) [] [] false s
theorem in_t (a b c d : Int) (u v : ByteArray) : RUN (st0 78 [.agg [iv a, iv b, sv u], .agg [iv c, iv d, sv v]]) = (bc (Decidable.decide (IntKind.wrap IntKind.i64 (b - d) ≤ (1 : Int)))
  (.done (EV.v (Value.bool (Decidable.decide (IntKind.wrap IntKind.i64 (d - b) ≤ (1 : Int))))) [] 0)
  (.done (EV.v (Value.bool false)) [] 0)) := by kernel_rfl
theorem ends (a b c d : Int) (u v : ByteArray) (h : -1000 ≤ b ∧ b ≤ 1000 ∧ -1000 ≤ d ∧ d ≤ 1000) : EndZ 78 .nil false (st0 78 [.agg [iv a, iv b, sv u], .agg [iv c, iv d, sv v]]) (bv (bc (decide (b - d ≤ 1)) (decide (d - b ≤ 1)) false)) [] 0 := by
  have h2 := in_t a b c d u v
  simp (disch := omega) only [wrap_in] at h2
  cases h3 : decide (b - d ≤ 1) <;> rw [h3] at h2 <;> exact .done h2
end RTou
noncomputable def spTou : ZCT := fun ax => match ax with
  | [.agg [.v (.int .i64 a), .v (.int .i64 b), .v (.string u)], .agg [.v (.int .i64 c), .v (.int .i64 d), .v (.string v)]] => some ⟨decide (-1000 ≤ b ∧ b ≤ 1000 ∧ -1000 ≤ d ∧ d ≤ 1000), bv (bc (decide (b - d ≤ 1)) (decide (d - b ≤ 1)) false), [], 0⟩
  | _ => none
theorem spTou_ok : ZCtOk Try.prog 78 spTou := fun γ w us ax r hs hc hax hN hfz => by
  unfold spTou at hs
  split at hs
  case h_2 => cases hs
  rename_i a b u c d v
  obtain ⟨rfl⟩ := Option.some.inj hs
  have hc_0 : decide (-1000 ≤ b ∧ b ≤ 1000 ∧ -1000 ≤ d ∧ d ≤ 1000) = true := hc
  have hc := of_decide_eq_true hc_0
  exact EndZ.calls (RTou.ends a b c d u v hc) (.nil _) (by kernel_rfl) hax hN hfz
noncomputable def ctK : Tr ZCC := Tr.nil.put 78 (some (dC spTou))
theorem ctK_ok : ZCtsOk Try.prog ctK := (ZCtsOk.nil _).add rfl spTou_ok
namespace RKep
noncomputable def RUN (s : ES) : ZF := RZs 44 ctK [(atS 0 44 3, [[(1,none),(2,none),(3,none),(7,none),(8,none)]]), (atS 0 44 7, [[(1,none),(2,none),(3,none),(7,none),(8,none),(9,none)]])] [] false s

noncomputable def sO (n a b : Int) (l : List (List U)) (m : Nat) (i : Int) (q : List Bool) : NS := ⟨[⟨44, 69, [(1, (EV.v (Value.int IntKind.i64 (a)))), (2, (EV.v (Value.int IntKind.i64 (b)))), (3, (EV.ptr 0 0)), (7, EV.slO 1 1 m true), (8, iv i)], [.it (.code (nav [1, 1, 0, 1, 0, 0, 0] (bodyOf Try.f44))), .it (.code (nav [1, 1, 0, 1, 0, 0, 1] (bodyOf Try.f44))), .it (.inLoop (nav [1, 1, 0, 1, 0, 0] (bodyOf Try.f44))), .it (.inBlock 0), .it (.code (nav [1, 1, 1] (bodyOf Try.f44)))], [], Option.none⟩], [(0, (EK.cells 24 [(EV.v (Value.int IntKind.i64 (n))), (EV.lst (SyC.recs [(Sh.int IntKind.i64), (Sh.int IntKind.i64), Sh.str] (l)))] true)), (1, EK.seq 4 (.bools q) true)], 2⟩
noncomputable def sI (n a b : Int) (l : List (List U)) (m : Nat) (i j : Int) (q : List Bool) : NS := ⟨[⟨44, 69, [(1, (EV.v (Value.int IntKind.i64 (a)))), (2, (EV.v (Value.int IntKind.i64 (b)))), (3, (EV.ptr 0 0)), (7, EV.slO 1 1 m true), (8, iv i), (9, iv j)], [.it (.code (nav [1, 1, 0, 1, 0, 0, 1, 0, 0, 1, 1, 0, 0, 0] (bodyOf Try.f44))), .it (.code (nav [1, 1, 0, 1, 0, 0, 1, 0, 0, 1, 1, 0, 0, 1] (bodyOf Try.f44))), .it (.inLoop (nav [1, 1, 0, 1, 0, 0, 1, 0, 0, 1, 1, 0, 0] (bodyOf Try.f44))), .it (.inBlock 2), .it (.inBlock 1), .it (.code (nav [1, 1, 0, 1, 0, 0, 1, 1] (bodyOf Try.f44))), .it (.inLoop (nav [1, 1, 0, 1, 0, 0] (bodyOf Try.f44))), .it (.inBlock 0), .it (.code (nav [1, 1, 1] (bodyOf Try.f44)))], [], Option.none⟩], [(0, EK.cells 24 [iv n, wl l] true), (1, EK.seq 4 (.bools q) true)], 2⟩
theorem in_t (n a b : Int) (l : List (List U)) : RUN (st0 44 [.agg [iv n, wl l], iv a, iv b]) = (bc (bc (Decidable.decide (Int.ofNat (List.length l) ≤ Int.ofNat (List.length l))) (Decidable.decide (Int.ofNat (List.length l) ≤ (65536 : Int))) Bool.false)
  (.at (sO (n) (a) (b) (l) (List.length (List.replicate (Int.toNat (Int.ofNat (List.length l))) Bool.false)) ((0 : Int)) (List.replicate (Int.toNat (Int.ofNat (List.length l))) Bool.false)))
  .bad) := by kernel_rfl
theorem o_t (n a b : Int) (l : List (List U)) (m : Nat) (i : Int) (q : List Bool) : RUN (stOf (sO n a b l m i q)) = (bc (Decidable.decide (i < Int.ofNat (List.length l)))
  (bc (bc (bc (Decidable.decide ((0 : Int) ≤ i)) (Nat.blt (Int.toNat i) (List.length l)) Bool.false) Bool.true Bool.false)
    (bc (bc (Nat.blt (Int.toNat i) (List.length l)) Bool.true Bool.false)
      (bc (Decidable.decide (a ≤ U.int (List.getD (List.getD l (Int.toNat i) []) (Nat.add (0 : Nat) (1 : Nat)) (U.i (0 : Int)))))
        (bc (bc (bc (Decidable.decide ((0 : Int) ≤ i)) (Nat.blt (Int.toNat i) (List.length l)) Bool.false) Bool.true Bool.false)
          (bc (bc (Nat.blt (Int.toNat i) (List.length l)) Bool.true Bool.false)
            (bc (bc (bc (Decidable.decide ((0 : Int) ≤ i)) (Nat.blt (Int.toNat i) m) Bool.false) Bool.true Bool.false)
              (bc (Nat.blt (Int.toNat i) (List.length q))
                (.at (sI (n) (a) (b) (l) (m) (i) ((0 : Int)) (List.set q (Int.toNat i) (Decidable.decide (U.int (List.getD (List.getD l (Int.toNat i) []) (Nat.add (0 : Nat) (1 : Nat)) (U.i (0 : Int))) < b)))))
                .bad)
              .bad)
            .bad)
          .bad)
        (bc (bc (bc (Decidable.decide ((0 : Int) ≤ i)) (Nat.blt (Int.toNat i) m) Bool.false) Bool.true Bool.false)
          (bc (Nat.blt (Int.toNat i) (List.length q))
            (.at (sI (n) (a) (b) (l) (m) (i) ((0 : Int)) (List.set q (Int.toNat i) Bool.false)))
            .bad)
          .bad))
      .bad)
    .bad)
  (bc (Nat.beq m (List.length q))
    (.done (EV.lst (SyC.bools (q))) [] 0)
    .bad)) := by kernel_rfl
theorem i_t (n a b : Int) (l : List (List U)) (m : Nat) (i j : Int) (q : List Bool) : RUN (stOf (sI n a b l m i j q)) = (bc (Decidable.decide (j < i))
  (bc (!List.getD q (Int.toNat j) Bool.false)
    (bc (bc (bc (bc (bc (Decidable.decide ((0 : Int) ≤ j)) (Nat.blt (Int.toNat j) m) Bool.false) Bool.true Bool.false) (bc (bc (Nat.blt (Int.toNat j) (List.length q)) Bool.true Bool.false) (bc (eqB (!List.getD q (Int.toNat j) Bool.false) Bool.true) (bc (bc (bc (Decidable.decide ((0 : Int) ≤ j)) (Nat.blt (Int.toNat j) (List.length l)) Bool.false) Bool.true Bool.false) (bc (bc (Nat.blt (Int.toNat j) (List.length l)) Bool.true Bool.false) (bc (bc (bc (Decidable.decide ((0 : Int) ≤ i)) (Nat.blt (Int.toNat i) (List.length l)) Bool.false) Bool.true Bool.false) (bc (bc (Nat.blt (Int.toNat i) (List.length l)) Bool.true Bool.false) (bc (bc (Decidable.decide ((-1000 : Int) ≤ U.int (List.getD (List.getD l (Int.toNat j) []) (Nat.succ (0 : Nat)) (U.i (0 : Int))) ∧ U.int (List.getD (List.getD l (Int.toNat j) []) (Nat.succ (0 : Nat)) (U.i (0 : Int))) ≤ (1000 : Int) ∧ (-1000 : Int) ≤ U.int (List.getD (List.getD l (Int.toNat i) []) (Nat.succ (0 : Nat)) (U.i (0 : Int))) ∧ U.int (List.getD (List.getD l (Int.toNat i) []) (Nat.succ (0 : Nat)) (U.i (0 : Int))) ≤ (1000 : Int))) Bool.true Bool.false) Bool.true Bool.false) Bool.false) Bool.false) Bool.false) Bool.false) Bool.false) Bool.false) Bool.false) Bool.true Bool.false)
      (bc (bc (Decidable.decide (U.int (List.getD (List.getD l (Int.toNat j) []) (Nat.succ (0 : Nat)) (U.i (0 : Int))) - U.int (List.getD (List.getD l (Int.toNat i) []) (Nat.succ (0 : Nat)) (U.i (0 : Int))) ≤ (1 : Int))) (Decidable.decide (U.int (List.getD (List.getD l (Int.toNat i) []) (Nat.succ (0 : Nat)) (U.i (0 : Int))) - U.int (List.getD (List.getD l (Int.toNat j) []) (Nat.succ (0 : Nat)) (U.i (0 : Int))) ≤ (1 : Int))) Bool.false)
        (bc (bc (bc (Decidable.decide ((0 : Int) ≤ i)) (Nat.blt (Int.toNat i) m) Bool.false) Bool.true Bool.false)
          (bc (Nat.blt (Int.toNat i) (List.length q))
            (.at (sI (n) (a) (b) (l) (m) (i) (IntKind.wrap IntKind.i64 (j + (1 : Int))) (List.set q (Int.toNat i) Bool.false)))
            .bad)
          .bad)
        (.at (sI (n) (a) (b) (l) (m) (i) (IntKind.wrap IntKind.i64 (j + (1 : Int))) (q))))
      .bad)
    (bc (bc (bc (bc (bc (Decidable.decide ((0 : Int) ≤ j)) (Nat.blt (Int.toNat j) m) Bool.false) Bool.true Bool.false) (bc (bc (Nat.blt (Int.toNat j) (List.length q)) Bool.true Bool.false) (bc (eqB (!List.getD q (Int.toNat j) Bool.false) Bool.false) Bool.true Bool.false) Bool.false) Bool.false) Bool.true Bool.false)
      (.at (sI (n) (a) (b) (l) (m) (i) (IntKind.wrap IntKind.i64 (j + (1 : Int))) (q)))
      .bad))
  (.at (sO (n) (a) (b) (l) (m) (IntKind.wrap IntKind.i64 (i + (1 : Int))) (q)))) := by kernel_rfl
end RKep
noncomputable def tch (x y : List U) : Bool := bc (decide (rA x - rA y ≤ 1)) (decide (rA y - rA x ≤ 1)) false
noncomputable def inB (l : List (List U)) (q : List Bool) (i j : Nat) : Nat → Bool
  | 0 => false
  | k + 1 => bc (bc (!q.getD j false) (tch (l.getD j []) (l.getD i [])) false) true (inB l q i (j + 1) k)
theorem eqBt : eqB true true = true := rfl
theorem eqBf : eqB false false = true := rfl
def AtG (l : List (List U)) : Prop := ∀ j, j < l.length → -1000 ≤ rA (l.getD j []) ∧ rA (l.getD j []) ≤ 1000
noncomputable instance AtG.dec (l : List (List U)) : Decidable (AtG l) := Classical.propDecidable _
namespace RKep
theorem istep {n a b : Int} {l : List (List U)} {i j : Nat} {q : List Bool} (hl : l.length ≤ 1000) (hq : q.length = l.length) (hi : i < l.length) (hj : j < i) (ha : AtG l) : RUN (stOf (sI n a b l l.length i j q)) = .at (sI n a b l l.length i (j + 1 : Nat) (bc (bc (!q.getD j false) (tch (l.getD j []) (l.getD i [])) false) (q.set i false) q)) := by
  rw [i_t]
  have h1 := ha j (by omega)
  have h2 := ha i hi
  have h3 : -1000 ≤ rA (l.getD j []) ∧ rA (l.getD j []) ≤ 1000 ∧ -1000 ≤ rA (l.getD i []) ∧ rA (l.getD i []) ≤ 1000 := ⟨h1.1, h1.2, h2.1, h2.2⟩
  cases hb : q.getD j false
  · simp (disch := omega) only [Nat.add_eq, eqSy_self, eqN_self, bc_same, List.length_cons, ofn, wrap_in, dt, df, bltD, bltN, ble_of, bleN, beqD, bc_t, bc_f, nn_ok, Nat.zero_add, to_nat, Int.zero_add, Int.sub_zero, Int.sub_self, Int.cast_ofNat_Int, Int.natCast_zero, Int.toNat_zero, List.take_zero, List.nil_append, List.length_append, List.length_nil, fK0, fK1, fA0, fA1, fA2, fW0, fW1, fW2, hb, hq, dt h3, Bool.not_false, eqBt, bc_bc]
    unfold tch
    cases decide (rA (l.getD j []) - rA (l.getD i []) ≤ 1)
    · rfl
    · cases decide (rA (l.getD i []) - rA (l.getD j []) ≤ 1) <;> rfl
  · simp (disch := omega) only [Nat.add_eq, eqSy_self, eqN_self, bc_same, List.length_cons, ofn, wrap_in, dt, df, bltD, bltN, ble_of, bleN, beqD, bc_t, bc_f, nn_ok, Nat.zero_add, to_nat, Int.zero_add, Int.sub_zero, Int.sub_self, Int.cast_ofNat_Int, Int.natCast_zero, Int.toNat_zero, List.take_zero, List.nil_append, List.length_append, List.length_nil, fK0, fK1, fA0, fA1, fA2, fW0, fW1, fW2, hb, hq, Bool.not_true, eqBf, bc_bc]
    rfl
theorem ilast {n a b : Int} {l : List (List U)} {i j : Nat} {q : List Bool} (hl : l.length ≤ 1000) (hi : i < l.length) (hj : i ≤ j) : RUN (stOf (sI n a b l l.length i j q)) = .at (sO n a b l l.length (i + 1 : Nat) q) := by
  rw [i_t]
  simp (disch := omega) only [Nat.add_eq, eqSy_self, eqN_self, bc_same, List.length_cons, ofn, wrap_in, dt, df, bltD, bltN, ble_of, bleN, beqD, bc_t, bc_f, nn_ok, Nat.zero_add, to_nat, Int.zero_add, Int.sub_zero, Int.sub_self, Int.cast_ofNat_Int, Int.natCast_zero, Int.toNat_zero, List.take_zero, List.nil_append, List.length_append, List.length_nil]
  rfl
theorem inner {n a b : Int} {l : List (List U)} {i : Nat} {V : EV} (hl : l.length ≤ 1000) (hi : i < l.length) (ha : AtG l) : ∀ (k j : Nat) (q : List Bool), j + k = i → q.length = l.length → EndZ 44 ctK false (stOf (sO n a b l l.length (i + 1 : Nat) (bc (inB l q i j k) (q.set i false) q))) V [] 0 → EndZ 44 ctK false (stOf (sI n a b l l.length i j q)) V [] 0
  | 0, j, q, h, hq, H => .at ctK_ok (ilast hl hi (by omega)) H
  | k + 1, j, q, h, hq, H => by
    have hs := istep (n := n) (a := a) (b := b) hl hq hi (show j < i by omega) ha
    unfold inB at H
    cases hc : bc (!q.getD j false) (tch (l.getD j []) (l.getD i [])) false <;> rw [hc] at hs H
    · exact .at ctK_ok hs (inner hl hi ha k (j + 1) q (by omega) hq H)
    · refine .at ctK_ok hs (inner hl hi ha k (j + 1) (q.set i false) (by omega) (by rw [List.length_set]; exact hq) ?_)
      rw [List.set_set]
      have e : ∀ x : Bool, bc x (q.set i false) (q.set i false) = q.set i false := fun x => by cases x <;> rfl
      rw [e]
      exact H
end RKep
noncomputable def rng (a b : Int) (r : List U) : Bool := bc (decide (a ≤ rA r)) (decide (rA r < b)) false
noncomputable def outF (l : List (List U)) (a b : Int) (q : List Bool) (i : Nat) : List Bool := bc (inB l (q.set i (rng a b (l.getD i []))) i 0 i) ((q.set i (rng a b (l.getD i []))).set i false) (q.set i (rng a b (l.getD i [])))
theorem outF_len (l : List (List U)) (a b : Int) (q : List Bool) (i : Nat) : (outF l a b q i).length = q.length := by
  unfold outF
  cases inB l (q.set i (rng a b (l.getD i []))) i 0 i
  · exact List.length_set
  · show ((q.set i _).set i false).length = _
    rw [List.length_set, List.length_set]
noncomputable def kepF (l : List (List U)) (a b : Int) (i : Nat) (q : List Bool) : Nat → List Bool
  | 0 => q
  | k + 1 => kepF l a b (i + 1) (outF l a b q i) k
noncomputable def kepL (a b : Int) (l : List (List U)) : List Bool := kepF l a b 0 (List.replicate l.length false) l.length
namespace RKep
theorem ostep {n a b : Int} {l : List (List U)} {i : Nat} {q : List Bool} (hl : l.length ≤ 1000) (hq : q.length = l.length) (hi : i < l.length) : RUN (stOf (sO n a b l l.length i q)) = .at (sI n a b l l.length i (0 : Nat) (q.set i (rng a b (l.getD i [])))) := by
  rw [o_t]
  unfold rng
  by_cases h : a ≤ rA (l.getD i [])
  · simp (disch := omega) only [Nat.add_eq, eqSy_self, eqN_self, bc_same, List.length_cons, ofn, wrap_in, dt, df, bltD, bltN, ble_of, bleN, beqD, bc_t, bc_f, nn_ok, Nat.zero_add, to_nat, Int.zero_add, Int.sub_zero, Int.sub_self, Int.cast_ofNat_Int, Int.natCast_zero, Int.toNat_zero, List.take_zero, List.nil_append, List.length_append, List.length_nil, fK0, fK1, fA0, fA1, fA2, fW0, fW1, fW2, hq, dt h]
  · simp (disch := omega) only [Nat.add_eq, eqSy_self, eqN_self, bc_same, List.length_cons, ofn, wrap_in, dt, df, bltD, bltN, ble_of, bleN, beqD, bc_t, bc_f, nn_ok, Nat.zero_add, to_nat, Int.zero_add, Int.sub_zero, Int.sub_self, Int.cast_ofNat_Int, Int.natCast_zero, Int.toNat_zero, List.take_zero, List.nil_append, List.length_append, List.length_nil, fK0, fK1, fA0, fA1, fA2, fW0, fW1, fW2, hq, df h]
theorem olast {n a b : Int} {l : List (List U)} {i : Nat} {q : List Bool} (hq : q.length = l.length) (hi : l.length ≤ i) : RUN (stOf (sO n a b l l.length i q)) = .done (bl q) [] 0 := by
  rw [o_t]
  rw [← hq]
  rw [← hq] at hi
  simp (disch := omega) only [Nat.add_eq, eqSy_self, eqN_self, bc_same, List.length_cons, ofn, wrap_in, dt, df, bltD, bltN, ble_of, bleN, beqD, bc_t, bc_f, nn_ok, Nat.zero_add, to_nat, Int.zero_add, Int.sub_zero, Int.sub_self, Int.cast_ofNat_Int, Int.natCast_zero, Int.toNat_zero, List.take_zero, List.nil_append, List.length_append, List.length_nil, hq]
theorem oloop {n a b : Int} {l : List (List U)} (hl : l.length ≤ 1000) (ha : AtG l) : ∀ (k i : Nat) (q : List Bool), i + k = l.length → q.length = l.length → EndZ 44 ctK false (stOf (sO n a b l l.length i q)) (bl (kepF l a b i q k)) [] 0
  | 0, i, q, h, hq => .done (olast hq (by omega))
  | k + 1, i, q, h, hq => by
    have hi : i < l.length := by omega
    exact .at ctK_ok (ostep hl hq hi) (inner hl hi ha i 0 _ (by omega) (by rw [List.length_set]; exact hq) (oloop hl ha k (i + 1) (outF l a b q i) (by omega) (by rw [outF_len]; exact hq)))
theorem ends (n a b : Int) (l : List (List U)) (hl : l.length ≤ 1000) (ha : AtG l) : EndZ 44 ctK false (st0 44 [.agg [iv n, wl l], iv a, iv b]) (bl (kepL a b l)) [] 0 := by
  have h := in_t n a b l
  have e : Int.toNat (Int.ofNat l.length) = l.length := rfl
  simp (disch := omega) only [e, List.length_replicate, Nat.add_eq, eqSy_self, eqN_self, bc_same, List.length_cons, ofn, wrap_in, dt, df, bltD, bltN, ble_of, bleN, beqD, bc_t, bc_f, nn_ok, Nat.zero_add, to_nat, Int.zero_add, Int.sub_zero, Int.sub_self, Int.cast_ofNat_Int, Int.natCast_zero, Int.toNat_zero, List.take_zero, List.nil_append, List.length_append, List.length_nil] at h
  exact .at ctK_ok h (oloop hl ha l.length 0 _ (by omega) List.length_replicate)
end RKep
theorem AtOk.g {l : List (List U)} (h : AtOk l) : AtG l := fun j hj => by
  rw [getD_at hj]
  have := h _ (List.getElem_mem hj)
  omega
noncomputable def spKep : ZCT := fun ax => match ax with
  | [.agg [.v (.int .i64 n), .lst (.recs [.int .i64, .int .i64, .str] l)], .v (.int .i64 a), .v (.int .i64 b)] => some ⟨decide (l.length ≤ 1000 ∧ AtOk l), bl (kepL a b l), [], 0⟩
  | _ => none
theorem spKep_ok : ZCtOk Try.prog 44 spKep := fun γ w us ax r hs hc hax hN hfz => by
  unfold spKep at hs
  split at hs
  case h_2 => cases hs
  rename_i n l a b
  obtain ⟨rfl⟩ := Option.some.inj hs
  have hc_0 : decide (l.length ≤ 1000 ∧ AtOk l) = true := hc
  have hc := of_decide_eq_true hc_0
  exact EndZ.calls (RKep.ends n a b l hc.1 hc.2.g) ctK_ok (by kernel_rfl) hax hN hfz
noncomputable def ctCu : Tr ZCC := ctJ0.put 44 (some (dC spKep))
theorem ctCu_ok : ZCtsOk Try.prog ctCu := ctJ0_ok.add rfl spKep_ok
noncomputable def dnR (a : Int) (r : List U) : List U := mkR (rK r) (rA r - a) (rW r)
noncomputable def cutG (ks : List Bool) (l : List (List U)) (a : Int) (i : Nat) : Nat → List (List U)
  | 0 => []
  | k + 1 => bc (ks.getD i false) (dnR a (l.getD i []) :: cutG ks l a (i + 1) k) (cutG ks l a (i + 1) k)
noncomputable def cutE (n a b : Int) (l : List (List U)) : Int := bc (chk4 n l != 0) (chk4 n l) (bc (decide (a < 0)) 7 (bc (decide (n ≤ b)) 7 (bc (decide (b ≤ a)) 7 0)))
noncomputable def cutP (n a b : Int) (l : List (List U)) : Int := bc (cutE n a b l != 0) 0 (b - a + 1)
noncomputable def cutL (n a b : Int) (l : List (List U)) : List (List U) := bc (cutE n a b l != 0) [] (cutG (kepL a b l) l a 0 l.length)
theorem cutV {n a b : Int} {l : List (List U)} {e : Int} (h : cutE n a b l = e) (he : (e != 0) = true) : cutP n a b l = 0 ∧ cutL n a b l = [] := by unfold cutP cutL; rw [h, he]; exact ⟨rfl, rfl⟩
theorem cutV0 {n a b : Int} {l : List (List U)} (h : cutE n a b l = 0) : cutP n a b l = b - a + 1 ∧ cutL n a b l = cutG (kepL a b l) l a 0 l.length := by unfold cutP cutL; rw [h]; exact ⟨rfl, rfl⟩
theorem kepF_len (l : List (List U)) (a b : Int) : ∀ (k i : Nat) (q : List Bool), (kepF l a b i q k).length = q.length
  | 0, i, q => rfl
  | k + 1, i, q => by unfold kepF; rw [kepF_len l a b k (i + 1), outF_len]
theorem kepL_len (a b : Int) (l : List (List U)) : (kepL a b l).length = l.length := by unfold kepL; rw [kepF_len, List.length_replicate]
namespace RCut
noncomputable def RUN (s : ES) : ZF := RZ 34 ctCu (atS 0 34 9) [] [[(1,none),(2,none),(3,none),(6,none),(9,none),(10,some (3, 81, .recs shW [])),(11,none)]] false s

noncomputable def sC (n p a b : Int) (l : List (List U)) (ks : List Bool) (i : Int) (q : List (List U)) (nn : Bool) : NS := ⟨[⟨34, 70, [(1, (EV.v (Value.int IntKind.i64 (a)))), (2, (EV.v (Value.int IntKind.i64 (b)))), (3, (EV.ptr 0 0)), (6, (EV.ptr 1 0)), (9, bl ks), (10, (EV.ptr 2 0)), (11, iv i)], [.it (.code (nav [1, 1, 1, 1, 1, 1, 0, 1, 0, 0, 0] (bodyOf Try.f34))), .it (.code (nav [1, 1, 1, 1, 1, 1, 0, 1, 0, 0, 1] (bodyOf Try.f34))), .it (.inLoop (nav [1, 1, 1, 1, 1, 1, 0, 1, 0, 0] (bodyOf Try.f34))), .it (.inBlock 0), .it (.code (nav [1, 1, 1, 1, 1, 1, 1] (bodyOf Try.f34)))], [], Option.none⟩], [(0, (EK.cells 24 [(EV.v (Value.int IntKind.i64 (n))), (EV.lst (SyC.recs [(Sh.int IntKind.i64), (Sh.int IntKind.i64), Sh.str] (l)))] true)), (1, (EK.cells 24 [(EV.v (Value.int IntKind.i64 (0))), (EV.v (Value.slice Option.none 0 0))] true)), (2, EK.cells 24 [iv p, EV.slO 3 3 q.length nn] true), (3, EK.seq 81 (.recs shW q) nn)], 4⟩
theorem in_t (n a b : Int) (l : List (List U)) : RUN (st0 34 [.agg [iv n, wl l], iv a, iv b]) = (bc (chk4 n l != (0 : Int))
  (.done (EV.tup [(EV.v (Value.agg (Array.mk [(Value.int IntKind.i64 (0)), (Value.slice Option.none 0 0)]))), (EV.v (Value.int IntKind.i64 (chk4 n l)))]) [] 0)
  (bc (Decidable.decide (a < (0 : Int)))
    (.done (EV.tup [(EV.v (Value.agg (Array.mk [(Value.int IntKind.i64 (0)), (Value.slice Option.none 0 0)]))), (EV.v (Value.int IntKind.i64 (7)))]) [] 0)
    (bc (Decidable.decide (n ≤ b))
      (.done (EV.tup [(EV.v (Value.agg (Array.mk [(Value.int IntKind.i64 (0)), (Value.slice Option.none 0 0)]))), (EV.v (Value.int IntKind.i64 (7)))]) [] 0)
      (bc (Decidable.decide (b ≤ a))
        (.done (EV.tup [(EV.v (Value.agg (Array.mk [(Value.int IntKind.i64 (0)), (Value.slice Option.none 0 0)]))), (EV.v (Value.int IntKind.i64 (7)))]) [] 0)
        (bc (Decidable.decide (List.length l ≤ (1000 : Nat) ∧ AtOk l))
          (.at (sC (n) (IntKind.wrap IntKind.i64 (IntKind.wrap IntKind.i64 (b - a) + (1 : Int))) (a) (b) (l) (kepL a b l) ((0 : Int)) ([]) (Bool.false)))
          .bad))))) := by kernel_rfl
theorem step_t (n p a b : Int) (l : List (List U)) (ks : List Bool) (i : Int) (q : List (List U)) (nn : Bool) : RUN (stOf (sC n p a b l ks i q nn)) = (bc (Decidable.decide (i < Int.ofNat (List.length l)))
  (bc (bc (bc (Decidable.decide ((0 : Int) ≤ i)) (Nat.blt (Int.toNat i) (List.length ks)) Bool.false) Bool.true Bool.false)
    (bc (bc (Nat.blt (Int.toNat i) (List.length ks)) Bool.true Bool.false)
      (bc (List.getD ks (Int.toNat i) Bool.false)
        (bc (bc (bc (Decidable.decide ((0 : Int) ≤ i)) (Nat.blt (Int.toNat i) (List.length l)) Bool.false) Bool.true Bool.false)
          (bc (bc (Nat.blt (Int.toNat i) (List.length l)) Bool.true Bool.false)
            (bc (bc (Nat.beq (List.length q) (List.length q)) (bc (Nat.ble (List.length q + List.length [[U.i (U.int (List.getD (List.getD l (Int.toNat i) []) (0 : Nat) (U.i (0 : Int)))), U.i (IntKind.wrap IntKind.i64 (U.int (List.getD (List.getD l (Int.toNat i) []) (Nat.succ (0 : Nat)) (U.i (0 : Int))) - a)), U.s (U.str (List.getD (List.getD l (Int.toNat i) []) (Nat.succ (Nat.succ (0 : Nat))) (U.i (0 : Int))))]]) (65536 : Nat)) (bc nn Bool.true (bc nn Bool.false Bool.true)) Bool.false) Bool.false)
              (.at (sC (n) (p) (a) (b) (l) (ks) (IntKind.wrap IntKind.i64 (i + (1 : Int))) (q ++ [[U.i (U.int (List.getD (List.getD l (Int.toNat i) []) (0 : Nat) (U.i (0 : Int)))), U.i (IntKind.wrap IntKind.i64 (U.int (List.getD (List.getD l (Int.toNat i) []) (Nat.succ (0 : Nat)) (U.i (0 : Int))) - a)), U.s (U.str (List.getD (List.getD l (Int.toNat i) []) (Nat.succ (Nat.succ (0 : Nat))) (U.i (0 : Int))))]]) (bc nn Bool.true (Nat.blt (0 : Nat) (List.length [[U.i (U.int (List.getD (List.getD l (Int.toNat i) []) (0 : Nat) (U.i (0 : Int)))), U.i (IntKind.wrap IntKind.i64 (U.int (List.getD (List.getD l (Int.toNat i) []) (Nat.succ (0 : Nat)) (U.i (0 : Int))) - a)), U.s (U.str (List.getD (List.getD l (Int.toNat i) []) (Nat.succ (Nat.succ (0 : Nat))) (U.i (0 : Int))))]])))))
              .bad)
            .bad)
          .bad)
        (.at (sC (n) (p) (a) (b) (l) (ks) (IntKind.wrap IntKind.i64 (i + (1 : Int))) (q) (nn))))
      .bad)
    .bad)
  (bc (bc (bc (Nat.beq (List.length q) (List.length q)) Bool.true Bool.false) Bool.true Bool.false)
    (.done (EV.tup [(EV.agg [(EV.v (Value.int IntKind.i64 (p))), (EV.lst (SyC.recs [(Sh.int IntKind.i64), (Sh.int IntKind.i64), Sh.str] (q)))]), (EV.v (Value.int IntKind.i64 (0)))]) [] 0)
    .bad)) := by kernel_rfl
theorem step {n p a b : Int} {l : List (List U)} {ks : List Bool} {i : Nat} {q : List (List U)} {nn : Bool} (hi : i < l.length) (hl : l.length ≤ 1000) (hk : ks.length = l.length) (hq : q.length ≤ 1000) (ha : -1000 ≤ rA (l.getD i []) ∧ rA (l.getD i []) ≤ 1000) (h2 : -1000 ≤ a ∧ a ≤ 1000) : RUN (stOf (sC n p a b l ks i q nn)) = bc (ks.getD i false) (.at (sC n p a b l ks (i + 1 : Nat) (q ++ [dnR a (l.getD i [])]) true)) (.at (sC n p a b l ks (i + 1 : Nat) q nn)) := by
  rw [step_t]
  cases hb : ks.getD i false <;> simp (disch := omega) only [Nat.add_eq, eqSy_self, eqN_self, bc_same, List.length_cons, ofn, wrap_in, dt, df, bltD, bltN, ble_of, bleN, beqD, bc_t, bc_f, nn_ok, Nat.zero_add, to_nat, Int.zero_add, Int.sub_zero, Int.sub_self, Int.cast_ofNat_Int, Int.natCast_zero, Int.toNat_zero, List.take_zero, List.nil_append, List.length_append, List.length_nil, hk, hb, fK0, fK1, fA0, fA1, fA2, fW0, fW1, fW2] <;> rfl
theorem last {n p a b : Int} {l : List (List U)} {ks : List Bool} {i : Nat} {q : List (List U)} {nn : Bool} (hi : l.length ≤ i) : RUN (stOf (sC n p a b l ks i q nn)) = .done (shE p q 0) [] 0 := by
  rw [step_t]
  simp (disch := omega) only [Nat.add_eq, eqSy_self, eqN_self, bc_same, List.length_cons, ofn, wrap_in, dt, df, bltD, bltN, ble_of, bleN, beqD, bc_t, bc_f, nn_ok, Nat.zero_add, to_nat, Int.zero_add, Int.sub_zero, Int.sub_self, Int.cast_ofNat_Int, Int.natCast_zero, Int.toNat_zero, List.take_zero, List.nil_append, List.length_append, List.length_nil]
  rfl
theorem loop {n p a b : Int} {l : List (List U)} {ks : List Bool} (hl : l.length ≤ 1000) (hk : ks.length = l.length) (ha : AtG l) (h2 : -1000 ≤ a ∧ a ≤ 1000) : ∀ (m i : Nat) (q : List (List U)) (nn : Bool), i + m = l.length → q.length ≤ i → EndZ 34 ctCu false (stOf (sC n p a b l ks i q nn)) (shE p (q ++ cutG ks l a i m) 0) [] 0
  | 0, i, q, nn, h, hq => by
    show EndZ _ _ _ _ (shE p (q ++ []) 0) _ _
    rw [List.append_nil]
    exact .done (last (by omega))
  | m + 1, i, q, nn, h, hq => by
    have hi : i < l.length := by omega
    have hs := step (n := n) (p := p) (b := b) (nn := nn) hi hl hk (show q.length ≤ 1000 by omega) (ha i hi) h2
    unfold cutG
    cases hb : ks.getD i false <;> rw [hb] at hs
    · exact .at ctCu_ok hs (loop hl hk ha h2 m (i + 1) q nn (by omega) (by omega))
    · show EndZ _ _ _ _ (shE p (q ++ (dnR a (l.getD i []) :: cutG ks l a (i + 1) m)) 0) _ _
      rw [show q ++ (dnR a (l.getD i []) :: cutG ks l a (i + 1) m) = (q ++ [dnR a (l.getD i [])]) ++ cutG ks l a (i + 1) m by simp]
      exact .at ctCu_ok hs (loop hl hk ha h2 m (i + 1) _ true (by omega) (by simp; omega))
theorem ends (n a b : Int) (l : List (List U)) : EndZ 34 ctCu false (st0 34 [.agg [iv n, wl l], iv a, iv b]) (shE (cutP n a b l) (cutL n a b l) (cutE n a b l)) [] 0 := by
  have h := in_t n a b l
  have he : cutE n a b l = bc (chk4 n l != 0) (chk4 n l) (bc (decide (a < 0)) 7 (bc (decide (n ≤ b)) 7 (bc (decide (b ≤ a)) 7 0))) := rfl
  cases h1 : (chk4 n l != 0) <;> rw [h1] at h he
  · have v := chk4_ok (ne0 h1)
    have g1 := v.lo
    have g2 := v.hi
    have g3 := v.len
    simp only [bc_f] at h he
    by_cases h2 : a < 0
    · simp only [dt h2, bc_t] at h he
      exact doneY h (cutV he rfl).1.symm (cutV he rfl).2.symm he.symm
    by_cases h3 : n ≤ b
    · simp only [df h2, dt h3, bc_t, bc_f] at h he
      exact doneY h (cutV he rfl).1.symm (cutV he rfl).2.symm he.symm
    by_cases h4 : b ≤ a
    · simp only [df h2, df h3, dt h4, bc_t, bc_f] at h he
      exact doneY h (cutV he rfl).1.symm (cutV he rfl).2.symm he.symm
    have hq : l.length ≤ 1000 ∧ AtOk l := ⟨by omega, v.at⟩
    simp (disch := omega) only [df h2, df h3, df h4, dt hq, bc_t, bc_f, wrap_in] at h he
    have key := loop (n := n) (p := b - a + 1) (a := a) (b := b) (l := l) (by omega) (kepL_len a b l) v.at.g ⟨by omega, by omega⟩ l.length 0 [] false (by omega) (by simp)
    rw [List.nil_append] at key
    rw [(cutV0 he).1, (cutV0 he).2, he]
    exact .at ctCu_ok h key
  · simp only [bc_t] at h he
    exact doneY h (cutV he h1).1.symm (cutV he h1).2.symm he.symm
end RCut
noncomputable def spRCut : ZCT := fun ax => match ax with
  | [.agg [.v (.int .i64 n), .lst (.recs [.int .i64, .int .i64, .str] l)], .v (.int .i64 a), .v (.int .i64 b)] => some ⟨decide (True), shE (cutP n a b l) (cutL n a b l) (cutE n a b l), [], 0⟩
  | _ => none
theorem spRCut_ok : ZCtOk Try.prog 34 spRCut := fun γ w us ax r hs hc hax hN hfz => by
  unfold spRCut at hs
  split at hs
  case h_2 => cases hs
  rename_i n l a b
  obtain ⟨rfl⟩ := Option.some.inj hs
  have hc_0 : decide (True) = true := hc
  have hc := of_decide_eq_true hc_0
  exact EndZ.calls (RCut.ends n a b l) ctCu_ok (by kernel_rfl) hax hN hfz
end Go.Proofs.Ytkbebiebaenbdaa.Ev
namespace Go.Proofs.Ytkbebiebaenbdaa.Ev
open Go.Proofs
theorem inB_iff (l : List (List U)) (q : List Bool) (i : Nat) : ∀ (k j : Nat), inB l q i j k = true ↔ ∃ j', j ≤ j' ∧ j' < j + k ∧ q.getD j' false = false ∧ tch (l.getD j' []) (l.getD i []) = true
  | 0, j => by
    constructor
    · intro h; cases h
    · rintro ⟨j', h1, h2, _⟩; omega
  | k + 1, j => by
    have ih := inB_iff l q i k (j + 1)
    unfold inB
    constructor
    · intro h
      cases hq : q.getD j false
      · cases ht : tch (l.getD j []) (l.getD i [])
        · rw [hq, ht] at h
          obtain ⟨j', h1, h2, h3⟩ := ih.1 h
          exact ⟨j', by omega, by omega, h3⟩
        · exact ⟨j, Nat.le_refl _, by omega, hq, ht⟩
      · rw [hq] at h
        obtain ⟨j', h1, h2, h3⟩ := ih.1 h
        exact ⟨j', by omega, by omega, h3⟩
    · rintro ⟨j', h1, h2, h3, h4⟩
      by_cases e : j' = j
      · subst e; rw [h3, h4]; rfl
      · have : inB l q i (j + 1) k = true := ih.2 ⟨j', by omega, by omega, h3, h4⟩
        rw [this]
        cases bc (!q.getD j false) (tch (l.getD j []) (l.getD i [])) false <;> rfl
namespace PCut
noncomputable def RUN (s : ES) : ZF := RZ 33 ctJ1 (atS 0 33 9) [] [[(1,none),(2,none),(6,none),(9,none),(10,some (3, 81, .recs shW [])),(39,none),(40,none),(41,none)]] false s

noncomputable def sC (p a b : Int) (l : List (List U)) (c : List Bool) (i : Int) (q : List (List U)) (nn : Bool) : NS := ⟨[⟨33, 88, [(1, (EV.v (Value.int IntKind.i64 (a)))), (2, (EV.v (Value.int IntKind.i64 (b)))), (6, (EV.ptr 0 0)), (9, (EV.ptr 1 0)), (10, (EV.ptr 2 0)), (39, (EV.lst (SyC.recs [(Sh.int IntKind.i64), (Sh.int IntKind.i64), Sh.str] (l)))), (40, iv (l.length : Int)), (41, iv i)], [.it (.code (nav [1, 1, 1, 1, 1, 0, 1, 0, 0] (bodyOf Try.f33))), .it (.inLoop (nav [1, 1, 1, 1, 1, 0, 1, 0, 0] (bodyOf Try.f33))), .it (.inBlock 0), .it (.code (nav [1, 1, 1, 1, 1, 1] (bodyOf Try.f33)))], [], Option.none⟩], [(0, (EK.cells 24 [(EV.v (Value.int IntKind.i64 (0))), (EV.v (Value.slice Option.none 0 0))] true)), (1, EK.seq 113 (.bools c) true), (2, EK.cells 24 [iv p, EV.slO 3 3 q.length nn] true), (3, EK.seq 81 (.recs shW q) nn)], 4⟩
theorem step_t (p a b : Int) (l : List (List U)) (c : List Bool) (i : Int) (q : List (List U)) (nn : Bool) : RUN (stOf (sC p a b l c i q nn)) = (bc (Decidable.decide (i < (Nat.cast (List.length l) : Int)))
  (bc (bc (bc (Decidable.decide ((0 : Int) ≤ i)) (Nat.blt (Int.toNat i) (List.length l)) Bool.false) Bool.true Bool.false)
    (bc (bc (Nat.blt (Int.toNat i) (List.length l)) Bool.true Bool.false)
      (bc (Decidable.decide (U.int (List.getD (List.getD l (Int.toNat i) []) (Nat.succ (0 : Nat)) (U.i (0 : Int))) < a))
        (bc (bc (bc (bc (bc (Decidable.decide ((0 : Int) ≤ U.int (List.getD (List.getD l (Int.toNat i) []) (Nat.succ (0 : Nat)) (U.i (0 : Int))))) (Nat.blt (Int.toNat (U.int (List.getD (List.getD l (Int.toNat i) []) (Nat.succ (0 : Nat)) (U.i (0 : Int))))) (24 : Nat)) Bool.false) Bool.true Bool.false) (bc (Nat.blt (Int.toNat (U.int (List.getD (List.getD l (Int.toNat i) []) (Nat.succ (0 : Nat)) (U.i (0 : Int))))) (List.length c)) (bc (bc (bc (Decidable.decide ((0 : Int) ≤ IntKind.wrap IntKind.i64 (U.int (List.getD (List.getD l (Int.toNat i) []) (Nat.succ (0 : Nat)) (U.i (0 : Int))) + (1 : Int)))) (Nat.blt (Int.toNat (IntKind.wrap IntKind.i64 (U.int (List.getD (List.getD l (Int.toNat i) []) (Nat.succ (0 : Nat)) (U.i (0 : Int))) + (1 : Int)))) (24 : Nat)) Bool.false) Bool.true Bool.false) (bc (Nat.blt (Int.toNat (IntKind.wrap IntKind.i64 (U.int (List.getD (List.getD l (Int.toNat i) []) (Nat.succ (0 : Nat)) (U.i (0 : Int))) + (1 : Int)))) (List.length (List.set c (Int.toNat (U.int (List.getD (List.getD l (Int.toNat i) []) (Nat.succ (0 : Nat)) (U.i (0 : Int))))) Bool.true))) Bool.true Bool.false) Bool.false) Bool.false) Bool.false) (bc (bc (bc (Decidable.decide (U.int (List.getD (List.getD l (Int.toNat i) []) (Nat.succ (0 : Nat)) (U.i (0 : Int))) = U.int (List.getD (List.getD l (Int.toNat i) []) (Nat.succ (0 : Nat)) (U.i (0 : Int))))) Bool.true Bool.false) Bool.true Bool.false) Bool.true Bool.false) Bool.false)
          (.at (sC (p) (a) (b) (l) (List.set (List.set c (Int.toNat (U.int (List.getD (List.getD l (Int.toNat i) []) (Nat.succ (0 : Nat)) (U.i (0 : Int))))) Bool.true) (Int.toNat (IntKind.wrap IntKind.i64 (U.int (List.getD (List.getD l (Int.toNat i) []) (Nat.succ (0 : Nat)) (U.i (0 : Int))) + (1 : Int)))) Bool.true) (IntKind.wrap IntKind.i64 (i + (1 : Int))) (q) (nn)))
          .bad)
        (bc (Decidable.decide (b ≤ U.int (List.getD (List.getD l (Int.toNat i) []) (Nat.succ (0 : Nat)) (U.i (0 : Int)))))
          (bc (bc (bc (bc (bc (Decidable.decide ((0 : Int) ≤ U.int (List.getD (List.getD l (Int.toNat i) []) (Nat.succ (0 : Nat)) (U.i (0 : Int))))) (Nat.blt (Int.toNat (U.int (List.getD (List.getD l (Int.toNat i) []) (Nat.succ (0 : Nat)) (U.i (0 : Int))))) (24 : Nat)) Bool.false) Bool.true Bool.false) (bc (Nat.blt (Int.toNat (U.int (List.getD (List.getD l (Int.toNat i) []) (Nat.succ (0 : Nat)) (U.i (0 : Int))))) (List.length c)) (bc (bc (bc (Decidable.decide ((0 : Int) ≤ IntKind.wrap IntKind.i64 (U.int (List.getD (List.getD l (Int.toNat i) []) (Nat.succ (0 : Nat)) (U.i (0 : Int))) + (1 : Int)))) (Nat.blt (Int.toNat (IntKind.wrap IntKind.i64 (U.int (List.getD (List.getD l (Int.toNat i) []) (Nat.succ (0 : Nat)) (U.i (0 : Int))) + (1 : Int)))) (24 : Nat)) Bool.false) Bool.true Bool.false) (bc (Nat.blt (Int.toNat (IntKind.wrap IntKind.i64 (U.int (List.getD (List.getD l (Int.toNat i) []) (Nat.succ (0 : Nat)) (U.i (0 : Int))) + (1 : Int)))) (List.length (List.set c (Int.toNat (U.int (List.getD (List.getD l (Int.toNat i) []) (Nat.succ (0 : Nat)) (U.i (0 : Int))))) Bool.true))) Bool.true Bool.false) Bool.false) Bool.false) Bool.false) (bc (bc (bc (Decidable.decide (U.int (List.getD (List.getD l (Int.toNat i) []) (Nat.succ (0 : Nat)) (U.i (0 : Int))) = U.int (List.getD (List.getD l (Int.toNat i) []) (Nat.succ (0 : Nat)) (U.i (0 : Int))))) Bool.true Bool.false) Bool.true Bool.false) Bool.true Bool.false) Bool.false)
            (.at (sC (p) (a) (b) (l) (List.set (List.set c (Int.toNat (U.int (List.getD (List.getD l (Int.toNat i) []) (Nat.succ (0 : Nat)) (U.i (0 : Int))))) Bool.true) (Int.toNat (IntKind.wrap IntKind.i64 (U.int (List.getD (List.getD l (Int.toNat i) []) (Nat.succ (0 : Nat)) (U.i (0 : Int))) + (1 : Int)))) Bool.true) (IntKind.wrap IntKind.i64 (i + (1 : Int))) (q) (nn)))
            .bad)
          (bc (bc (bc (Decidable.decide ((0 : Int) ≤ U.int (List.getD (List.getD l (Int.toNat i) []) (Nat.succ (0 : Nat)) (U.i (0 : Int))))) (Nat.blt (Int.toNat (U.int (List.getD (List.getD l (Int.toNat i) []) (Nat.succ (0 : Nat)) (U.i (0 : Int))))) (24 : Nat)) Bool.false) Bool.true Bool.false)
            (bc (bc (Nat.blt (Int.toNat (U.int (List.getD (List.getD l (Int.toNat i) []) (Nat.succ (0 : Nat)) (U.i (0 : Int))))) (List.length c)) Bool.true Bool.false)
              (bc (List.getD c (Int.toNat (U.int (List.getD (List.getD l (Int.toNat i) []) (Nat.succ (0 : Nat)) (U.i (0 : Int))))) Bool.false)
                (bc (bc (bc (bc (bc (Decidable.decide ((0 : Int) ≤ U.int (List.getD (List.getD l (Int.toNat i) []) (Nat.succ (0 : Nat)) (U.i (0 : Int))))) (Nat.blt (Int.toNat (U.int (List.getD (List.getD l (Int.toNat i) []) (Nat.succ (0 : Nat)) (U.i (0 : Int))))) (24 : Nat)) Bool.false) Bool.true Bool.false) (bc (Nat.blt (Int.toNat (U.int (List.getD (List.getD l (Int.toNat i) []) (Nat.succ (0 : Nat)) (U.i (0 : Int))))) (List.length c)) (bc (bc (bc (Decidable.decide ((0 : Int) ≤ IntKind.wrap IntKind.i64 (U.int (List.getD (List.getD l (Int.toNat i) []) (Nat.succ (0 : Nat)) (U.i (0 : Int))) + (1 : Int)))) (Nat.blt (Int.toNat (IntKind.wrap IntKind.i64 (U.int (List.getD (List.getD l (Int.toNat i) []) (Nat.succ (0 : Nat)) (U.i (0 : Int))) + (1 : Int)))) (24 : Nat)) Bool.false) Bool.true Bool.false) (bc (Nat.blt (Int.toNat (IntKind.wrap IntKind.i64 (U.int (List.getD (List.getD l (Int.toNat i) []) (Nat.succ (0 : Nat)) (U.i (0 : Int))) + (1 : Int)))) (List.length (List.set c (Int.toNat (U.int (List.getD (List.getD l (Int.toNat i) []) (Nat.succ (0 : Nat)) (U.i (0 : Int))))) Bool.true))) Bool.true Bool.false) Bool.false) Bool.false) Bool.false) (bc (bc (bc (Decidable.decide (U.int (List.getD (List.getD l (Int.toNat i) []) (Nat.succ (0 : Nat)) (U.i (0 : Int))) = U.int (List.getD (List.getD l (Int.toNat i) []) (Nat.succ (0 : Nat)) (U.i (0 : Int))))) Bool.true Bool.false) Bool.true Bool.false) Bool.true Bool.false) Bool.false)
                  (.at (sC (p) (a) (b) (l) (List.set (List.set c (Int.toNat (U.int (List.getD (List.getD l (Int.toNat i) []) (Nat.succ (0 : Nat)) (U.i (0 : Int))))) Bool.true) (Int.toNat (IntKind.wrap IntKind.i64 (U.int (List.getD (List.getD l (Int.toNat i) []) (Nat.succ (0 : Nat)) (U.i (0 : Int))) + (1 : Int)))) Bool.true) (IntKind.wrap IntKind.i64 (i + (1 : Int))) (q) (nn)))
                  .bad)
                (bc (bc (bc (Decidable.decide ((0 : Int) ≤ IntKind.wrap IntKind.i64 (U.int (List.getD (List.getD l (Int.toNat i) []) (Nat.succ (0 : Nat)) (U.i (0 : Int))) + (1 : Int)))) (Nat.blt (Int.toNat (IntKind.wrap IntKind.i64 (U.int (List.getD (List.getD l (Int.toNat i) []) (Nat.succ (0 : Nat)) (U.i (0 : Int))) + (1 : Int)))) (24 : Nat)) Bool.false) Bool.true Bool.false)
                  (bc (bc (Nat.blt (Int.toNat (IntKind.wrap IntKind.i64 (U.int (List.getD (List.getD l (Int.toNat i) []) (Nat.succ (0 : Nat)) (U.i (0 : Int))) + (1 : Int)))) (List.length c)) Bool.true Bool.false)
                    (bc (List.getD c (Int.toNat (IntKind.wrap IntKind.i64 (U.int (List.getD (List.getD l (Int.toNat i) []) (Nat.succ (0 : Nat)) (U.i (0 : Int))) + (1 : Int)))) Bool.false)
                      (bc (bc (bc (bc (bc (Decidable.decide ((0 : Int) ≤ U.int (List.getD (List.getD l (Int.toNat i) []) (Nat.succ (0 : Nat)) (U.i (0 : Int))))) (Nat.blt (Int.toNat (U.int (List.getD (List.getD l (Int.toNat i) []) (Nat.succ (0 : Nat)) (U.i (0 : Int))))) (24 : Nat)) Bool.false) Bool.true Bool.false) (bc (Nat.blt (Int.toNat (U.int (List.getD (List.getD l (Int.toNat i) []) (Nat.succ (0 : Nat)) (U.i (0 : Int))))) (List.length c)) (bc (bc (bc (Decidable.decide ((0 : Int) ≤ IntKind.wrap IntKind.i64 (U.int (List.getD (List.getD l (Int.toNat i) []) (Nat.succ (0 : Nat)) (U.i (0 : Int))) + (1 : Int)))) (Nat.blt (Int.toNat (IntKind.wrap IntKind.i64 (U.int (List.getD (List.getD l (Int.toNat i) []) (Nat.succ (0 : Nat)) (U.i (0 : Int))) + (1 : Int)))) (24 : Nat)) Bool.false) Bool.true Bool.false) (bc (Nat.blt (Int.toNat (IntKind.wrap IntKind.i64 (U.int (List.getD (List.getD l (Int.toNat i) []) (Nat.succ (0 : Nat)) (U.i (0 : Int))) + (1 : Int)))) (List.length (List.set c (Int.toNat (U.int (List.getD (List.getD l (Int.toNat i) []) (Nat.succ (0 : Nat)) (U.i (0 : Int))))) Bool.true))) Bool.true Bool.false) Bool.false) Bool.false) Bool.false) (bc (bc (bc (Decidable.decide (U.int (List.getD (List.getD l (Int.toNat i) []) (Nat.succ (0 : Nat)) (U.i (0 : Int))) = U.int (List.getD (List.getD l (Int.toNat i) []) (Nat.succ (0 : Nat)) (U.i (0 : Int))))) Bool.true Bool.false) Bool.true Bool.false) Bool.true Bool.false) Bool.false)
                        (.at (sC (p) (a) (b) (l) (List.set (List.set c (Int.toNat (U.int (List.getD (List.getD l (Int.toNat i) []) (Nat.succ (0 : Nat)) (U.i (0 : Int))))) Bool.true) (Int.toNat (IntKind.wrap IntKind.i64 (U.int (List.getD (List.getD l (Int.toNat i) []) (Nat.succ (0 : Nat)) (U.i (0 : Int))) + (1 : Int)))) Bool.true) (IntKind.wrap IntKind.i64 (i + (1 : Int))) (q) (nn)))
                        .bad)
                      (bc (bc (Nat.beq (List.length q) (List.length q)) (bc (Nat.ble (List.length q + List.length [[U.i (U.int (List.getD (List.getD l (Int.toNat i) []) (0 : Nat) (U.i (0 : Int)))), U.i (IntKind.wrap IntKind.i64 (U.int (List.getD (List.getD l (Int.toNat i) []) (Nat.succ (0 : Nat)) (U.i (0 : Int))) - a)), U.s (U.str (List.getD (List.getD l (Int.toNat i) []) (Nat.succ (Nat.succ (0 : Nat))) (U.i (0 : Int))))]]) (65536 : Nat)) (bc nn Bool.true (bc nn Bool.false Bool.true)) Bool.false) Bool.false)
                        (.at (sC (p) (a) (b) (l) (c) (IntKind.wrap IntKind.i64 (i + (1 : Int))) (q ++ [[U.i (U.int (List.getD (List.getD l (Int.toNat i) []) (0 : Nat) (U.i (0 : Int)))), U.i (IntKind.wrap IntKind.i64 (U.int (List.getD (List.getD l (Int.toNat i) []) (Nat.succ (0 : Nat)) (U.i (0 : Int))) - a)), U.s (U.str (List.getD (List.getD l (Int.toNat i) []) (Nat.succ (Nat.succ (0 : Nat))) (U.i (0 : Int))))]]) (bc nn Bool.true (Nat.blt (0 : Nat) (List.length [[U.i (U.int (List.getD (List.getD l (Int.toNat i) []) (0 : Nat) (U.i (0 : Int)))), U.i (IntKind.wrap IntKind.i64 (U.int (List.getD (List.getD l (Int.toNat i) []) (Nat.succ (0 : Nat)) (U.i (0 : Int))) - a)), U.s (U.str (List.getD (List.getD l (Int.toNat i) []) (Nat.succ (Nat.succ (0 : Nat))) (U.i (0 : Int))))]])))))
                        .bad))
                    .bad)
                  .bad))
              .bad)
            .bad)))
      .bad)
    .bad)
  (bc (bc (bc (Nat.beq (List.length q) (List.length q)) Bool.true Bool.false) Bool.true Bool.false)
    (.done (EV.tup [(EV.agg [(EV.v (Value.int IntKind.i64 (p))), (EV.lst (SyC.recs [(Sh.int IntKind.i64), (Sh.int IntKind.i64), Sh.str] (q)))]), (EV.v (Value.int IntKind.i64 (0)))]) [] 0)
    .bad)) := by kernel_rfl
theorem in_t (n a b : Int) (l : List (List U)) : RUN (st0 33 [.agg [iv n, wl l], iv a, iv b]) = (bc (chk4 n l != (0 : Int))
  (.done (EV.tup [(EV.v (Value.agg (Array.mk [(Value.int IntKind.i64 (0)), (Value.slice Option.none 0 0)]))), (EV.v (Value.int IntKind.i64 (chk4 n l)))]) [] 0)
  (bc (Decidable.decide (a < (0 : Int)))
    (.done (EV.tup [(EV.v (Value.agg (Array.mk [(Value.int IntKind.i64 (0)), (Value.slice Option.none 0 0)]))), (EV.v (Value.int IntKind.i64 (7)))]) [] 0)
    (bc (Decidable.decide (n ≤ b))
      (.done (EV.tup [(EV.v (Value.agg (Array.mk [(Value.int IntKind.i64 (0)), (Value.slice Option.none 0 0)]))), (EV.v (Value.int IntKind.i64 (7)))]) [] 0)
      (bc (Decidable.decide (b ≤ a))
        (.done (EV.tup [(EV.v (Value.agg (Array.mk [(Value.int IntKind.i64 (0)), (Value.slice Option.none 0 0)]))), (EV.v (Value.int IntKind.i64 (7)))]) [] 0)
        (.at (sC (IntKind.wrap IntKind.i64 (IntKind.wrap IntKind.i64 (b - a) + (1 : Int))) (a) (b) (l) (List.map (fun r => U.bool (List.headD r (U.i (0 : Int)))) [[U.b Bool.false], [U.b Bool.false], [U.b Bool.false], [U.b Bool.false], [U.b Bool.false], [U.b Bool.false], [U.b Bool.false], [U.b Bool.false], [U.b Bool.false], [U.b Bool.false], [U.b Bool.false], [U.b Bool.false], [U.b Bool.false], [U.b Bool.false], [U.b Bool.false], [U.b Bool.false], [U.b Bool.false], [U.b Bool.false], [U.b Bool.false], [U.b Bool.false], [U.b Bool.false], [U.b Bool.false], [U.b Bool.false], [U.b Bool.false]]) ((0 : Int)) ([]) (Bool.false))))))) := by kernel_rfl
theorem step {p a b : Int} {l : List (List U)} {c : List Bool} {i d : Nat} {q : List (List U)} {nn : Bool} (hi : i < l.length) (hl : l.length ≤ 1000) (hc : c.length = 24) (hq : q.length ≤ 1000) (hd : rA (l.getD i []) = (d : Int)) (h22 : d ≤ 22) (ha : -1000 ≤ a ∧ a ≤ 1000) : RUN (stOf (sC p a b l c i q nn)) = bc (bc (decide ((d : Int) < a)) true (bc (decide (b ≤ (d : Int))) true (bc (c.getD d false) true (c.getD (d + 1) false)))) (.at (sC p a b l ((c.set d true).set (d + 1) true) (i + 1 : Nat) q nn)) (.at (sC p a b l c (i + 1 : Nat) (q ++ [dnR a (l.getD i [])]) true)) := by
  rw [step_t]
  have e2 : IntKind.wrap IntKind.i64 ((d : Int) + 1) = ((d + 1 : Nat) : Int) := by simp (disch := omega) only [wrap_in]; rfl
  have e3 : dnR a (l.getD i []) = mkR (rK (l.getD i [])) ((d : Int) - a) (rW (l.getD i [])) := by unfold dnR; rw [hd]
  rw [e3]
  by_cases h1 : (d : Int) < a
  · simp (disch := omega) only [Nat.add_eq, eqSy_self, eqN_self, bc_same, List.length_cons, ofn, wrap_in, dt, df, bltD, bltN, ble_of, bleN, beqD, bc_t, bc_f, nn_ok, Nat.zero_add, to_nat, Int.zero_add, Int.sub_zero, Int.sub_self, Int.cast_ofNat_Int, Int.natCast_zero, Int.toNat_zero, List.take_zero, List.nil_append, List.length_append, List.length_nil, fK0, fK1, fA0, fA1, fA2, fW0, fW1, fW2, hd, e2, hc, dt h1, Int.toNat_natCast, List.length_set]
    rfl
  · by_cases h2 : b ≤ (d : Int)
    · simp (disch := omega) only [Nat.add_eq, eqSy_self, eqN_self, bc_same, List.length_cons, ofn, wrap_in, dt, df, bltD, bltN, ble_of, bleN, beqD, bc_t, bc_f, nn_ok, Nat.zero_add, to_nat, Int.zero_add, Int.sub_zero, Int.sub_self, Int.cast_ofNat_Int, Int.natCast_zero, Int.toNat_zero, List.take_zero, List.nil_append, List.length_append, List.length_nil, fK0, fK1, fA0, fA1, fA2, fW0, fW1, fW2, hd, e2, hc, df h1, dt h2, Int.toNat_natCast, List.length_set]
      rfl
    · cases h3 : c.getD d false
      · cases h4 : c.getD (d + 1) false
        · simp (disch := omega) only [Nat.add_eq, eqSy_self, eqN_self, bc_same, List.length_cons, ofn, wrap_in, dt, df, bltD, bltN, ble_of, bleN, beqD, bc_t, bc_f, nn_ok, Nat.zero_add, to_nat, Int.zero_add, Int.sub_zero, Int.sub_self, Int.cast_ofNat_Int, Int.natCast_zero, Int.toNat_zero, List.take_zero, List.nil_append, List.length_append, List.length_nil, fK0, fK1, fA0, fA1, fA2, fW0, fW1, fW2, hd, e2, hc, df h1, df h2, h3, h4, Int.toNat_natCast, List.length_set]
          rfl
        · simp (disch := omega) only [Nat.add_eq, eqSy_self, eqN_self, bc_same, List.length_cons, ofn, wrap_in, dt, df, bltD, bltN, ble_of, bleN, beqD, bc_t, bc_f, nn_ok, Nat.zero_add, to_nat, Int.zero_add, Int.sub_zero, Int.sub_self, Int.cast_ofNat_Int, Int.natCast_zero, Int.toNat_zero, List.take_zero, List.nil_append, List.length_append, List.length_nil, fK0, fK1, fA0, fA1, fA2, fW0, fW1, fW2, hd, e2, hc, df h1, df h2, h3, h4, Int.toNat_natCast, List.length_set]
          rfl
      · simp (disch := omega) only [Nat.add_eq, eqSy_self, eqN_self, bc_same, List.length_cons, ofn, wrap_in, dt, df, bltD, bltN, ble_of, bleN, beqD, bc_t, bc_f, nn_ok, Nat.zero_add, to_nat, Int.zero_add, Int.sub_zero, Int.sub_self, Int.cast_ofNat_Int, Int.natCast_zero, Int.toNat_zero, List.take_zero, List.nil_append, List.length_append, List.length_nil, fK0, fK1, fA0, fA1, fA2, fW0, fW1, fW2, hd, e2, hc, df h1, df h2, h3, Int.toNat_natCast, List.length_set]
        rfl
end PCut
theorem tch_iff (x y : List U) : tch x y = true ↔ rA x - rA y ≤ 1 ∧ rA y - rA x ≤ 1 := by
  unfold tch
  by_cases h1 : rA x - rA y ≤ 1
  · rw [dt h1, bc_t, decide_eq_true_iff]; exact ⟨fun h => ⟨h1, h⟩, fun h => h.2⟩
  · rw [df h1, bc_f]; exact ⟨fun h => (by cases h), fun h => absurd h.1 h1⟩
theorem getD_set_ne {α : Type} (q : List α) {i j : Nat} (x d : α) (h : i ≠ j) : (q.set i x).getD j d = q.getD j d := by
  rw [List.getD_eq_getElem?_getD, List.getD_eq_getElem?_getD, List.getElem?_set_ne h]
theorem getD_set_eq {α : Type} (q : List α) {i : Nat} (x d : α) (h : i < q.length) : (q.set i x).getD i d = x := by
  rw [List.getD_eq_getElem?_getD, List.getElem?_set_self h]; rfl
theorem outF_ne (l : List (List U)) (a b : Int) (q : List Bool) {i j : Nat} (h : i ≠ j) : (outF l a b q i).getD j false = q.getD j false := by
  unfold outF
  cases inB l (q.set i (rng a b (l.getD i []))) i 0 i
  · exact getD_set_ne q _ _ h
  · show ((q.set i _).set i false).getD j false = _
    rw [getD_set_ne _ _ _ h, getD_set_ne _ _ _ h]
theorem outF_at (l : List (List U)) (a b : Int) (q : List Bool) {i : Nat} (h : i < q.length) : (outF l a b q i).getD i false = bc (inB l (q.set i (rng a b (l.getD i []))) i 0 i) false (rng a b (l.getD i [])) := by
  unfold outF
  cases inB l (q.set i (rng a b (l.getD i []))) i 0 i
  · exact getD_set_eq q _ _ h
  · show ((q.set i _).set i false).getD i false = _
    exact getD_set_eq _ _ _ (by rw [List.length_set]; exact h)
theorem inB_set (l : List (List U)) (q : List Bool) (i : Nat) (x : Bool) : inB l (q.set i x) i 0 i = inB l q i 0 i := by
  rw [Bool.eq_iff_iff, inB_iff, inB_iff]
  constructor <;> rintro ⟨j, h1, h2, h3, h4⟩ <;> refine ⟨j, h1, h2, ?_, h4⟩
  · rwa [getD_set_ne _ _ _ (by omega)] at h3
  · rwa [getD_set_ne _ _ _ (by omega)]
/-- what the array of closed places says -/
structure InvC (l : List (List U)) (c q : List Bool) (i : Nat) : Prop where
  hc : c.length = 24
  hq : q.length = l.length
  iff : ∀ p : Nat, p < 24 → (c.getD p false = true ↔ ∃ j, j < i ∧ q.getD j false = false ∧ (rA (l.getD j []) = (p : Int) ∨ rA (l.getD j []) + 1 = (p : Int)))
theorem InvC.inB {l : List (List U)} {c q : List Bool} {i d : Nat} (I : InvC l c q i) (hd : rA (l.getD i []) = (d : Int)) (h22 : d ≤ 22) : inB l q i 0 i = bc (c.getD d false) true (c.getD (d + 1) false) := by
  have e : bc (c.getD d false) true (c.getD (d + 1) false) = true ↔ c.getD d false = true ∨ c.getD (d + 1) false = true := by
    cases c.getD d false <;> simp [bc]
  rw [Bool.eq_iff_iff, inB_iff, e, I.iff d (by omega), I.iff (d + 1) (by omega)]
  constructor
  · rintro ⟨j, h1, h2, h3, h4⟩
    rw [tch_iff, hd] at h4
    by_cases h5 : rA (l.getD j []) = (d : Int) + 1
    · exact .inr ⟨j, by omega, h3, .inl (by omega)⟩
    · exact .inl ⟨j, by omega, h3, by omega⟩
  · rintro (⟨j, h1, h2, h3⟩ | ⟨j, h1, h2, h3⟩) <;> exact ⟨j, by omega, by omega, h2, by rw [tch_iff, hd]; omega⟩
noncomputable def blkC (a b : Int) (c : List Bool) (d : Nat) : Bool := bc (decide ((d : Int) < a)) true (bc (decide (b ≤ (d : Int))) true (bc (c.getD d false) true (c.getD (d + 1) false)))
theorem InvC.out {l : List (List U)} {c q : List Bool} {i d : Nat} (I : InvC l c q i) (hi : i < l.length) (hd : rA (l.getD i []) = (d : Int)) (h22 : d ≤ 22) (a b : Int) : (outF l a b q i).getD i false = !blkC a b c d := by
  rw [outF_at _ _ _ _ (by rw [I.hq]; exact hi), inB_set, I.inB hd h22]
  unfold blkC rng
  rw [hd]
  by_cases h1 : (d : Int) < a
  · rw [dt h1, df (show ¬ a ≤ (d : Int) by omega)]
    cases bc (c.getD d false) true (c.getD (d + 1) false) <;> rfl
  · rw [df h1, dt (show a ≤ (d : Int) by omega)]
    by_cases h2 : b ≤ (d : Int)
    · rw [dt h2, df (show ¬ (d : Int) < b by omega)]
      cases bc (c.getD d false) true (c.getD (d + 1) false) <;> rfl
    · rw [df h2, dt (show (d : Int) < b by omega)]
      cases bc (c.getD d false) true (c.getD (d + 1) false) <;> rfl
theorem InvC.no {l : List (List U)} {c q : List Bool} {i d : Nat} (I : InvC l c q i) (hi : i < l.length) (hd : rA (l.getD i []) = (d : Int)) (h22 : d ≤ 22) {a b : Int} (h : blkC a b c d = false) : InvC l c (outF l a b q i) (i + 1) := by
  have ho := I.out hi hd h22 a b
  rw [h] at ho
  refine ⟨I.hc, by rw [outF_len]; exact I.hq, fun p hp => ?_⟩
  rw [I.iff p hp]
  constructor
  · rintro ⟨j, h1, h2, h3⟩
    exact ⟨j, by omega, by rw [outF_ne _ _ _ _ (by omega)]; exact h2, h3⟩
  · rintro ⟨j, h1, h2, h3⟩
    by_cases e : j = i
    · subst e; rw [ho] at h2; cases h2
    · exact ⟨j, by omega, by rwa [outF_ne _ _ _ _ (by omega)] at h2, h3⟩
theorem InvC.yes {l : List (List U)} {c q : List Bool} {i d : Nat} (I : InvC l c q i) (hi : i < l.length) (hd : rA (l.getD i []) = (d : Int)) (h22 : d ≤ 22) {a b : Int} (h : blkC a b c d = true) : InvC l ((c.set d true).set (d + 1) true) (outF l a b q i) (i + 1) := by
  have ho := I.out hi hd h22 a b
  rw [h] at ho
  have hc := I.hc
  refine ⟨by rw [List.length_set, List.length_set]; exact I.hc, by rw [outF_len]; exact I.hq, fun p hp => ?_⟩
  by_cases e1 : p = d + 1
  · subst e1
    rw [getD_set_eq _ _ _ (by rw [List.length_set]; omega)]
    exact ⟨fun _ => ⟨i, by omega, ho, .inr (by omega)⟩, fun _ => rfl⟩
  rw [getD_set_ne _ _ _ (by omega)]
  by_cases e2 : p = d
  · subst e2
    rw [getD_set_eq _ _ _ (by omega)]
    exact ⟨fun _ => ⟨i, by omega, ho, .inl hd⟩, fun _ => rfl⟩
  rw [getD_set_ne _ _ _ (by omega), I.iff p hp]
  constructor
  · rintro ⟨j, h1, h2, h3⟩
    exact ⟨j, by omega, by rw [outF_ne _ _ _ _ (by omega)]; exact h2, h3⟩
  · rintro ⟨j, h1, h2, h3⟩
    by_cases e : j = i
    · subst e; omega
    · exact ⟨j, by omega, by rwa [outF_ne _ _ _ _ (by omega)] at h2, h3⟩
theorem kepF_lt (l : List (List U)) (a b : Int) : ∀ (k i j : Nat) (q : List Bool), j < i → (kepF l a b i q k).getD j false = q.getD j false
  | 0, i, j, q, h => rfl
  | k + 1, i, j, q, h => by
    unfold kepF
    rw [kepF_lt l a b k (i + 1) j _ (by omega), outF_ne _ _ _ _ (by omega)]
namespace PCut
theorem last {p a b : Int} {l : List (List U)} {c : List Bool} {i : Nat} {q : List (List U)} {nn : Bool} (hi : l.length ≤ i) : RUN (stOf (sC p a b l c i q nn)) = .done (shE p q 0) [] 0 := by
  rw [step_t]
  simp (disch := omega) only [Nat.add_eq, eqSy_self, eqN_self, bc_same, List.length_cons, ofn, wrap_in, dt, df, bltD, bltN, ble_of, bleN, beqD, bc_t, bc_f, nn_ok, Nat.zero_add, to_nat, Int.zero_add, Int.sub_zero, Int.sub_self, Int.cast_ofNat_Int, Int.natCast_zero, Int.toNat_zero, List.take_zero, List.nil_append, List.length_append, List.length_nil]
  rfl
theorem loop {p a b : Int} {l : List (List U)} (hl : l.length ≤ 1000) (ha : ∀ j, j < l.length → 0 ≤ rA (l.getD j []) ∧ rA (l.getD j []) ≤ 22) (h2 : -1000 ≤ a ∧ a ≤ 1000) : ∀ (m i : Nat) (c kq : List Bool) (q : List (List U)) (nn : Bool), i + m = l.length → q.length ≤ i → InvC l c kq i → EndZ 33 ctJ1 false (stOf (sC p a b l c i q nn)) (shE p (q ++ cutG (kepF l a b i kq m) l a i m) 0) [] 0
  | 0, i, c, kq, q, nn, h, hq, I => by
    show EndZ _ _ _ _ (shE p (q ++ []) 0) _ _
    rw [List.append_nil]
    exact .done (last (by omega))
  | m + 1, i, c, kq, q, nn, h, hq, I => by
    have hi : i < l.length := by omega
    obtain ⟨d, hd⟩ := Int.eq_ofNat_of_zero_le (ha i hi).1
    have h22 : d ≤ 22 := by have := (ha i hi).2; omega
    have hs := step (p := p) (b := b) (nn := nn) hi hl I.hc (show q.length ≤ 1000 by omega) hd h22 h2
    have ho := I.out hi hd h22 a b
    have hk : (kepF l a b i kq (m + 1)).getD i false = !blkC a b c d := by
      unfold kepF
      rw [kepF_lt _ _ _ _ _ _ _ (by omega)]; exact ho
    have hs' : RUN (stOf (sC p a b l c i q nn)) = bc (blkC a b c d) (.at (sC p a b l ((c.set d true).set (d + 1) true) (i + 1 : Nat) q nn)) (.at (sC p a b l c (i + 1 : Nat) (q ++ [dnR a (l.getD i [])]) true)) := hs
    unfold cutG
    rw [hk]
    cases hb : blkC a b c d <;> rw [hb] at hs'
    · show EndZ _ _ _ _ (shE p (q ++ (dnR a (l.getD i []) :: cutG (kepF l a b (i + 1) (outF l a b kq i) m) l a (i + 1) m)) 0) _ _
      rw [show ∀ z : List (List U), q ++ (dnR a (l.getD i []) :: z) = (q ++ [dnR a (l.getD i [])]) ++ z by intro z; simp]
      exact .at ctJ1_ok hs' (loop hl ha h2 m (i + 1) _ _ _ true (by omega) (by simp; omega) (I.no hi hd h22 hb))
    · exact .at ctJ1_ok hs' (loop hl ha h2 m (i + 1) _ _ q nn (by omega) (by omega) (I.yes hi hd h22 hb))
theorem inv0 (l : List (List U)) : InvC l (List.map (fun r => U.bool (List.headD r (U.i (0 : Int)))) [[U.b Bool.false], [U.b Bool.false], [U.b Bool.false], [U.b Bool.false], [U.b Bool.false], [U.b Bool.false], [U.b Bool.false], [U.b Bool.false], [U.b Bool.false], [U.b Bool.false], [U.b Bool.false], [U.b Bool.false], [U.b Bool.false], [U.b Bool.false], [U.b Bool.false], [U.b Bool.false], [U.b Bool.false], [U.b Bool.false], [U.b Bool.false], [U.b Bool.false], [U.b Bool.false], [U.b Bool.false], [U.b Bool.false], [U.b Bool.false]]) (List.replicate l.length false) 0 := by
  refine ⟨rfl, List.length_replicate, fun p hp => ?_⟩
  rw [show (List.map (fun r => U.bool (List.headD r (U.i (0 : Int)))) [[U.b Bool.false], [U.b Bool.false], [U.b Bool.false], [U.b Bool.false], [U.b Bool.false], [U.b Bool.false], [U.b Bool.false], [U.b Bool.false], [U.b Bool.false], [U.b Bool.false], [U.b Bool.false], [U.b Bool.false], [U.b Bool.false], [U.b Bool.false], [U.b Bool.false], [U.b Bool.false], [U.b Bool.false], [U.b Bool.false], [U.b Bool.false], [U.b Bool.false], [U.b Bool.false], [U.b Bool.false], [U.b Bool.false], [U.b Bool.false]]) = List.replicate 24 false from rfl]
  constructor
  · intro h
    rw [List.getD_eq_getElem?_getD, List.getElem?_replicate] at h
    split at h <;> cases h
  · rintro ⟨j, h1, _⟩; omega
theorem ends (n a b : Int) (l : List (List U)) : EndZ 33 ctJ1 false (st0 33 [.agg [iv n, wl l], iv a, iv b]) (shE (cutP n a b l) (cutL n a b l) (cutE n a b l)) [] 0 := by
  have h := in_t n a b l
  have he : cutE n a b l = bc (chk4 n l != 0) (chk4 n l) (bc (decide (a < 0)) 7 (bc (decide (n ≤ b)) 7 (bc (decide (b ≤ a)) 7 0))) := rfl
  cases h1 : (chk4 n l != 0) <;> rw [h1] at h he
  · have v := chk4_ok (ne0 h1)
    have g1 := v.lo
    have g2 := v.hi
    have g3 := v.len
    simp only [bc_f] at h he
    by_cases h2 : a < 0
    · simp only [dt h2, bc_t] at h he
      exact doneY h (cutV he rfl).1.symm (cutV he rfl).2.symm he.symm
    by_cases h3 : n ≤ b
    · simp only [df h2, dt h3, bc_t, bc_f] at h he
      exact doneY h (cutV he rfl).1.symm (cutV he rfl).2.symm he.symm
    by_cases h4 : b ≤ a
    · simp only [df h2, df h3, dt h4, bc_t, bc_f] at h he
      exact doneY h (cutV he rfl).1.symm (cutV he rfl).2.symm he.symm
    simp (disch := omega) only [df h2, df h3, df h4, bc_t, bc_f, wrap_in] at h he
    have key := loop (p := b - a + 1) (a := a) (b := b) (l := l) (by omega) (fun j hj => by
      rw [getD_at hj]
      have := v.val _ (List.getElem_mem hj)
      have k1 := this.lo
      have k2 := this.hi
      omega) ⟨by omega, by omega⟩ l.length 0 _ _ [] false (by omega) (by simp) (inv0 l)
    rw [List.nil_append] at key
    rw [(cutV0 he).1, (cutV0 he).2, he]
    exact .at ctJ1_ok h key
  · simp only [bc_t] at h he
    exact doneY h (cutV he h1).1.symm (cutV he h1).2.symm he.symm
end PCut
noncomputable def spPCut : ZCT := fun ax => match ax with
  | [.agg [.v (.int .i64 n), .lst (.recs [.int .i64, .int .i64, .str] l)], .v (.int .i64 a), .v (.int .i64 b)] => some ⟨decide (True), shE (cutP n a b l) (cutL n a b l) (cutE n a b l), [], 0⟩
  | _ => none
theorem spPCut_ok : ZCtOk Try.prog 33 spPCut := fun γ w us ax r hs hc hax hN hfz => by
  unfold spPCut at hs
  split at hs
  case h_2 => cases hs
  rename_i n l a b
  obtain ⟨rfl⟩ := Option.some.inj hs
  have hc_0 : decide (True) = true := hc
  have hc := of_decide_eq_true hc_0
  exact EndZ.calls (PCut.ends n a b l) ctJ1_ok (by kernel_rfl) hax hN hfz
end Go.Proofs.Ytkbebiebaenbdaa.Ev
namespace Go.Proofs.Ytkbebiebaenbdaa.Ev
open Go.Proofs
theorem awake_run : endsB (exClosed Try.prog ft (drD Try.prog ft 16 4) 22 18) = true := by kernel_rfl
theorem awakeC (w : World) : Calls Try.prog 22 #[] w fun e w' => e = .returned (.bool true) ∧ Stays w w' := closedTrue ftOk (drD_ok mix ftOk 16 4) awake_run w
theorem spAwake_ok : ZCtOk Try.prog 22 spTrue := spTrue_ok awakeC
end Go.Proofs.Ytkbebiebaenbdaa.Ev
namespace Go.Proofs.Ytkbebiebaenbdaa
open Go.ChangeShapes Go.WideShapes Go.ChangeAt Go.RowKit

theorem kept_of_stays {W W' : World} (h : Ev.Stays W W') (may : MemPlace → Prop) : W.keptBut W' may := by
  refine ⟨h.os, h.output, fun i hi => ?_⟩
  have e := h.block i hi
  rw [e]
  cases hb : W.heap[i]? with
  | none => simp
  | some o =>
    cases o <;> first | exact ⟨rfl, rfl, rfl, fun _ _ => rfl⟩ | exact .inr ⟨rfl, rfl⟩ | rfl
theorem frozen_of_stays {W W' : World} (h : Ev.Stays W W') (a : Addr) (ha : a.block < W.heap.size) : W'.frozen? a = W.frozen? a := by
  unfold World.frozen?
  rw [h.block _ ha]
section
variable {H : Type} {enc : TypeId × Value → H} {P : Program}
/-- 'post_of_same', where only the blocks that were there are as they were -/
theorem post_of_stays {f : Func} {s : ChangeSpec} {apart fresh handsOn again : Bool} {W W' : World} {args : Array Value} {v : Value} {ds gs : List (DataW H)} {before pa pv : List MemPlace}
    (hW : DataW.Whole enc P f.params.toList s.vars apart W args.toList ds gs before)
    (hres : ∀ (b : Nat) (sp : Nat → Bool) (hd : Bool), DataW.TrodAll enc P W' b sp hd f.resultTypes.toList (v.resultList f.resultTypes.size) (s.fn H (ds ++ gs)).results [])
    (hargs : ∀ sp : Nat → Bool, (∀ p ∈ before, sp p.block = true) → DataW.TrodAll enc P W' 0 sp true f.params.toList args.toList (s.fn H (ds ++ gs)).args pa)
    (hvars : ∀ sp : Nat → Bool, (∀ p ∈ before, sp p.block = true) → DataW.TrodVars enc P W' sp s.vars (s.fn H (ds ++ gs)).vars pv)
    (hps : before = pa ++ pv) (hst : Ev.Stays W W')
    (hok : ∀ (j : Nat) (t : TypeId) (r : Value), f.resultTypes[j]? = some t → (v.resultList f.resultTypes.size)[j]? = some r → Value.okWide P W' .any 0 t r) :
    s.post enc P f apart fresh handsOn again W args v W' := by
  have hk : W.keptBut W' (· ∈ before) := kept_of_stays hst _
  have hold : ∀ p ∈ before, (fun b => decide (b < W.heap.size)) p.block = true := fun p hp => by simpa using hW.lt p hp
  have hlt := fun p hp => hW.lt p hp
  refine ⟨ds, gs, before, [], pa, pv, hW, hres _ _ _, hargs _ hold, hvars _ hold, World.keptBut_mono (fun p hp => ⟨hp, ?_⟩) hk, fun _ => ?_⟩
  · rw [hps, List.mem_append] at hp
    exact Or.inr hp
  · obtain ⟨_, _, _, _, _, hz, hn⟩ := hW
    refine ⟨hok, _, _, ([] ++ pa) ++ pv, ⟨[] ++ pa, pv, trodAll_append (hargs _ (fun _ _ => rfl)) (hres _ _ _), hvars _ (fun _ _ => rfl), rfl, ?_, ?_⟩, ?_⟩
    · intro b off hp
      have hp2 : MemPlace.cell b off ∈ before := by rw [hps]; simpa using hp
      rw [frozen_of_stays hst _ (hlt _ hp2)]
      exact hz b off hp2
    · intro ha
      have := hn ha
      rw [hps] at this
      simpa using this
    · intro p hp _
      rw [hps]
      simpa using hp
end
end Go.Proofs.Ytkbebiebaenbdaa
namespace Go.Proofs.Ytkbebiebaenbdaa
open Go.ChangeShapes Go.WideShapes Go.ChangeAt Go.RowKit
section
variable {H : Type} {enc : TypeId × Value → H} {P : Program}
theorem same_of_stays {W W' : World} (h : Ev.Stays W W') {p : MemPlace} (hp : p.block < W.heap.size) : W.sameAt W' p := by
  cases p with
  | cell b off =>
    show W'.cell? _ = W.cell? _
    unfold World.cell?
    rw [h.block b hp]
  | map b => exact h.block b hp
theorem args_carry {W W' : World} {base : Nat} {sp : Nat → Bool} {hd : Bool} : ∀ {ts : List TypeId} {vs : List Value} {ds : List (DataW H)} {ps : List MemPlace}, DataW.TrodAll enc P W base sp hd ts vs ds ps → (∀ p ∈ ps, W.sameAt W' p) → DataW.TrodAll enc P W' base sp hd ts vs ds ps
  | [], [], [], _, h, _ => h
  | _ :: _, _ :: _, _ :: _, _, ⟨p, q, ⟨n, h⟩, hs, e⟩, k => ⟨p, q, ⟨n, DataW.trod_carry n _ _ _ h fun x hx => k x (by rw [e]; exact List.mem_append_left _ hx)⟩, args_carry hs fun x hx => k x (by rw [e]; exact List.mem_append_right _ hx), e⟩
  | [], [], _ :: _, _, h, _ => h.elim
  | [], _ :: _, _, _, h, _ => h.elim
  | _ :: _, [], _, _, h, _ => h.elim
  | _ :: _, _ :: _, [], _, h, _ => h.elim
/-- a law's closing condition: true, and its arguments read as they did -/
theorem post_law {f : Func} {s : ChangeSpec} {apart fresh handsOn again : Bool} {W W' : World} {args : Array Value} {ds : List (DataW H)} {p : List MemPlace} {bt : TypeId} {T : TypeId → Prop} (K : Kids P T) (hz : ∀ t e, T t → P.underlying t = some (.slice e) → 0 < P.cellsOf e)
    (hbt : P.underlying bt = some .bool) (hrt : f.resultTypes.toList = [bt]) (hsz : f.resultTypes.size = 1) (hvs : s.vars = []) (hfn : s.fn H (ds ++ []) = { results := [.lit (.bool true)], args := ds })
    (hpt : ∀ t ∈ f.params.toList, T t)
    (hW : DataW.Whole enc P f.params.toList s.vars apart W args.toList ds [] (p ++ [])) (hA : DataW.TrodAll enc P W 0 (fun _ => true) true f.params.toList args.toList ds p) (hst : Ev.Stays W W')
    (hok : ∀ (j : Nat) (t : TypeId) (r : Value), f.resultTypes[j]? = some t → ((Value.bool true).resultList f.resultTypes.size)[j]? = some r → Value.okWide P W' .any 0 t r) :
    s.post enc P f apart fresh handsOn again W args (.bool true) W' := by
  have hlt := fun q hq => hW.lt q hq
  refine post_of_stays (pa := p) (pv := []) hW (fun b sp hd => ?_) (fun sp hsp => ?_) (fun sp _ => ?_) rfl hst hok
  · rw [hrt, hfn, hsz]
    exact trodAll_mk1 (shut_bool hbt _)
  · rw [hfn]
    exact DataW.TrodAll.respare K hz hpt (args_carry hA fun q hq => same_of_stays hst (hlt q (by simpa using hq))) fun q hq => hsp q (by simpa using hq)
  · rw [hfn, hvs]
    rfl
end
namespace Ev
/-! ### data that came in -/
/-- numbers fit their kinds, rows are whole -/
inductive UFit : Sh → U → Prop where
  | int (k : IntKind) (n : Int) (h : (Lit.int k n).wf = true) : UFit (.int k) (.i n)
  | bool (b : Bool) : UFit .bool (.b b)
  | str (s : ByteArray) (h : s.size ≤ maxLen) : UFit .str (.s s)
  | list (sh : List Sh) (l : List (List U)) (hl : l.length ≤ maxLen) (hr : ∀ j, j < l.length → (l.getD j []).length = sh.length) (h : ∀ (j f : Nat) (s : Sh), j < l.length → sh[f]? = some s → UFit s ((l.getD j []).getD f (.i 0))) : UFit (.list sh) (.l l)
structure RowFit (sh : List Sh) (r : List U) : Prop where
  len : r.length = sh.length
  fit : ∀ (f : Nat) (s : Sh), sh[f]? = some s → UFit s (r.getD f (.i 0))
theorem RowFit.nil : RowFit [] [] := ⟨rfl, fun f s h => by simp at h⟩
theorem RowFit.append {sh1 sh2 : List Sh} {r1 r2 : List U} (h1 : RowFit sh1 r1) (h2 : RowFit sh2 r2) : RowFit (sh1 ++ sh2) (r1 ++ r2) := by
  refine ⟨by simp [h1.len, h2.len], fun f s h => ?_⟩
  rw [List.getD_eq_getElem?_getD]
  by_cases hf : f < sh1.length
  · rw [List.getElem?_append_left hf] at h
    rw [List.getElem?_append_left (by rw [h1.len]; exact hf), ← List.getD_eq_getElem?_getD]
    exact h1.fit f s h
  · rw [List.getElem?_append_right (by omega)] at h
    rw [List.getElem?_append_right (by rw [h1.len]; omega), h1.len, ← List.getD_eq_getElem?_getD]
    exact h2.fit _ s h
theorem recE_app : ∀ {sh1 sh2 : List Sh} {r1 r2 : List U}, r1.length = sh1.length → recE (sh1 ++ sh2) (r1 ++ r2) = recE sh1 r1 ++ recE sh2 r2
  | [], sh2, r1, r2, h => by
    have : r1 = [] := List.eq_nil_of_length_eq_zero h
    subst this; rfl
  | s :: sh1, sh2, [], r2, h => by cases h
  | s :: sh1, sh2, u :: r1, r2, h => by
    show s.ev u :: recE (sh1 ++ sh2) (r1 ++ r2) = s.ev u :: (recE sh1 r1 ++ recE sh2 r2)
    rw [recE_app (by simpa using h)]
/-- shapes of types, where cells lie one behind the other -/
def shFs (P : Program) (f : TypeId → Option (List Sh)) : List Field → Nat → Option (List Sh)
  | [], _ => some []
  | fd :: r, off => match f fd.type with
    | some sh => if fd.offset = off ∧ P.cellsOf fd.type = sh.length then match shFs P f r (off + sh.length) with
      | some l => some (sh ++ l)
      | none => none else none
    | none => none
def shB (P : Program) : Nat → TypeId → Option (List Sh)
  | 0, _ => none
  | k + 1, t => match P.underlying t with
    | some (.int κ) => some [.int κ]
    | some .bool => some [.bool]
    | some .string => some [.str]
    | some (.slice e) => match shB P k e with
      | some sh => if P.cellsOf e = sh.length ∧ 0 < sh.length then some [.list sh] else none
      | none => none
    | some (.struct fs) => match shFs P (shB P k) fs.toList 0 with
      | some sh => if P.cellsOf t = sh.length then some sh else none
      | none => none
    | some (.array m e) => match shB P k e with
      | some sh => if P.cellsOf e = sh.length ∧ P.cellsOf t = m * sh.length then some (List.replicate m sh).flatten else none
      | none => none
    | _ => none
noncomputable def fzAll (W : World) : Nat → Option (Array Value) := fun k => match W.heap[k]? with
  | some (.cells a _ _) => some a
  | _ => none
noncomputable def gAll (W : World) : G := ⟨fun _ => none, fzAll W⟩
theorem fzAll_at (W : World) : FzAt (gAll W) W := fun k a hk => by
  have hk : fzAll W k = some a := hk
  unfold fzAll at hk
  split at hk
  · rename_i a' ty fz h
    injection hk with hk; subst hk
    exact ⟨ty, fz, h⟩
  · cases hk
theorem list_of {Q : Nat → List U → Prop} : ∀ (n : Nat), (∀ i, i < n → ∃ r, Q i r) → ∃ l : List (List U), l.length = n ∧ ∀ i, i < n → Q i (l.getD i [])
  | 0, _ => ⟨[], rfl, fun i hi => absurd hi (by omega)⟩
  | n + 1, h => by
    obtain ⟨l, h1, h2⟩ := list_of n fun i hi => h i (by omega)
    obtain ⟨r, hr⟩ := h n (by omega)
    refine ⟨l ++ [r], by simp [h1], fun i hi => ?_⟩
    rw [List.getD_eq_getElem?_getD]
    by_cases e : i < n
    · rw [List.getElem?_append_left (by omega), ← List.getD_eq_getElem?_getD]; exact h2 i e
    · have : i = n := by omega
      subst this
      rw [List.getElem?_append_right (by omega), h1, Nat.sub_self]; exact hr
variable {H : Type} {enc : TypeId × Value → H} {P : Program} {W : World} {base : Nat} {sp : Nat → Bool} {hd : Bool}
def OpenAt (enc : TypeId × Value → H) (P : Program) (W : World) (base : Nat) (sp : Nat → Bool) (hd : Bool) (k : Nat) : Prop := ∀ (t : TypeId) (sh : List Sh) (fuel : Nat) (cs : List Value) (x : DataW H × List MemPlace), shB P k t = some sh → DataW.trod enc P W base sp hd fuel t cs = some x → ∃ r, RowFit sh r ∧ ∀ γ : G, γ.fz = fzAll W → ECL γ (recE sh r) cs
theorem fields_open {k : Nat} (ih : OpenAt enc P W base sp hd k) {cs : List Value} {n : Nat} : ∀ (fs : List Field) (off : Nat) (sh : List Sh), shFs P (shB P k) fs off = some sh → (∀ f, f ∈ fs → ∃ y, DataW.trod enc P W base sp hd n f.type ((cs.drop f.offset).take (P.cellsOf f.type)) = some y) → ∃ r, RowFit sh r ∧ ∀ γ : G, γ.fz = fzAll W → ECL γ (recE sh r) ((cs.drop off).take sh.length)
  | [], off, sh, h, _ => by
    injection (show some [] = some sh from h) with h; subst h
    exact ⟨[], .nil, fun γ _ => by
      rw [show ([] : List Sh).length = 0 from rfl, List.take_zero]; exact ECL.nil γ⟩
  | fd :: fs, off, sh, h, hall => by
    unfold shFs at h
    split at h
    case h_2 => cases h
    rename_i s1 hs1
    split at h
    case isFalse => cases h
    rename_i hc
    split at h
    case h_2 => cases h
    rename_i s2 hs2
    injection h with h; subst h
    obtain ⟨y, hy⟩ := hall fd (by simp)
    rw [hc.1, hc.2] at hy
    obtain ⟨r1, h1, h2⟩ := ih fd.type s1 n _ y hs1 hy
    obtain ⟨r2, h3, h4⟩ := fields_open ih fs (off + s1.length) s2 hs2 fun f hf => hall f (by simp [hf])
    refine ⟨r1 ++ r2, h1.append h3, fun γ hγ => ?_⟩
    rw [recE_app h1.len, List.length_append]
    have e : (cs.drop off).take (s1.length + s2.length) = (cs.drop off).take s1.length ++ (cs.drop (off + s1.length)).take s2.length := by
      rw [List.take_add, List.drop_drop]
    rw [e]
    exact (h2 γ hγ).append (h4 γ hγ)
theorem elems_open {k : Nat} (ih : OpenAt enc P W base sp hd k) {cs : List Value} {n : Nat} {e : TypeId} {sh : List Sh} (hsh : shB P k e = some sh) (hc : P.cellsOf e = sh.length) : ∀ (m i0 : Nat), (∀ i, i < m → ∃ y, DataW.trod enc P W base sp hd n e ((cs.drop ((i0 + i) * P.cellsOf e)).take (P.cellsOf e)) = some y) → ∃ r, RowFit (List.replicate m sh).flatten r ∧ ∀ γ : G, γ.fz = fzAll W → ECL γ (recE (List.replicate m sh).flatten r) ((cs.drop (i0 * sh.length)).take (m * sh.length))
  | 0, i0, _ => ⟨[], .nil, fun γ _ => by
      rw [Nat.zero_mul, List.take_zero]; exact ECL.nil γ⟩
  | m + 1, i0, h => by
    obtain ⟨y, hy⟩ := h 0 (by omega)
    rw [hc, Nat.add_zero] at hy
    obtain ⟨r1, h1, h2⟩ := ih e sh n _ y hsh hy
    obtain ⟨r2, h3, h4⟩ := elems_open ih hsh hc m (i0 + 1) fun i hi => by
      have := h (i + 1) (by omega)
      rwa [show i0 + (i + 1) = i0 + 1 + i by omega] at this
    refine ⟨r1 ++ r2, by rw [List.replicate_succ, List.flatten_cons]; exact h1.append h3, fun γ hγ => ?_⟩
    rw [List.replicate_succ, List.flatten_cons, recE_app h1.len, Nat.succ_mul, Nat.add_comm, List.take_add, List.drop_drop]
    have := h4 γ hγ
    rw [Nat.succ_mul] at this
    exact (h2 γ hγ).append this
theorem open_cells : ∀ k, OpenAt enc P W base sp hd k
  | 0 => fun t sh fuel cs x h => by cases h
  | k + 1 => fun t sh fuel cs x h ht => by
    have ih : OpenAt enc P W base sp hd k := open_cells k
    unfold shB at h
    split at h
    · rename_i κ hu
      injection h with h; subst h
      obtain ⟨n, rfl, _, hw⟩ := DataW.trod_int hu ht
      refine ⟨[.i n], ⟨rfl, fun f s hf => ?_⟩, fun γ _ => .cons (.v _) (.nil _)⟩
      obtain ⟨rfl, rfl⟩ := one_f hf
      exact .int κ n hw
    · rename_i hu
      injection h with h; subst h
      obtain ⟨b, rfl, _⟩ := DataW.trod_bool hu ht
      refine ⟨[.b b], ⟨rfl, fun f s hf => ?_⟩, fun γ _ => .cons (.v _) (.nil _)⟩
      obtain ⟨rfl, rfl⟩ := one_f hf
      exact .bool b
    · rename_i hu
      injection h with h; subst h
      obtain ⟨s, rfl, _, hs⟩ := DataW.trod_string hu ht
      refine ⟨[.s s], ⟨rfl, fun f s hf => ?_⟩, fun γ _ => .cons (.v _) (.nil _)⟩
      obtain ⟨rfl, rfl⟩ := one_f hf
      exact .str _ hs
    · rename_i e hu
      split at h
      case h_2 => cases h
      rename_i sh' hsh
      split at h
      case isFalse => cases h
      rename_i hc
      injection h with h; subst h
      rcases DataW.trod_slice hu ht with ⟨rfl, _⟩ | ⟨a, len, cap, elems, rest, n, _, rfl, _, hb, hlc, hcm, hel, hall, _⟩
      · refine ⟨[.l []], ⟨rfl, fun f s hf => ?_⟩, fun γ _ => .cons ?_ (.nil _)⟩
        · obtain ⟨rfl, rfl⟩ := one_f hf
          exact .list sh' [] (Nat.zero_le _) (fun j hj => by simp at hj) (fun j f s hj => by simp at hj)
        · exact UOk.ec (s := .list sh') (.empty sh' (.l []) none 0 rfl (Nat.zero_le _) fun _ => rfl)
      · have each : ∀ i, i < len → ∃ r, RowFit sh' r ∧ ∃ ys, W.cells? base (a.add (i * sh'.length)) sh'.length = some ys ∧ ∀ γ : G, γ.fz = fzAll W → ECL γ (recE sh' r) ys := fun i hi => by
          have h1 := hall i hi
          rw [hc.1] at h1
          have h2 : i < elems.length := by omega
          rw [List.getElem?_eq_getElem h2] at h1
          obtain ⟨ys, h3, h4⟩ := Option.bind_eq_some_iff.1 h1
          obtain ⟨r, h5, h6⟩ := ih e sh' n ys _ hsh h4
          exact ⟨r, h5, ys, h3, h6⟩
        obtain ⟨l, hl, hQ⟩ := list_of len each
        refine ⟨[.l l], ⟨rfl, fun f s hf => ?_⟩, fun γ hγ => .cons ?_ (.nil _)⟩
        · obtain ⟨rfl, rfl⟩ := one_f hf
          exact .list sh' l (by omega) (fun j hj => (hQ j (by omega)).1.len) fun j f s hj hf => (hQ j (by omega)).1.fit f s hf
        · refine UOk.ec (s := .list sh') ?_
          by_cases h0 : len = 0
          · have : l = [] := List.eq_nil_of_length_eq_zero (by omega)
            subst this; subst h0
            exact .empty sh' (.l []) (some a) cap rfl hcm fun e => by cases e
          · obtain ⟨b, off, spot⟩ := a
            have hblk : spot = none ∧ ∃ arr ty fz, W.heap[b]? = some (.cells arr ty fz) := by
              obtain ⟨h1, ys, h2, h3⟩ := hQ 0 (by omega)
              obtain ⟨_, h4, h5⟩ := World.cells?_some h2
              have h6 := h5 0 hc.2
              rw [List.getElem?_eq_getElem (show 0 < ys.length by omega)] at h6
              have h6 : W.cell? ⟨b, off, spot⟩ = some ys[0] := by
                have e : ((⟨b, off, spot⟩ : Addr).add (0 * sh'.length)).add 0 = ⟨b, off, spot⟩ := by simp [Addr.add]
                rw [e] at h6; exact h6
              unfold World.cell? at h6
              split at h6
              · rename_i arr ty fz hb'
                split at h6
                · cases h6
                · rename_i hs
                  exact ⟨by cases spot <;> simp_all, arr, ty, fz, hb'⟩
              · cases h6
            obtain ⟨rfl, arr, ty, fz, hblk⟩ := hblk
            have cellAt : ∀ i f, i < len → f < sh'.length → ∃ y, W.cell? ⟨b, off + (i * sh'.length + f), none⟩ = some y ∧ ∀ s, sh'[f]? = some s → UOk γ.fz s ((l.getD i []).getD f (.i 0)) y := fun i f hi hf => by
              obtain ⟨h1, ys, h2, h3⟩ := hQ i hi
              obtain ⟨_, h4, h5⟩ := World.cells?_some h2
              have h6 := h5 f hf
              have h7 : f < ys.length := by omega
              rw [List.getElem?_eq_getElem h7] at h6
              refine ⟨ys[f], ?_, fun s hs => ?_⟩
              · have e : ((⟨b, off, none⟩ : Addr).add (i * sh'.length)).add f = ⟨b, off + (i * sh'.length + f), none⟩ := by
                  unfold Addr.add
                  split <;> split <;> simp_all [Nat.add_assoc]
                rw [← h6, e]
              · have h8 := recE_get (s := s) (f := f) (sh := sh') (l.getD i []) hs
                have h9 := (h3 γ hγ).2 f _ ys[f] h8 (List.getElem?_eq_getElem h7)
                exact UOk.of_ec h9
            have getA : ∀ i f, i < len → f < sh'.length → ∃ y, arr[off + (i * sh'.length + f)]? = some y ∧ ∀ s, sh'[f]? = some s → UOk γ.fz s ((l.getD i []).getD f (.i 0)) y := fun i f hi hf => by
              obtain ⟨y, h1, h2⟩ := cellAt i f hi hf
              refine ⟨y, ?_, h2⟩
              unfold World.cell? at h1
              simpa [hblk] using h1
            have hk : γ.fz b = some arr := by
              rw [hγ]; unfold fzAll; rw [hblk]
            subst hl
            refine .list sh' (.l l) b off cap arr hk hlc hcm ?_ fun j f s x hj hf hx => ?_
            · show off + l.length * sh'.length ≤ arr.size
              obtain ⟨y, h1, _⟩ := getA (l.length - 1) (sh'.length - 1) (by omega) (by omega)
              have := (Array.getElem?_eq_some_iff.1 h1).1
              have e : l.length * sh'.length = (l.length - 1) * sh'.length + sh'.length := by rw [← Nat.succ_mul]; congr 1; omega
              omega
            · obtain ⟨y, h1, h2⟩ := getA j f hj (List.getElem?_eq_some_iff.1 hf).1
              rw [h1] at hx; injection hx with hx; subst hx
              exact h2 s hf
    · rename_i fs hu
      split at h
      case h_2 => cases h
      rename_i sh' hsh
      split at h
      case isFalse => cases h
      rename_i hc
      injection h with h; subst h
      obtain ⟨xs, n, _, _, hl, hlen, hf⟩ := DataW.trod_struct hu ht
      obtain ⟨r, h1, h2⟩ := fields_open (cs := cs) (n := n) ih fs.toList 0 sh' hsh fun f hm => by
        obtain ⟨i, hi, rfl⟩ := List.getElem_of_mem hm
        have hi2 : i < fs.size := by simpa using hi
        have := hf i fs.toList[i] (by simp [hi2])
        rw [List.getElem?_eq_getElem (by omega)] at this
        exact ⟨_, this⟩
      refine ⟨r, h1, fun γ hγ => ?_⟩
      have := h2 γ hγ
      rwa [List.drop_zero, List.take_of_length_le (by omega)] at this
    · rename_i m e hu
      split at h
      case h_2 => cases h
      rename_i sh' hsh
      split at h
      case isFalse => cases h
      rename_i hc
      injection h with h; subst h
      obtain ⟨xs, n, _, _, hl, hlen, hf⟩ := DataW.trod_array hu ht
      obtain ⟨r, h1, h2⟩ := elems_open (cs := cs) (n := n) ih hsh hc.1 m 0 fun i hi => by
        have := hf i hi
        rw [List.getElem?_eq_getElem (by omega)] at this
        rw [Nat.zero_add]
        exact ⟨_, this⟩
      refine ⟨r, h1, fun γ hγ => ?_⟩
      have := h2 γ hγ
      rwa [Nat.zero_mul, List.drop_zero, List.take_of_length_le (by omega)] at this
    · cases h
/-- an argument of a struct's type -/
theorem open_agg {t : TypeId} {fs : Array Field} {v : Value} {d : DataW H} {ps : List MemPlace} {k b0 : Nat} {rc : Reach} {sh : List Sh} (hu : P.underlying t = some (.struct fs)) (hs : shB P k t = some sh) (hv : Value.okWide P W rc b0 t v) (h : DataW.Trod enc P W base sp hd t v d ps) : ∃ r, RowFit sh r ∧ EC (gAll W) (.agg (recE sh r)) v := by
  obtain ⟨cs, rfl, _⟩ := okWide_struct hu hv
  obtain ⟨fuel, hf⟩ := h
  obtain ⟨r, h1, h2⟩ := open_cells k t sh fuel _ _ hs hf
  have h3 := h2 (gAll W) rfl
  refine ⟨r, h1, ?_⟩
  have := EC.agg (γ := gAll W) (recE sh r) cs.toList h3.1 h3.2
  simpa using this
/-- an argument of a slice's type -/
theorem open_lst {t e : TypeId} {v : Value} {d : DataW H} {ps : List MemPlace} {k b0 : Nat} {rc : Reach} {sh : List Sh} (hu : P.underlying t = some (.slice e)) (hs : shB P k t = some [.list sh]) (hv : Value.okWide P W rc b0 t v) (h : DataW.Trod enc P W base sp hd t v d ps) : ∃ l, UFit (.list sh) (.l l) ∧ EC (gAll W) (.lst (mkC sh l)) v := by
  obtain ⟨a, len, cap, rfl⟩ := okWide_slice hu hv
  obtain ⟨fuel, hf⟩ := h
  obtain ⟨r, h1, h2⟩ := open_cells k t _ fuel _ _ hs hf
  have h3 := h2 (gAll W) rfl
  obtain ⟨h4, h5⟩ := h1
  match r, h4 with
  | [u], _ =>
    have h6 := h5 0 _ rfl
    have h6 : UFit (.list sh) u := h6
    cases h6 with
    | list _ l hl hr hh =>
      refine ⟨l, .list sh l hl hr hh, ?_⟩
      exact h3.2 0 _ _ rfl rfl
end Ev
end Go.Proofs.Ytkbebiebaenbdaa
namespace Go.Proofs.Ytkbebiebaenbdaa.Ev
open Go.Proofs
noncomputable def ctPl : Tr ZCC := (((((((((Tr.nil.put 27 (some (dC spPFlip))).put 28 (some (dC spRFlip))).put 29 (some (dC spPMir))).put 30 (some (dC spRMir))).put 31 (some (dC spPPla))).put 32 (some (dC spRPla))).put 33 (some (dC spPCut))).put 34 (some (dC spRCut))).put 25 (some (dC spSame))).put 22 (some (dC spTrue))
theorem ctPl_ok : ZCtsOk Try.prog ctPl := ((((((((((ZCtsOk.nil _).add rfl spPFlip_ok).add rfl spRFlip_ok).add rfl spPMir_ok).add rfl spRMir_ok).add rfl spPPla_ok).add rfl spRPla_ok).add rfl spPCut_ok).add rfl spRCut_ok).add rfl spSame_ok).add rfl spAwake_ok
namespace APls
noncomputable def RUN (s : ES) : ZF := RZ 6 ctPl (fun _ => false) [] [] false s
theorem in_t (n a b : Int) (l : List (List U)) : RUN (st0 6 [.agg [iv n, wl l], iv a, iv b]) = (bc (Decidable.decide ((200 : Int) < Int.ofNat (List.length l)))
  (bc (Decidable.decide (Int.ofNat (List.length l) ≤ (400 : Int)))
    (.done (EV.v (Value.bool true)) [] 0)
    (bc (Decidable.decide ((450 : Int) < Int.ofNat (List.length l)))
      (.done (EV.v (Value.bool true)) [] 0)
      (bc (bc (Decidable.decide (List.length (turL bFlip n l) ≤ (100000 : Nat))) Bool.true Bool.false)
        (bc (!sameW (turP n l) (turP n l) (turL bFlip n l) (turL bFlip n l))
          (.done (EV.v (Value.bool false)) [] 0)
          (bc (chk4 n l != chk4 n l)
            (.done (EV.v (Value.bool false)) [] 0)
            (bc (bc (Decidable.decide (List.length (turL bMir n l) ≤ (100000 : Nat))) Bool.true Bool.false)
              (bc (!sameW (turP n l) (turP n l) (turL bMir n l) (turL bMir n l))
                (.done (EV.v (Value.bool false)) [] 0)
                (bc (chk4 n l != chk4 n l)
                  (.done (EV.v (Value.bool false)) [] 0)
                  (bc (bc (Decidable.decide (List.length (plaL n a b l) ≤ (100000 : Nat))) Bool.true Bool.false)
                    (bc (sameW (plaP n a b l) (plaP n a b l) (plaL n a b l) (plaL n a b l))
                      (bc (plaE n a b l == plaE n a b l)
                        (bc (bc (Decidable.decide (List.length (cutL n a b l) ≤ (100000 : Nat))) Bool.true Bool.false)
                          (bc (sameW (cutP n a b l) (cutP n a b l) (cutL n a b l) (cutL n a b l))
                            (bc (cutE n a b l == cutE n a b l)
                              (.done (EV.v (Value.bool true)) [] 0)
                              (.done (EV.v (Value.bool false)) [] 0))
                            (.done (EV.v (Value.bool false)) [] 0))
                          .bad)
                        (.done (EV.v (Value.bool false)) [] 0))
                      (.done (EV.v (Value.bool false)) [] 0))
                    .bad)))
              .bad)))
        .bad)))
  (bc (Decidable.decide ((450 : Int) < Int.ofNat (List.length l)))
    (.done (EV.v (Value.bool true)) [] 0)
    (bc (bc (Decidable.decide (List.length (turL bFlip n l) ≤ (100000 : Nat))) Bool.true Bool.false)
      (bc (!sameW (turP n l) (turP n l) (turL bFlip n l) (turL bFlip n l))
        (.done (EV.v (Value.bool false)) [] 0)
        (bc (chk4 n l != chk4 n l)
          (.done (EV.v (Value.bool false)) [] 0)
          (bc (bc (Decidable.decide (List.length (turL bMir n l) ≤ (100000 : Nat))) Bool.true Bool.false)
            (bc (!sameW (turP n l) (turP n l) (turL bMir n l) (turL bMir n l))
              (.done (EV.v (Value.bool false)) [] 0)
              (bc (chk4 n l != chk4 n l)
                (.done (EV.v (Value.bool false)) [] 0)
                (bc (bc (Decidable.decide (List.length (plaL n a b l) ≤ (100000 : Nat))) Bool.true Bool.false)
                  (bc (sameW (plaP n a b l) (plaP n a b l) (plaL n a b l) (plaL n a b l))
                    (bc (plaE n a b l == plaE n a b l)
                      (bc (bc (Decidable.decide (List.length (cutL n a b l) ≤ (100000 : Nat))) Bool.true Bool.false)
                        (bc (sameW (cutP n a b l) (cutP n a b l) (cutL n a b l) (cutL n a b l))
                          (bc (cutE n a b l == cutE n a b l)
                            (.done (EV.v (Value.bool true)) [] 0)
                            (.done (EV.v (Value.bool false)) [] 0))
                          (.done (EV.v (Value.bool false)) [] 0))
                        .bad)
                      (.done (EV.v (Value.bool false)) [] 0))
                    (.done (EV.v (Value.bool false)) [] 0))
                  .bad)))
            .bad)))
      .bad))) := by kernel_rfl
theorem eb (x : Int) : (x != x) = false := by simp
theorem eb2 (x : Int) : (x == x) = true := by simp
theorem tur_len {n : Int} {t : ByteArray} {l : List (List U)} (h1 : ¬ 450 < (l.length : Int)) : (turL t n l).length ≤ 100000 := by
  unfold turL
  cases chk4 n l != 0
  · show (flL t n l).length ≤ _
    rw [flL_len]; omega
  · exact Nat.zero_le _
theorem pla_len {n a b : Int} {l : List (List U)} (h1 : ¬ 450 < (l.length : Int)) : (plaL n a b l).length ≤ 100000 := by
  unfold plaL
  cases plaE n a b l != 0
  · show (shL a l).length ≤ _
    rw [shL_len]; omega
  · exact Nat.zero_le _
theorem cutG_len (ks : List Bool) (l : List (List U)) (a : Int) : ∀ (k i : Nat), (cutG ks l a i k).length ≤ k
  | 0, i => Nat.le_refl _
  | k + 1, i => by
    have := cutG_len ks l a k (i + 1)
    unfold cutG
    cases ks.getD i false
    · show (cutG ks l a (i + 1) k).length ≤ _; omega
    · show (cutG ks l a (i + 1) k).length + 1 ≤ _; omega
theorem cut_len {n a b : Int} {l : List (List U)} (h1 : ¬ 450 < (l.length : Int)) : (cutL n a b l).length ≤ 100000 := by
  unfold cutL
  cases cutE n a b l != 0
  · show (cutG _ l a 0 l.length).length ≤ _
    have := cutG_len (kepL a b l) l a l.length 0
    omega
  · exact Nat.zero_le _
theorem ends (n a b : Int) (l : List (List U)) : EndZ 6 ctPl false (st0 6 [.agg [iv n, wl l], iv a, iv b]) (bv true) [] 0 := by
  have h := in_t n a b l
  by_cases h1 : 450 < (l.length : Int)
  · simp (disch := omega) only [Nat.add_eq, eqSy_self, eqN_self, bc_same, List.length_cons, ofn, wrap_in, dt, df, bltD, bltN, ble_of, bleN, beqD, bc_t, bc_f, nn_ok, Nat.zero_add, to_nat, Int.zero_add, Int.sub_zero, Int.sub_self, Int.cast_ofNat_Int, Int.natCast_zero, Int.toNat_zero, List.take_zero, List.nil_append, List.length_append, List.length_nil] at h
    exact .done h
  have b1 := tur_len (n := n) (t := bFlip) h1
  have b2 := tur_len (n := n) (t := bMir) h1
  have b3 := pla_len (n := n) (a := a) (b := b) h1
  have b4 := cut_len (n := n) (a := a) (b := b) h1
  by_cases h3 : 200 < (l.length : Int)
  · by_cases h4 : (l.length : Int) ≤ 400
    · simp (disch := omega) only [Nat.add_eq, eqSy_self, eqN_self, bc_same, List.length_cons, ofn, wrap_in, dt, df, bltD, bltN, ble_of, bleN, beqD, bc_t, bc_f, nn_ok, Nat.zero_add, to_nat, Int.zero_add, Int.sub_zero, Int.sub_self, Int.cast_ofNat_Int, Int.natCast_zero, Int.toNat_zero, List.take_zero, List.nil_append, List.length_append, List.length_nil] at h
      exact .done h
    · simp (disch := omega) only [Nat.add_eq, eqSy_self, eqN_self, bc_same, List.length_cons, ofn, wrap_in, dt, df, bltD, bltN, ble_of, bleN, beqD, bc_t, bc_f, nn_ok, Nat.zero_add, to_nat, Int.zero_add, Int.sub_zero, Int.sub_self, Int.cast_ofNat_Int, Int.natCast_zero, Int.toNat_zero, List.take_zero, List.nil_append, List.length_append, List.length_nil, dt b1, dt b2, dt b3, dt b4, sameW_self, eb, eb2, Bool.not_true] at h
      exact .done h
  · simp (disch := omega) only [Nat.add_eq, eqSy_self, eqN_self, bc_same, List.length_cons, ofn, wrap_in, dt, df, bltD, bltN, ble_of, bleN, beqD, bc_t, bc_f, nn_ok, Nat.zero_add, to_nat, Int.zero_add, Int.sub_zero, Int.sub_self, Int.cast_ofNat_Int, Int.natCast_zero, Int.toNat_zero, List.take_zero, List.nil_append, List.length_append, List.length_nil, dt b1, dt b2, dt b3, dt b4, sameW_self, eb, eb2, Bool.not_true] at h
    exact .done h
end APls
theorem assemblePlaces_calls {γ : G} {w : World} {us : Array Value} (ra : List U) (wa : RowFit [.int .i64, .list [.int .i64, .int .i64, .str]] ra) (a : Int) (wa1 : (Lit.int .i64 a).wf = true) (b : Int) (wb1 : (Lit.int .i64 b).wf = true)
    (hax : ECL γ [.agg (recE [.int .i64, .list [.int .i64, .int .i64, .str]] ra), iv a, iv b] us.toList) (hN : ∀ i, γ i = none) (hfz : FzAt γ w) : Calls Try.prog 6 us w fun e w' => e = .returned (.bool true) ∧ Stays w w' := by
  exact law_of ((APls.ends (U.int (ra.headD (.i 0))) a b (U.list (ra.tail.headD (.i 0)))).calls ctPl_ok (by kernel_rfl) hax hN hfz)
end Go.Proofs.Ytkbebiebaenbdaa.Ev
namespace Go.Proofs.Ytkbebiebaenbdaa
open Go.ChangeShapes Go.WideShapes Go.ChangeAt Go.RowKit Go.ChangeMaps
theorem knobAssemblePlaces : ownKnob Try.prog.godebug = none := by kernel_rfl
theorem kidsAssemblePlaces : Kids Try.prog (· < Try.prog.types.size) := kids_rows (by kernel_rfl) (by kernel_rfl)
theorem fullAssemblePlaces : ∀ t e, t < Try.prog.types.size → Try.prog.underlying t = some (.slice e) → 0 < Try.prog.cellsOf e := slices_full_of Try.prog (by kernel_rfl)
set_option maxRecDepth 100000 in
theorem liftedAssemblePlaces (os : Os) (started : os.Started) (H : Type) (enc : TypeId × Value → H) :
    ReturnsInHanded {} Try.checked os 6 .any (Rows.assemblePlacesSpec.pre6 enc Try.prog Try.f6 Rows.assemblePlacesRow.domain false) (Rows.assemblePlacesSpec.post enc Try.prog Try.f6 false true false false) := by
  refine returnsInHanded_of_change (C := Try.checked) knobAssemblePlaces started (by kernel_rfl) Try.func6
    (ChangeSpec.witness6 (enc := enc) (C := Try.checked) false ⟨#[], #[.agg #[.int .i64 0, .slice none 0 0], .int .i64 0, .int .i64 0], []⟩ 8 (by kernel_rfl) (by kernel_rfl) (by kernel_rfl) (by kernel_rfl)) ?_
  intro W base args ds gs before hval0 hW hcnd _
  have hval : ∀ (j : Nat) t v, Try.f6.params[j]? = some t → args[j]? = some v → Value.okWide Try.prog W .any base t v := hval0
  have hW' := hW
  obtain ⟨p, q, hA0, hV, rfl, hfz, hnd⟩ := hW
  have hA : DataW.TrodAll enc Try.prog W 0 (fun _ => true) true Try.f6.params.toList args.toList ds p := hA0
  have hAk := hA
  rw [Try.params6] at hA hval
  obtain ⟨rfl, rfl⟩ := trodVars_none hV
  obtain ⟨v0, v1, v2, d0, d1, d2, p0, p1, p2, rfl, rfl, rfl, h0, h1, h2⟩ := trodAll_three hA
  obtain ⟨r, wr, er⟩ := Ev.open_agg (k := 8) Try.underlying24 (by kernel_rfl : Ev.shB Try.prog 8 24 = some [.int .i64, .list [.int .i64, .int .i64, .str]]) (hval 0 24 v0 rfl rfl) h0
  obtain ⟨a, rfl, rfl, rfl, wa⟩ := open_int Try.underlying3 (hval 1 3 v1 rfl rfl) h1
  obtain ⟨b, rfl, rfl, rfl, wb⟩ := open_int Try.underlying3 (hval 2 3 v2 rfl rfl) h2
  clear hA0 hval0
  refine (Ev.assemblePlaces_calls r wr a wa b wb (γ := Ev.gAll W) (.cons er (.cons (.v _) (.cons (.v _) (.nil _)))) (fun i => rfl) (Ev.fzAll_at W)).mono fun e W' ⟨he, hg⟩ => ?_
  subst he
  exact ⟨_, rfl, post_law kidsAssemblePlaces fullAssemblePlaces Try.underlying4 (by kernel_rfl) (by kernel_rfl) rfl rfl (by rw [Try.params6]; decide) hW' hAk hg (ok_one (by kernel_rfl) rfl (okWide_bool_mk Try.underlying4 _))⟩
theorem assemblePlaces_holds : Rows.AssemblePlacesSaid :=
  OpenClaim.holds_of_wide 6 Try.f6 rfl rfl rfl rfl rfl rfl rfl ⟨rfl, rfl, rfl, rfl, rfl⟩ rfl rfl rfl rfl rfl (by kernel_rfl) Try.func6 (by kernel_rfl)
    (of_decide_eq_true (by kernel_rfl)) (by unfold Func.isWrapper; first | (rw [if_pos (by decide +kernel)]; kernel_rfl) | (rw [if_neg (by decide +kernel)]; exact ⟨rfl, rfl⟩))
    (fun os started H enc _ => liftedAssemblePlaces os started H enc)
end Go.Proofs.Ytkbebiebaenbdaa
