/- AssembleJoins returns true, for all arguments, in every world in which it is called, and nothing that was there turns. -/
import Derived.ProofKit
import Derived.ReadAgain
import Derived.OpenShut
import Derived.Test.YtkbebiebaenbdaaRows
import Derived.WalkKit
import Derived.Test.YtkbebiebaenbdaaAsJo5
set_option linter.unusedSimpArgs false
set_option linter.unusedVariables false
namespace Go.Proofs.Ytkbebiebaenbdaa.Ev
open Go.Proofs
noncomputable def spMul : ZCT := fun ax => match ax with
  | [.v (.int .u64 a), .v (.int .u64 b)] => some ⟨decide (0 ≤ a ∧ a ≤ 65536 ∧ 0 ≤ b ∧ b ≤ 65536), .tup [.v (.int .u64 0), .v (.int .u64 (a * b))], [], 0⟩
  | _ => none
theorem spMul_ok : ZCtOk Try.prog 79 spMul := fun γ w us ax r hs hc hax hN hfz => by
  unfold spMul at hs
  split at hs
  case h_2 => cases hs
  rename_i a b
  obtain ⟨rfl⟩ := Option.some.inj hs
  obtain ⟨h1, h2, h3, h4⟩ := of_decide_eq_true (show decide (0 ≤ a ∧ a ≤ 65536 ∧ 0 ≤ b ∧ b ≤ 65536) = true from hc)
  obtain ⟨x, r1, e1, hx, hc1⟩ := ECL.inv hax
  obtain ⟨y, r2, e2, hy, hc2⟩ := ECL.inv hc1
  have e3 : r2 = [] := by apply List.eq_nil_of_length_eq_zero; have := hc2.1; simpa using this.symm
  have hx := ec_v hx
  have hy := ec_v hy
  subst hx; subst hy; subst e3; subst e2
  obtain ⟨a, rfl⟩ := Int.eq_ofNat_of_zero_le h1
  obtain ⟨b, rfl⟩ := Int.eq_ofNat_of_zero_le h3
  have eu : us = #[.int .u64 (a : Int), .int .u64 (b : Int)] := by apply Array.ext'; simpa using e1
  rw [eu]
  have hm : a * b ≤ 65536 * 65536 := Nat.mul_le_mul (by omega) (by omega)
  refine (Try.bits_Mul a b (by omega) (by omega) w).mono ?_
  rintro e w' ⟨rfl, rfl⟩
  rw [Nat.div_eq_of_lt (by omega), Nat.mod_eq_of_lt (by omega), Int.natCast_mul]
  exact ⟨γ, _, rfl, .tup _ [.int .u64 0, .int .u64 ((a : Int) * b)] rfl (ECL.cons (.v _) (.cons (.v _) (.nil _))).2, HR.start hN hfz⟩
noncomputable def ctR : Tr ZCC := Tr.nil.put 79 (some (dC spMul))
theorem ctR_ok : ZCtsOk Try.prog ctR := (ZCtsOk.nil _).add rfl spMul_ok
theorem repL_add (l : List (List U)) : ∀ a b, repL l (a + b) = repL l a ++ repL l b
  | 0, b => by rw [Nat.zero_add]; rfl
  | a + 1, b => by rw [Nat.succ_add]; show l ++ repL l (a + b) = (l ++ repL l a) ++ repL l b; rw [repL_add l a b, List.append_assoc]
theorem repL_pre (l : List (List U)) (a b : Nat) (h : a ≤ b) (k : Nat) (hk : k ≤ a * l.length) : (repL l b).take k = (repL l a).take k := by
  obtain ⟨d, rfl⟩ := Nat.exists_eq_add_of_le h
  rw [repL_add, List.take_append_of_le_length (by rw [repL_len]; exact hk)]
theorem repL_same (l : List (List U)) (a b k : Nat) (h1 : k ≤ a * l.length) (h2 : k ≤ b * l.length) : (repL l b).take k = (repL l a).take k := by
  rcases Nat.le_total a b with h | h
  · exact repL_pre l a b h k h1
  · exact (repL_pre l b a h k h2).symm
namespace PRep
noncomputable def RUN (s : ES) : ZF := RZ 76 ctR (atS 0 76 8) [] [[(7,none),(8,none)]] false s

noncomputable def sR (tot : Nat) (i : Int) (q : List (List U)) : NS := ⟨[⟨76, 48, [(7, EV.sl 0 3 0 tot none), (8, iv i)], [.it (.code (nav [1, 1, 1, 1, 1, 1, 0, 0, 0, 0] (bodyOf Try.f76))), .it (.code (nav [1, 1, 1, 1, 1, 1, 0, 0, 0, 1] (bodyOf Try.f76))), .it (.inLoop (nav [1, 1, 1, 1, 1, 1, 0, 0, 0] (bodyOf Try.f76))), .it (.inBlock 0), .it (.code (nav [1, 1, 1, 1, 1, 1, 1] (bodyOf Try.f76)))], [], Option.none⟩], [(0, EK.seq 81 (.recs shW q) true)], 1⟩
theorem step_t (tot : Nat) (i : Int) (q : List (List U)) : RUN (stOf (sR tot i q)) = (bc (Decidable.decide (i < Int.ofNat tot))
  (bc (bc (bc (bc (bc (bc (Decidable.decide ((0 : Int) ≤ i)) (bc (Decidable.decide (i ≤ Int.ofNat tot)) (Decidable.decide (Int.ofNat tot ≤ Int.ofNat tot)) Bool.false) Bool.false) (Decidable.decide (i < Int.ofNat tot)) Bool.false) Bool.true Bool.false) (bc (bc (bc (bc (Decidable.decide ((0 : Int) ≤ i)) (Decidable.decide (i ≤ Int.ofNat tot)) Bool.false) (Decidable.decide ((0 : Int) < Int.ofNat tot)) Bool.false) Bool.true Bool.false) (bc (bc (Nat.ble (((0 : Nat) + Int.toNat (0 : Int) * (3 : Nat)) / (3 : Nat) + (Int.toNat i - Int.toNat (0 : Int))) (List.length q)) (bc (Nat.beq (((0 : Nat) + Int.toNat i * (3 : Nat)) / (3 : Nat) * (3 : Nat)) ((0 : Nat) + Int.toNat i * (3 : Nat))) (Nat.ble (((0 : Nat) + Int.toNat i * (3 : Nat)) / (3 : Nat) + Min.min (Int.toNat i - Int.toNat (0 : Int)) (Int.toNat (Int.ofNat tot) - Int.toNat i)) (List.length q)) Bool.false) Bool.false) Bool.true Bool.false) Bool.false) Bool.false) Bool.true Bool.false)
    (.at (sR (tot) (IntKind.wrap IntKind.i64 (i + Int.ofNat (Min.min (Int.toNat i - Int.toNat (0 : Int)) (Int.toNat (Int.ofNat tot) - Int.toNat i)))) (List.take (((0 : Nat) + Int.toNat i * (3 : Nat)) / (3 : Nat)) q ++ List.take (Min.min (Int.toNat i - Int.toNat (0 : Int)) (Int.toNat (Int.ofNat tot) - Int.toNat i)) (List.take (Int.toNat i - Int.toNat (0 : Int)) (List.drop (((0 : Nat) + Int.toNat (0 : Int) * (3 : Nat)) / (3 : Nat)) q)) ++ List.drop (((0 : Nat) + Int.toNat i * (3 : Nat)) / (3 : Nat) + Min.min (Int.toNat i - Int.toNat (0 : Int)) (Int.toNat (Int.ofNat tot) - Int.toNat i)) q)))
    .bad)
  (bc (Nat.beq tot (List.length q))
    (.done (EV.lst (SyC.recs [(Sh.int IntKind.i64), (Sh.int IntKind.i64), Sh.str] (q))) [] 0)
    .bad)) := by kernel_rfl
theorem in_t (l : List (List U)) (t : Int) : RUN (st0 76 [wl l, iv t]) = (bc (Decidable.decide (t < (0 : Int)))
  .bad
  (bc (bc (Decidable.decide ((0 : Int) ≤ IntKind.wrap IntKind.u64 (Int.ofNat (List.length l)) ∧ IntKind.wrap IntKind.u64 (Int.ofNat (List.length l)) ≤ (65536 : Int) ∧ (0 : Int) ≤ IntKind.wrap IntKind.u64 t ∧ IntKind.wrap IntKind.u64 t ≤ (65536 : Int))) Bool.true Bool.false)
    (bc (Decidable.decide ((9223372036854775807 : Int) < IntKind.wrap IntKind.u64 (Int.ofNat (List.length l)) * IntKind.wrap IntKind.u64 t))
      .bad
      (bc (bc (Decidable.decide ((0 : Int) ≤ IntKind.wrap IntKind.i64 (IntKind.wrap IntKind.u64 (Int.ofNat (List.length l)) * IntKind.wrap IntKind.u64 t))) (bc (Decidable.decide (IntKind.wrap IntKind.i64 (IntKind.wrap IntKind.u64 (Int.ofNat (List.length l)) * IntKind.wrap IntKind.u64 t) = IntKind.wrap IntKind.i64 (IntKind.wrap IntKind.u64 (Int.ofNat (List.length l)) * IntKind.wrap IntKind.u64 t))) (Decidable.decide (IntKind.wrap IntKind.i64 (IntKind.wrap IntKind.u64 (Int.ofNat (List.length l)) * IntKind.wrap IntKind.u64 t) ≤ (65536 : Int))) Bool.false) Bool.false)
        (bc (Nat.ble ((0 / 3 : Nat) + Min.min (List.length l) (Int.toNat (IntKind.wrap IntKind.i64 (IntKind.wrap IntKind.u64 (Int.ofNat (List.length l)) * IntKind.wrap IntKind.u64 t)))) (List.length (List.replicate (Int.toNat (IntKind.wrap IntKind.i64 (IntKind.wrap IntKind.u64 (Int.ofNat (List.length l)) * IntKind.wrap IntKind.u64 t))) [U.i (0 : Int), U.i (0 : Int), U.s { data := #[] }])))
          (.at (sR (Int.toNat (IntKind.wrap IntKind.i64 (IntKind.wrap IntKind.u64 (Int.ofNat (List.length l)) * IntKind.wrap IntKind.u64 t))) (Int.ofNat (Min.min (List.length l) (Int.toNat (IntKind.wrap IntKind.i64 (IntKind.wrap IntKind.u64 (Int.ofNat (List.length l)) * IntKind.wrap IntKind.u64 t))))) (List.take (0 / 3 : Nat) (List.replicate (Int.toNat (IntKind.wrap IntKind.i64 (IntKind.wrap IntKind.u64 (Int.ofNat (List.length l)) * IntKind.wrap IntKind.u64 t))) [U.i (0 : Int), U.i (0 : Int), U.s { data := #[] }]) ++ List.take (Min.min (List.length l) (Int.toNat (IntKind.wrap IntKind.i64 (IntKind.wrap IntKind.u64 (Int.ofNat (List.length l)) * IntKind.wrap IntKind.u64 t)))) l ++ List.drop ((0 / 3 : Nat) + Min.min (List.length l) (Int.toNat (IntKind.wrap IntKind.i64 (IntKind.wrap IntKind.u64 (Int.ofNat (List.length l)) * IntKind.wrap IntKind.u64 t)))) (List.replicate (Int.toNat (IntKind.wrap IntKind.i64 (IntKind.wrap IntKind.u64 (Int.ofNat (List.length l)) * IntKind.wrap IntKind.u64 t))) [U.i (0 : Int), U.i (0 : Int), U.s { data := #[] }]))))
          .bad)
        .bad))
    .bad)) := by kernel_rfl
theorem step {tot i : Nat} {q : List (List U)} (hi : i < tot) (h0 : 0 < i) (ht : tot ≤ 65536) (hq : q.length = tot) : RUN (stOf (sR tot i q)) = .at (sR tot (i + min i (tot - i) : Nat) (q.take i ++ (q.take i).take (min i (tot - i)) ++ q.drop (i + min i (tot - i)))) := by
  rw [step_t]
  have e1 : (0 + Int.toNat (i : Int) * 3) = i * 3 := by omega
  have e2 : (0 + Int.toNat 0 * 3) / 3 = 0 := rfl
  have e3 : Int.toNat (i : Int) - Int.toNat 0 = i := by omega
  have e4 : Int.toNat (Int.ofNat tot) - Int.toNat (i : Int) = tot - i := by show tot - i = tot - i; rfl
  have e5 : i * 3 / 3 = i := by omega
  have e6 : Int.toNat (i : Int) = i := rfl
  simp only [e1, e2, e3, e4, e5]
  simp (disch := omega) only [Nat.add_eq, eqSy_self, eqN_self, bc_same, List.length_cons, ofn, wrap_in, dt, df, bltD, bltN, ble_of, bleN, beqD, bc_t, bc_f, nn_ok, Nat.zero_add, to_nat, Int.zero_add, Int.sub_zero, Int.sub_self, Int.cast_ofNat_Int, Int.natCast_zero, Int.toNat_zero, List.take_zero, List.nil_append, List.length_append, List.length_nil, List.drop_zero, hq]
  rfl
theorem last {tot i : Nat} {q : List (List U)} (hi : tot ≤ i) (hq : q.length = tot) : RUN (stOf (sR tot i q)) = .done (wl q) [] 0 := by
  rw [step_t]
  subst hq
  simp (disch := omega) only [Nat.add_eq, eqSy_self, eqN_self, bc_same, List.length_cons, ofn, wrap_in, dt, df, bltD, bltN, ble_of, bleN, beqD, bc_t, bc_f, nn_ok, Nat.zero_add, to_nat, Int.zero_add, Int.sub_zero, Int.sub_self, Int.cast_ofNat_Int, Int.natCast_zero, Int.toNat_zero, List.take_zero, List.nil_append, List.length_append, List.length_nil]
  rfl
theorem loop {l : List (List U)} {t tot : Nat} (ht : tot = t * l.length) (hs : tot ≤ 65536) : ∀ (d i : Nat) (q : List (List U)), tot - i ≤ d → i ≤ tot → (i = tot ∨ ∃ a, i = a * l.length ∧ 0 < i) → q.length = tot → q.take i = (repL l t).take i → EndZ 76 ctR false (stOf (sR tot i q)) (wl (repL l t)) [] 0 := by
  have fin : ∀ (q : List (List U)), q.length = tot → q.take tot = (repL l t).take tot → EndZ 76 ctR false (stOf (sR tot tot q)) (wl (repL l t)) [] 0 := fun q hq he => by
    rw [List.take_of_length_le (by omega), List.take_of_length_le (by rw [repL_len]; omega)] at he
    rw [← he]
    exact .done (last (Nat.le_refl _) hq)
  intro d
  induction d with
  | zero =>
    intro i q hd hi _ hq he
    have : i = tot := by omega
    subst this
    exact fin q hq he
  | succ d ih =>
    intro i q hd hi ha hq he
    rcases ha with rfl | ⟨a, hia, h0⟩
    · exact fin q hq he
    by_cases hlt : i < tot
    · refine .at ctR_ok (step hlt h0 hs hq) (ih _ _ (by omega) (by omega) ?_ ?_ ?_)
      · by_cases hc : i ≤ tot - i
        · right; exact ⟨a + a, by rw [Nat.min_eq_left hc, Nat.add_mul]; omega, by omega⟩
        · left; rw [Nat.min_eq_right (by omega)]; omega
      · simp only [List.length_append, List.length_take, List.length_drop, hq]; omega
      · have hat : a ≤ t := by
          rcases Nat.lt_or_ge t a with h | h
          · have := Nat.mul_le_mul_right l.length (Nat.le_of_lt h); omega
          · exact h
        have hsub : (t - a) * l.length = tot - i := by rw [Nat.sub_mul]; omega
        have hP : repL l t = repL l a ++ repL l (t - a) := by rw [← repL_add]; congr 1; omega
        have hlen : (q.take i ++ (q.take i).take (min i (tot - i))).length = i + min i (tot - i) := by
          simp only [List.length_append, List.length_take, hq]; omega
        rw [List.take_left' hlen, he, hP]
        have hla : (repL l a).length = i := by rw [repL_len]; exact hia.symm
        have h9 : (repL l a).take (i + min i (tot - i)) = repL l a := List.take_of_length_le (by omega)
        have h10 : i + min i (tot - i) - i = min i (tot - i) := by omega
        rw [List.take_left' hla, List.take_append, hla, h9, h10]
        congr 1
        symm
        exact repL_same _ _ _ _ (by rw [← hia]; omega) (by rw [hsub]; omega)
    · have : i = tot := by omega
      subst this
      exact fin q hq he
theorem ends (l : List (List U)) (k : Nat) (hk : k ≤ 400) (hl : l.length ≤ 400) (hm : k * l.length ≤ 65536) : EndZ 76 ctR false (st0 76 [wl l, iv k]) (wl (repL l k)) [] 0 := by
  have h := in_t l k
  have wu : ∀ n : Nat, n ≤ 65536 → IntKind.wrap IntKind.u64 (n : Int) = n := fun n hn => by rw [IntKind.wrap_u64]; omega
  have w1 : IntKind.wrap IntKind.u64 (Int.ofNat l.length) = (l.length : Int) := wu _ (by omega)
  have w2 : IntKind.wrap IntKind.u64 (k : Int) = (k : Int) := wu _ (by omega)
  have w3 : (l.length : Int) * (k : Int) = ((k * l.length : Nat) : Int) := by rw [Int.natCast_mul, Int.mul_comm]
  have w4 : IntKind.wrap IntKind.i64 ((k * l.length : Nat) : Int) = ((k * l.length : Nat) : Int) := by simp (disch := omega) only [wrap_in]
  simp only [w1, w2, w3, w4] at h
  generalize htot : k * l.length = tot at *
  have d1 : ¬ (k : Int) < 0 := by omega
  have d2 : (0 : Int) ≤ (l.length : Int) ∧ (l.length : Int) ≤ 65536 ∧ (0 : Int) ≤ (k : Int) ∧ (k : Int) ≤ 65536 := by omega
  have d3 : ¬ (9223372036854775807 : Int) < (tot : Int) := by omega
  have d4 : (0 : Int) ≤ (tot : Int) := by omega
  have d5 : (tot : Int) ≤ 65536 := by omega
  have z3 : (0 / 3 : Nat) = 0 := rfl
  have t1 : Int.toNat (tot : Int) = tot := rfl
  simp only [df d1, dt d2, df d3, dt d4, dt d5, bc_t, bc_f, decide_true, z3, t1, Nat.zero_add, List.length_replicate, List.take_zero, List.nil_append] at h
  rw [ble_of (by omega), bc_t] at h
  refine .at ctR_ok h (loop htot.symm hm tot (min l.length tot) _ (by omega) (by omega) ?_ ?_ ?_)
  · rcases Nat.eq_zero_or_pos k with rfl | hk0
    · left; omega
    · rcases Nat.eq_zero_or_pos l.length with h0 | h0
      · left; rw [← htot, h0]; omega
      · have : 1 * l.length ≤ k * l.length := Nat.mul_le_mul_right _ hk0
        right; exact ⟨1, by omega, by omega⟩
  · simp only [List.length_append, List.length_take, List.length_drop, List.length_replicate]; omega
  · rw [List.take_left' (by rw [List.length_take]; omega)]
    rcases Nat.eq_zero_or_pos k with rfl | hk0
    · have : tot = 0 := by omega
      subst this; simp
    · have e := repL_pre l 1 k hk0 (min l.length tot) (by omega)
      rw [e, show repL l 1 = l from List.append_nil l]
end PRep
noncomputable def spRep : ZCT := fun ax => match ax with
  | [.lst (.recs [.int .i64, .int .i64, .str] l), .v (.int .i64 k)] => some ⟨decide (0 ≤ k ∧ k ≤ 400 ∧ l.length ≤ 400 ∧ k * (l.length : Int) ≤ 65536), .lst (.recs [.int .i64, .int .i64, .str] (repL l k.toNat)), [], 0⟩
  | _ => none
theorem spRep_ok : ZCtOk Try.prog 76 spRep := fun γ w us ax r hs hc hax hN hfz => by
  unfold spRep at hs
  split at hs
  case h_2 => cases hs
  rename_i l k
  obtain ⟨rfl⟩ := Option.some.inj hs
  have hc_0 : decide (0 ≤ k ∧ k ≤ 400 ∧ l.length ≤ 400 ∧ k * (l.length : Int) ≤ 65536) = true := hc
  have hc := of_decide_eq_true hc_0
  exact EndZ.calls (by obtain ⟨k, rfl⟩ := Int.eq_ofNat_of_zero_le hc.1; exact PRep.ends l k (by omega) hc.2.2.1 (by have h9 := hc.2.2.2; rw [← Int.natCast_mul] at h9; omega)) ctR_ok (by kernel_rfl) hax hN hfz
noncomputable def ctJ2 : Tr ZCC := ctJ1.put 76 (some (dC spRep))
theorem ctJ2_ok : ZCtsOk Try.prog ctJ2 := ctJ1_ok.add rfl spRep_ok
namespace PTim
noncomputable def RUN (s : ES) : ZF := RZ 40 ctJ2 (fun _ => false) [] [] false s
theorem in_t (n t : Int) (l : List (List U)) : RUN (st0 40 [.agg [iv n, wl l], iv t]) = (bc (chk4 n l != (0 : Int))
  (.done (EV.tup [(EV.v (Value.agg (Array.mk [(Value.int IntKind.i64 (0)), (Value.slice Option.none 0 0)]))), (EV.v (Value.int IntKind.i64 (chk4 n l)))]) [] 0)
  (bc (Decidable.decide (t < (0 : Int)))
    (.done (EV.tup [(EV.v (Value.agg (Array.mk [(Value.int IntKind.i64 (0)), (Value.slice Option.none 0 0)]))), (EV.v (Value.int IntKind.i64 (7)))]) [] 0)
    (bc (Decidable.decide ((400 : Int) < t))
      (.done (EV.tup [(EV.v (Value.agg (Array.mk [(Value.int IntKind.i64 (0)), (Value.slice Option.none 0 0)]))), (EV.v (Value.int IntKind.i64 (7)))]) [] 0)
      (bc (Decidable.decide ((400 : Int) < IntKind.wrap IntKind.i64 (t * Int.ofNat (List.length l))))
        (.done (EV.tup [(EV.v (Value.agg (Array.mk [(Value.int IntKind.i64 (0)), (Value.slice Option.none 0 0)]))), (EV.v (Value.int IntKind.i64 (3)))]) [] 0)
        (bc (bc (bc (Decidable.decide ((0 : Int) ≤ t ∧ t ≤ (400 : Int) ∧ List.length l ≤ (400 : Nat) ∧ t * (Nat.cast (List.length l) : Int) ≤ (65536 : Int))) Bool.true Bool.false) (bc (bc (bc (Decidable.decide (n = n)) Bool.true Bool.false) Bool.true Bool.false) Bool.true Bool.false) Bool.false)
          (.done (EV.tup [(EV.agg [(EV.v (Value.int IntKind.i64 (n))), (EV.lst (SyC.recs [(Sh.int IntKind.i64), (Sh.int IntKind.i64), Sh.str] (repL l (Int.toNat t))))]), (EV.v (Value.int IntKind.i64 (0)))]) [] 0)
          .bad))))) := by kernel_rfl
theorem ends (n t : Int) (l : List (List U)) : EndZ 40 ctJ2 false (st0 40 [.agg [iv n, wl l], iv t]) (shE (timP n t l) (timL n t l) (timE n t l)) [] 0 := by
  have h := in_t n t l
  have he : timE n t l = bc (chk4 n l != 0) (chk4 n l) (bc (decide (t < 0)) 7 (bc (decide (400 < t)) 7 (bc (decide (400 < t * (l.length : Int))) 3 0))) := rfl
  cases h1 : (chk4 n l != 0) <;> rw [h1] at h he
  · have v := chk4_ok (ne0 h1)
    have g3 := v.len
    simp only [bc_f] at h he
    by_cases h2 : t < 0
    · simp only [dt h2, bc_t] at h he
      exact doneY h (timV he rfl).1.symm (timV he rfl).2.symm he.symm
    by_cases h3 : 400 < t
    · simp only [df h2, dt h3, bc_t, bc_f] at h he
      exact doneY h (timV he rfl).1.symm (timV he rfl).2.symm he.symm
    have b1 : 0 ≤ t * (l.length : Int) := Int.mul_nonneg (by omega) (by omega)
    have b2 : t * (l.length : Int) ≤ 400 * 400 := Int.mul_le_mul (by omega) (by omega) (by omega) (by omega)
    by_cases h4 : 400 < t * (l.length : Int)
    · simp (disch := omega) only [df h2, df h3, dt h4, bc_t, bc_f, ofn, wrap_in] at h he
      exact doneY h (timV he rfl).1.symm (timV he rfl).2.symm he.symm
    have hq : 0 ≤ t ∧ t ≤ 400 ∧ l.length ≤ 400 ∧ t * (l.length : Int) ≤ 65536 := ⟨by omega, by omega, g3, by omega⟩
    simp (disch := omega) only [df h2, df h3, df h4, dt hq, bc_t, bc_f, ofn, wrap_in, decide_true] at h he
    exact doneX h (timV0 he).1.symm (timV0 he).2.symm he.symm
  · simp only [bc_t] at h he
    exact doneY h (timV he h1).1.symm (timV he h1).2.symm he.symm
end PTim
noncomputable def spPTim : ZCT := fun ax => match ax with
  | [.agg [.v (.int .i64 n), .lst (.recs [.int .i64, .int .i64, .str] l)], .v (.int .i64 t)] => some ⟨decide (True), shE (timP n t l) (timL n t l) (timE n t l), [], 0⟩
  | _ => none
theorem spPTim_ok : ZCtOk Try.prog 40 spPTim := fun γ w us ax r hs hc hax hN hfz => by
  unfold spPTim at hs
  split at hs
  case h_2 => cases hs
  rename_i n l t
  obtain ⟨rfl⟩ := Option.some.inj hs
  have hc_0 : decide (True) = true := hc
  have hc := of_decide_eq_true hc_0
  exact EndZ.calls (PTim.ends n t l) ctJ2_ok (by kernel_rfl) hax hN hfz
end Go.Proofs.Ytkbebiebaenbdaa.Ev
namespace Go.Proofs.Ytkbebiebaenbdaa.Ev
open Go.Proofs
theorem awake_run : endsB (exClosed Try.prog ft (drD Try.prog ft 16 4) 22 18) = true := by kernel_rfl
theorem awakeC (w : World) : Calls Try.prog 22 #[] w fun e w' => e = .returned (.bool true) ∧ Stays w w' := closedTrue ftOk (drD_ok mix ftOk 16 4) awake_run w
theorem spAwake_ok : ZCtOk Try.prog 22 spTrue := spTrue_ok awakeC
end Go.Proofs.Ytkbebiebaenbdaa.Ev
namespace Go.Proofs.Ytkbebiebaenbdaa
open Go.ChangeShapes Go.WideShapes Go.ChangeAt Go.RowKit

theorem kept_of_stays {W W' : World} (h : Ev.Stays W W') (may : MemPlace → Prop) : W.keptBut W' may := by
  refine ⟨h.os, h.output, fun i hi => ?_⟩
  have e := h.block i hi
  rw [e]
  cases hb : W.heap[i]? with
  | none => simp
  | some o =>
    cases o <;> first | exact ⟨rfl, rfl, rfl, fun _ _ => rfl⟩ | exact .inr ⟨rfl, rfl⟩ | rfl
theorem frozen_of_stays {W W' : World} (h : Ev.Stays W W') (a : Addr) (ha : a.block < W.heap.size) : W'.frozen? a = W.frozen? a := by
  unfold World.frozen?
  rw [h.block _ ha]
section
variable {H : Type} {enc : TypeId × Value → H} {P : Program}
/-- 'post_of_same', where only the blocks that were there are as they were -/
theorem post_of_stays {f : Func} {s : ChangeSpec} {apart fresh handsOn again : Bool} {W W' : World} {args : Array Value} {v : Value} {ds gs : List (DataW H)} {before pa pv : List MemPlace}
    (hW : DataW.Whole enc P f.params.toList s.vars apart W args.toList ds gs before)
    (hres : ∀ (b : Nat) (sp : Nat → Bool) (hd : Bool), DataW.TrodAll enc P W' b sp hd f.resultTypes.toList (v.resultList f.resultTypes.size) (s.fn H (ds ++ gs)).results [])
    (hargs : ∀ sp : Nat → Bool, (∀ p ∈ before, sp p.block = true) → DataW.TrodAll enc P W' 0 sp true f.params.toList args.toList (s.fn H (ds ++ gs)).args pa)
    (hvars : ∀ sp : Nat → Bool, (∀ p ∈ before, sp p.block = true) → DataW.TrodVars enc P W' sp s.vars (s.fn H (ds ++ gs)).vars pv)
    (hps : before = pa ++ pv) (hst : Ev.Stays W W')
    (hok : ∀ (j : Nat) (t : TypeId) (r : Value), f.resultTypes[j]? = some t → (v.resultList f.resultTypes.size)[j]? = some r → Value.okWide P W' .any 0 t r) :
    s.post enc P f apart fresh handsOn again W args v W' := by
  have hk : W.keptBut W' (· ∈ before) := kept_of_stays hst _
  have hold : ∀ p ∈ before, (fun b => decide (b < W.heap.size)) p.block = true := fun p hp => by simpa using hW.lt p hp
  have hlt := fun p hp => hW.lt p hp
  refine ⟨ds, gs, before, [], pa, pv, hW, hres _ _ _, hargs _ hold, hvars _ hold, World.keptBut_mono (fun p hp => ⟨hp, ?_⟩) hk, fun _ => ?_⟩
  · rw [hps, List.mem_append] at hp
    exact Or.inr hp
  · obtain ⟨_, _, _, _, _, hz, hn⟩ := hW
    refine ⟨hok, _, _, ([] ++ pa) ++ pv, ⟨[] ++ pa, pv, trodAll_append (hargs _ (fun _ _ => rfl)) (hres _ _ _), hvars _ (fun _ _ => rfl), rfl, ?_, ?_⟩, ?_⟩
    · intro b off hp
      have hp2 : MemPlace.cell b off ∈ before := by rw [hps]; simpa using hp
      rw [frozen_of_stays hst _ (hlt _ hp2)]
      exact hz b off hp2
    · intro ha
      have := hn ha
      rw [hps] at this
      simpa using this
    · intro p hp _
      rw [hps]
      simpa using hp
end
end Go.Proofs.Ytkbebiebaenbdaa
namespace Go.Proofs.Ytkbebiebaenbdaa
open Go.ChangeShapes Go.WideShapes Go.ChangeAt Go.RowKit
section
variable {H : Type} {enc : TypeId × Value → H} {P : Program}
theorem same_of_stays {W W' : World} (h : Ev.Stays W W') {p : MemPlace} (hp : p.block < W.heap.size) : W.sameAt W' p := by
  cases p with
  | cell b off =>
    show W'.cell? _ = W.cell? _
    unfold World.cell?
    rw [h.block b hp]
  | map b => exact h.block b hp
theorem args_carry {W W' : World} {base : Nat} {sp : Nat → Bool} {hd : Bool} : ∀ {ts : List TypeId} {vs : List Value} {ds : List (DataW H)} {ps : List MemPlace}, DataW.TrodAll enc P W base sp hd ts vs ds ps → (∀ p ∈ ps, W.sameAt W' p) → DataW.TrodAll enc P W' base sp hd ts vs ds ps
  | [], [], [], _, h, _ => h
  | _ :: _, _ :: _, _ :: _, _, ⟨p, q, ⟨n, h⟩, hs, e⟩, k => ⟨p, q, ⟨n, DataW.trod_carry n _ _ _ h fun x hx => k x (by rw [e]; exact List.mem_append_left _ hx)⟩, args_carry hs fun x hx => k x (by rw [e]; exact List.mem_append_right _ hx), e⟩
  | [], [], _ :: _, _, h, _ => h.elim
  | [], _ :: _, _, _, h, _ => h.elim
  | _ :: _, [], _, _, h, _ => h.elim
  | _ :: _, _ :: _, [], _, h, _ => h.elim
/-- a law's closing condition: true, and its arguments read as they did -/
theorem post_law {f : Func} {s : ChangeSpec} {apart fresh handsOn again : Bool} {W W' : World} {args : Array Value} {ds : List (DataW H)} {p : List MemPlace} {bt : TypeId} {T : TypeId → Prop} (K : Kids P T) (hz : ∀ t e, T t → P.underlying t = some (.slice e) → 0 < P.cellsOf e)
    (hbt : P.underlying bt = some .bool) (hrt : f.resultTypes.toList = [bt]) (hsz : f.resultTypes.size = 1) (hvs : s.vars = []) (hfn : s.fn H (ds ++ []) = { results := [.lit (.bool true)], args := ds })
    (hpt : ∀ t ∈ f.params.toList, T t)
    (hW : DataW.Whole enc P f.params.toList s.vars apart W args.toList ds [] (p ++ [])) (hA : DataW.TrodAll enc P W 0 (fun _ => true) true f.params.toList args.toList ds p) (hst : Ev.Stays W W')
    (hok : ∀ (j : Nat) (t : TypeId) (r : Value), f.resultTypes[j]? = some t → ((Value.bool true).resultList f.resultTypes.size)[j]? = some r → Value.okWide P W' .any 0 t r) :
    s.post enc P f apart fresh handsOn again W args (.bool true) W' := by
  have hlt := fun q hq => hW.lt q hq
  refine post_of_stays (pa := p) (pv := []) hW (fun b sp hd => ?_) (fun sp hsp => ?_) (fun sp _ => ?_) rfl hst hok
  · rw [hrt, hfn, hsz]
    exact trodAll_mk1 (shut_bool hbt _)
  · rw [hfn]
    exact DataW.TrodAll.respare K hz hpt (args_carry hA fun q hq => same_of_stays hst (hlt q (by simpa using hq))) fun q hq => hsp q (by simpa using hq)
  · rw [hfn, hvs]
    rfl
end
namespace Ev
/-! ### data that came in -/
/-- numbers fit their kinds, rows are whole -/
inductive UFit : Sh → U → Prop where
  | int (k : IntKind) (n : Int) (h : (Lit.int k n).wf = true) : UFit (.int k) (.i n)
  | bool (b : Bool) : UFit .bool (.b b)
  | str (s : ByteArray) (h : s.size ≤ maxLen) : UFit .str (.s s)
  | list (sh : List Sh) (l : List (List U)) (hl : l.length ≤ maxLen) (hr : ∀ j, j < l.length → (l.getD j []).length = sh.length) (h : ∀ (j f : Nat) (s : Sh), j < l.length → sh[f]? = some s → UFit s ((l.getD j []).getD f (.i 0))) : UFit (.list sh) (.l l)
structure RowFit (sh : List Sh) (r : List U) : Prop where
  len : r.length = sh.length
  fit : ∀ (f : Nat) (s : Sh), sh[f]? = some s → UFit s (r.getD f (.i 0))
theorem RowFit.nil : RowFit [] [] := ⟨rfl, fun f s h => by simp at h⟩
theorem RowFit.append {sh1 sh2 : List Sh} {r1 r2 : List U} (h1 : RowFit sh1 r1) (h2 : RowFit sh2 r2) : RowFit (sh1 ++ sh2) (r1 ++ r2) := by
  refine ⟨by simp [h1.len, h2.len], fun f s h => ?_⟩
  rw [List.getD_eq_getElem?_getD]
  by_cases hf : f < sh1.length
  · rw [List.getElem?_append_left hf] at h
    rw [List.getElem?_append_left (by rw [h1.len]; exact hf), ← List.getD_eq_getElem?_getD]
    exact h1.fit f s h
  · rw [List.getElem?_append_right (by omega)] at h
    rw [List.getElem?_append_right (by rw [h1.len]; omega), h1.len, ← List.getD_eq_getElem?_getD]
    exact h2.fit _ s h
theorem recE_app : ∀ {sh1 sh2 : List Sh} {r1 r2 : List U}, r1.length = sh1.length → recE (sh1 ++ sh2) (r1 ++ r2) = recE sh1 r1 ++ recE sh2 r2
  | [], sh2, r1, r2, h => by
    have : r1 = [] := List.eq_nil_of_length_eq_zero h
    subst this; rfl
  | s :: sh1, sh2, [], r2, h => by cases h
  | s :: sh1, sh2, u :: r1, r2, h => by
    show s.ev u :: recE (sh1 ++ sh2) (r1 ++ r2) = s.ev u :: (recE sh1 r1 ++ recE sh2 r2)
    rw [recE_app (by simpa using h)]
/-- shapes of types, where cells lie one behind the other -/
def shFs (P : Program) (f : TypeId → Option (List Sh)) : List Field → Nat → Option (List Sh)
  | [], _ => some []
  | fd :: r, off => match f fd.type with
    | some sh => if fd.offset = off ∧ P.cellsOf fd.type = sh.length then match shFs P f r (off + sh.length) with
      | some l => some (sh ++ l)
      | none => none else none
    | none => none
def shB (P : Program) : Nat → TypeId → Option (List Sh)
  | 0, _ => none
  | k + 1, t => match P.underlying t with
    | some (.int κ) => some [.int κ]
    | some .bool => some [.bool]
    | some .string => some [.str]
    | some (.slice e) => match shB P k e with
      | some sh => if P.cellsOf e = sh.length ∧ 0 < sh.length then some [.list sh] else none
      | none => none
    | some (.struct fs) => match shFs P (shB P k) fs.toList 0 with
      | some sh => if P.cellsOf t = sh.length then some sh else none
      | none => none
    | some (.array m e) => match shB P k e with
      | some sh => if P.cellsOf e = sh.length ∧ P.cellsOf t = m * sh.length then some (List.replicate m sh).flatten else none
      | none => none
    | _ => none
noncomputable def fzAll (W : World) : Nat → Option (Array Value) := fun k => match W.heap[k]? with
  | some (.cells a _ _) => some a
  | _ => none
noncomputable def gAll (W : World) : G := ⟨fun _ => none, fzAll W⟩
theorem fzAll_at (W : World) : FzAt (gAll W) W := fun k a hk => by
  have hk : fzAll W k = some a := hk
  unfold fzAll at hk
  split at hk
  · rename_i a' ty fz h
    injection hk with hk; subst hk
    exact ⟨ty, fz, h⟩
  · cases hk
theorem list_of {Q : Nat → List U → Prop} : ∀ (n : Nat), (∀ i, i < n → ∃ r, Q i r) → ∃ l : List (List U), l.length = n ∧ ∀ i, i < n → Q i (l.getD i [])
  | 0, _ => ⟨[], rfl, fun i hi => absurd hi (by omega)⟩
  | n + 1, h => by
    obtain ⟨l, h1, h2⟩ := list_of n fun i hi => h i (by omega)
    obtain ⟨r, hr⟩ := h n (by omega)
    refine ⟨l ++ [r], by simp [h1], fun i hi => ?_⟩
    rw [List.getD_eq_getElem?_getD]
    by_cases e : i < n
    · rw [List.getElem?_append_left (by omega), ← List.getD_eq_getElem?_getD]; exact h2 i e
    · have : i = n := by omega
      subst this
      rw [List.getElem?_append_right (by omega), h1, Nat.sub_self]; exact hr
variable {H : Type} {enc : TypeId × Value → H} {P : Program} {W : World} {base : Nat} {sp : Nat → Bool} {hd : Bool}
def OpenAt (enc : TypeId × Value → H) (P : Program) (W : World) (base : Nat) (sp : Nat → Bool) (hd : Bool) (k : Nat) : Prop := ∀ (t : TypeId) (sh : List Sh) (fuel : Nat) (cs : List Value) (x : DataW H × List MemPlace), shB P k t = some sh → DataW.trod enc P W base sp hd fuel t cs = some x → ∃ r, RowFit sh r ∧ ∀ γ : G, γ.fz = fzAll W → ECL γ (recE sh r) cs
theorem fields_open {k : Nat} (ih : OpenAt enc P W base sp hd k) {cs : List Value} {n : Nat} : ∀ (fs : List Field) (off : Nat) (sh : List Sh), shFs P (shB P k) fs off = some sh → (∀ f, f ∈ fs → ∃ y, DataW.trod enc P W base sp hd n f.type ((cs.drop f.offset).take (P.cellsOf f.type)) = some y) → ∃ r, RowFit sh r ∧ ∀ γ : G, γ.fz = fzAll W → ECL γ (recE sh r) ((cs.drop off).take sh.length)
  | [], off, sh, h, _ => by
    injection (show some [] = some sh from h) with h; subst h
    exact ⟨[], .nil, fun γ _ => by
      rw [show ([] : List Sh).length = 0 from rfl, List.take_zero]; exact ECL.nil γ⟩
  | fd :: fs, off, sh, h, hall => by
    unfold shFs at h
    split at h
    case h_2 => cases h
    rename_i s1 hs1
    split at h
    case isFalse => cases h
    rename_i hc
    split at h
    case h_2 => cases h
    rename_i s2 hs2
    injection h with h; subst h
    obtain ⟨y, hy⟩ := hall fd (by simp)
    rw [hc.1, hc.2] at hy
    obtain ⟨r1, h1, h2⟩ := ih fd.type s1 n _ y hs1 hy
    obtain ⟨r2, h3, h4⟩ := fields_open ih fs (off + s1.length) s2 hs2 fun f hf => hall f (by simp [hf])
    refine ⟨r1 ++ r2, h1.append h3, fun γ hγ => ?_⟩
    rw [recE_app h1.len, List.length_append]
    have e : (cs.drop off).take (s1.length + s2.length) = (cs.drop off).take s1.length ++ (cs.drop (off + s1.length)).take s2.length := by
      rw [List.take_add, List.drop_drop]
    rw [e]
    exact (h2 γ hγ).append (h4 γ hγ)
theorem elems_open {k : Nat} (ih : OpenAt enc P W base sp hd k) {cs : List Value} {n : Nat} {e : TypeId} {sh : List Sh} (hsh : shB P k e = some sh) (hc : P.cellsOf e = sh.length) : ∀ (m i0 : Nat), (∀ i, i < m → ∃ y, DataW.trod enc P W base sp hd n e ((cs.drop ((i0 + i) * P.cellsOf e)).take (P.cellsOf e)) = some y) → ∃ r, RowFit (List.replicate m sh).flatten r ∧ ∀ γ : G, γ.fz = fzAll W → ECL γ (recE (List.replicate m sh).flatten r) ((cs.drop (i0 * sh.length)).take (m * sh.length))
  | 0, i0, _ => ⟨[], .nil, fun γ _ => by
      rw [Nat.zero_mul, List.take_zero]; exact ECL.nil γ⟩
  | m + 1, i0, h => by
    obtain ⟨y, hy⟩ := h 0 (by omega)
    rw [hc, Nat.add_zero] at hy
    obtain ⟨r1, h1, h2⟩ := ih e sh n _ y hsh hy
    obtain ⟨r2, h3, h4⟩ := elems_open ih hsh hc m (i0 + 1) fun i hi => by
      have := h (i + 1) (by omega)
      rwa [show i0 + (i + 1) = i0 + 1 + i by omega] at this
    refine ⟨r1 ++ r2, by rw [List.replicate_succ, List.flatten_cons]; exact h1.append h3, fun γ hγ => ?_⟩
    rw [List.replicate_succ, List.flatten_cons, recE_app h1.len, Nat.succ_mul, Nat.add_comm, List.take_add, List.drop_drop]
    have := h4 γ hγ
    rw [Nat.succ_mul] at this
    exact (h2 γ hγ).append this
theorem open_cells : ∀ k, OpenAt enc P W base sp hd k
  | 0 => fun t sh fuel cs x h => by cases h
  | k + 1 => fun t sh fuel cs x h ht => by
    have ih : OpenAt enc P W base sp hd k := open_cells k
    unfold shB at h
    split at h
    · rename_i κ hu
      injection h with h; subst h
      obtain ⟨n, rfl, _, hw⟩ := DataW.trod_int hu ht
      refine ⟨[.i n], ⟨rfl, fun f s hf => ?_⟩, fun γ _ => .cons (.v _) (.nil _)⟩
      obtain ⟨rfl, rfl⟩ := one_f hf
      exact .int κ n hw
    · rename_i hu
      injection h with h; subst h
      obtain ⟨b, rfl, _⟩ := DataW.trod_bool hu ht
      refine ⟨[.b b], ⟨rfl, fun f s hf => ?_⟩, fun γ _ => .cons (.v _) (.nil _)⟩
      obtain ⟨rfl, rfl⟩ := one_f hf
      exact .bool b
    · rename_i hu
      injection h with h; subst h
      obtain ⟨s, rfl, _, hs⟩ := DataW.trod_string hu ht
      refine ⟨[.s s], ⟨rfl, fun f s hf => ?_⟩, fun γ _ => .cons (.v _) (.nil _)⟩
      obtain ⟨rfl, rfl⟩ := one_f hf
      exact .str _ hs
    · rename_i e hu
      split at h
      case h_2 => cases h
      rename_i sh' hsh
      split at h
      case isFalse => cases h
      rename_i hc
      injection h with h; subst h
      rcases DataW.trod_slice hu ht with ⟨rfl, _⟩ | ⟨a, len, cap, elems, rest, n, _, rfl, _, hb, hlc, hcm, hel, hall, _⟩
      · refine ⟨[.l []], ⟨rfl, fun f s hf => ?_⟩, fun γ _ => .cons ?_ (.nil _)⟩
        · obtain ⟨rfl, rfl⟩ := one_f hf
          exact .list sh' [] (Nat.zero_le _) (fun j hj => by simp at hj) (fun j f s hj => by simp at hj)
        · exact UOk.ec (s := .list sh') (.empty sh' (.l []) none 0 rfl (Nat.zero_le _) fun _ => rfl)
      · have each : ∀ i, i < len → ∃ r, RowFit sh' r ∧ ∃ ys, W.cells? base (a.add (i * sh'.length)) sh'.length = some ys ∧ ∀ γ : G, γ.fz = fzAll W → ECL γ (recE sh' r) ys := fun i hi => by
          have h1 := hall i hi
          rw [hc.1] at h1
          have h2 : i < elems.length := by omega
          rw [List.getElem?_eq_getElem h2] at h1
          obtain ⟨ys, h3, h4⟩ := Option.bind_eq_some_iff.1 h1
          obtain ⟨r, h5, h6⟩ := ih e sh' n ys _ hsh h4
          exact ⟨r, h5, ys, h3, h6⟩
        obtain ⟨l, hl, hQ⟩ := list_of len each
        refine ⟨[.l l], ⟨rfl, fun f s hf => ?_⟩, fun γ hγ => .cons ?_ (.nil _)⟩
        · obtain ⟨rfl, rfl⟩ := one_f hf
          exact .list sh' l (by omega) (fun j hj => (hQ j (by omega)).1.len) fun j f s hj hf => (hQ j (by omega)).1.fit f s hf
        · refine UOk.ec (s := .list sh') ?_
          by_cases h0 : len = 0
          · have : l = [] := List.eq_nil_of_length_eq_zero (by omega)
            subst this; subst h0
            exact .empty sh' (.l []) (some a) cap rfl hcm fun e => by cases e
          · obtain ⟨b, off, spot⟩ := a
            have hblk : spot = none ∧ ∃ arr ty fz, W.heap[b]? = some (.cells arr ty fz) := by
              obtain ⟨h1, ys, h2, h3⟩ := hQ 0 (by omega)
              obtain ⟨_, h4, h5⟩ := World.cells?_some h2
              have h6 := h5 0 hc.2
              rw [List.getElem?_eq_getElem (show 0 < ys.length by omega)] at h6
              have h6 : W.cell? ⟨b, off, spot⟩ = some ys[0] := by
                have e : ((⟨b, off, spot⟩ : Addr).add (0 * sh'.length)).add 0 = ⟨b, off, spot⟩ := by simp [Addr.add]
                rw [e] at h6; exact h6
              unfold World.cell? at h6
              split at h6
              · rename_i arr ty fz hb'
                split at h6
                · cases h6
                · rename_i hs
                  exact ⟨by cases spot <;> simp_all, arr, ty, fz, hb'⟩
              · cases h6
            obtain ⟨rfl, arr, ty, fz, hblk⟩ := hblk
            have cellAt : ∀ i f, i < len → f < sh'.length → ∃ y, W.cell? ⟨b, off + (i * sh'.length + f), none⟩ = some y ∧ ∀ s, sh'[f]? = some s → UOk γ.fz s ((l.getD i []).getD f (.i 0)) y := fun i f hi hf => by
              obtain ⟨h1, ys, h2, h3⟩ := hQ i hi
              obtain ⟨_, h4, h5⟩ := World.cells?_some h2
              have h6 := h5 f hf
              have h7 : f < ys.length := by omega
              rw [List.getElem?_eq_getElem h7] at h6
              refine ⟨ys[f], ?_, fun s hs => ?_⟩
              · have e : ((⟨b, off, none⟩ : Addr).add (i * sh'.length)).add f = ⟨b, off + (i * sh'.length + f), none⟩ := by
                  unfold Addr.add
                  split <;> split <;> simp_all [Nat.add_assoc]
                rw [← h6, e]
              · have h8 := recE_get (s := s) (f := f) (sh := sh') (l.getD i []) hs
                have h9 := (h3 γ hγ).2 f _ ys[f] h8 (List.getElem?_eq_getElem h7)
                exact UOk.of_ec h9
            have getA : ∀ i f, i < len → f < sh'.length → ∃ y, arr[off + (i * sh'.length + f)]? = some y ∧ ∀ s, sh'[f]? = some s → UOk γ.fz s ((l.getD i []).getD f (.i 0)) y := fun i f hi hf => by
              obtain ⟨y, h1, h2⟩ := cellAt i f hi hf
              refine ⟨y, ?_, h2⟩
              unfold World.cell? at h1
              simpa [hblk] using h1
            have hk : γ.fz b = some arr := by
              rw [hγ]; unfold fzAll; rw [hblk]
            subst hl
            refine .list sh' (.l l) b off cap arr hk hlc hcm ?_ fun j f s x hj hf hx => ?_
            · show off + l.length * sh'.length ≤ arr.size
              obtain ⟨y, h1, _⟩ := getA (l.length - 1) (sh'.length - 1) (by omega) (by omega)
              have := (Array.getElem?_eq_some_iff.1 h1).1
              have e : l.length * sh'.length = (l.length - 1) * sh'.length + sh'.length := by rw [← Nat.succ_mul]; congr 1; omega
              omega
            · obtain ⟨y, h1, h2⟩ := getA j f hj (List.getElem?_eq_some_iff.1 hf).1
              rw [h1] at hx; injection hx with hx; subst hx
              exact h2 s hf
    · rename_i fs hu
      split at h
      case h_2 => cases h
      rename_i sh' hsh
      split at h
      case isFalse => cases h
      rename_i hc
      injection h with h; subst h
      obtain ⟨xs, n, _, _, hl, hlen, hf⟩ := DataW.trod_struct hu ht
      obtain ⟨r, h1, h2⟩ := fields_open (cs := cs) (n := n) ih fs.toList 0 sh' hsh fun f hm => by
        obtain ⟨i, hi, rfl⟩ := List.getElem_of_mem hm
        have hi2 : i < fs.size := by simpa using hi
        have := hf i fs.toList[i] (by simp [hi2])
        rw [List.getElem?_eq_getElem (by omega)] at this
        exact ⟨_, this⟩
      refine ⟨r, h1, fun γ hγ => ?_⟩
      have := h2 γ hγ
      rwa [List.drop_zero, List.take_of_length_le (by omega)] at this
    · rename_i m e hu
      split at h
      case h_2 => cases h
      rename_i sh' hsh
      split at h
      case isFalse => cases h
      rename_i hc
      injection h with h; subst h
      obtain ⟨xs, n, _, _, hl, hlen, hf⟩ := DataW.trod_array hu ht
      obtain ⟨r, h1, h2⟩ := elems_open (cs := cs) (n := n) ih hsh hc.1 m 0 fun i hi => by
        have := hf i hi
        rw [List.getElem?_eq_getElem (by omega)] at this
        rw [Nat.zero_add]
        exact ⟨_, this⟩
      refine ⟨r, h1, fun γ hγ => ?_⟩
      have := h2 γ hγ
      rwa [Nat.zero_mul, List.drop_zero, List.take_of_length_le (by omega)] at this
    · cases h
/-- an argument of a struct's type -/
theorem open_agg {t : TypeId} {fs : Array Field} {v : Value} {d : DataW H} {ps : List MemPlace} {k b0 : Nat} {rc : Reach} {sh : List Sh} (hu : P.underlying t = some (.struct fs)) (hs : shB P k t = some sh) (hv : Value.okWide P W rc b0 t v) (h : DataW.Trod enc P W base sp hd t v d ps) : ∃ r, RowFit sh r ∧ EC (gAll W) (.agg (recE sh r)) v := by
  obtain ⟨cs, rfl, _⟩ := okWide_struct hu hv
  obtain ⟨fuel, hf⟩ := h
  obtain ⟨r, h1, h2⟩ := open_cells k t sh fuel _ _ hs hf
  have h3 := h2 (gAll W) rfl
  refine ⟨r, h1, ?_⟩
  have := EC.agg (γ := gAll W) (recE sh r) cs.toList h3.1 h3.2
  simpa using this
/-- an argument of a slice's type -/
theorem open_lst {t e : TypeId} {v : Value} {d : DataW H} {ps : List MemPlace} {k b0 : Nat} {rc : Reach} {sh : List Sh} (hu : P.underlying t = some (.slice e)) (hs : shB P k t = some [.list sh]) (hv : Value.okWide P W rc b0 t v) (h : DataW.Trod enc P W base sp hd t v d ps) : ∃ l, UFit (.list sh) (.l l) ∧ EC (gAll W) (.lst (mkC sh l)) v := by
  obtain ⟨a, len, cap, rfl⟩ := okWide_slice hu hv
  obtain ⟨fuel, hf⟩ := h
  obtain ⟨r, h1, h2⟩ := open_cells k t _ fuel _ _ hs hf
  have h3 := h2 (gAll W) rfl
  obtain ⟨h4, h5⟩ := h1
  match r, h4 with
  | [u], _ =>
    have h6 := h5 0 _ rfl
    have h6 : UFit (.list sh) u := h6
    cases h6 with
    | list _ l hl hr hh =>
      refine ⟨l, .list sh l hl hr hh, ?_⟩
      exact h3.2 0 _ _ rfl rfl
end Ev
end Go.Proofs.Ytkbebiebaenbdaa
namespace Go.Proofs.Ytkbebiebaenbdaa.Ev
open Go.Proofs
noncomputable def ctJn : Tr ZCC := (((((((Tr.nil.put 36 (some (dC spPBes))).put 38 (some (dC spRBes))).put 35 (some (dC spPBel))).put 39 (some (dC spRBel))).put 40 (some (dC spPTim))).put 41 (some (dC spRTim))).put 25 (some (dC spSame))).put 22 (some (dC spTrue))
theorem ctJn_ok : ZCtsOk Try.prog ctJn := ((((((((ZCtsOk.nil _).add rfl spPBes_ok).add rfl spRBes_ok).add rfl spPBel_ok).add rfl spRBel_ok).add rfl spPTim_ok).add rfl spRTim_ok).add rfl spSame_ok).add rfl spAwake_ok
namespace AJns
noncomputable def RUN (s : ES) : ZF := RZ 8 ctJn (fun _ => false) [] [] false s
theorem in_t (n m t : Int) (l k : List (List U)) : RUN (st0 8 [.agg [iv n, wl l], .agg [iv m, wl k], iv t]) = (bc (Decidable.decide ((400 : Int) < Int.ofNat (List.length l)))
  (bc (Decidable.decide (Int.ofNat (List.length l) ≤ (400 : Int)))
    (.done (EV.v (Value.bool true)) [] 0)
    (bc (Decidable.decide ((450 : Int) < Int.ofNat (List.length l)))
      (.done (EV.v (Value.bool true)) [] 0)
      (bc (Decidable.decide ((400 : Int) < Int.ofNat (List.length k)))
        (bc (Decidable.decide (Int.ofNat (List.length k) ≤ (400 : Int)))
          (.done (EV.v (Value.bool true)) [] 0)
          (bc (Decidable.decide ((450 : Int) < Int.ofNat (List.length k)))
            (.done (EV.v (Value.bool true)) [] 0)
            (bc (bc (Decidable.decide (List.length (besL n m l k) ≤ (100000 : Nat))) Bool.true Bool.false)
              (bc (!sameW (besP n m l k) (besP n m l k) (besL n m l k) (besL n m l k))
                (.done (EV.v (Value.bool false)) [] 0)
                (bc (besE n m l k != besE n m l k)
                  (.done (EV.v (Value.bool false)) [] 0)
                  (bc (bc (Decidable.decide (List.length (belL n m l k) ≤ (100000 : Nat))) Bool.true Bool.false)
                    (bc (sameW (belP n m l k) (belP n m l k) (belL n m l k) (belL n m l k))
                      (bc (belE n m l k == belE n m l k)
                        (bc (bc (Decidable.decide (List.length (timL n t l) ≤ (100000 : Nat))) Bool.true Bool.false)
                          (bc (sameW (timP n t l) (timP n t l) (timL n t l) (timL n t l))
                            (bc (timE n t l == timE n t l)
                              (.done (EV.v (Value.bool true)) [] 0)
                              (.done (EV.v (Value.bool false)) [] 0))
                            (.done (EV.v (Value.bool false)) [] 0))
                          .bad)
                        (.done (EV.v (Value.bool false)) [] 0))
                      (.done (EV.v (Value.bool false)) [] 0))
                    .bad)))
              .bad)))
        (bc (Decidable.decide ((450 : Int) < Int.ofNat (List.length k)))
          (.done (EV.v (Value.bool true)) [] 0)
          (bc (bc (Decidable.decide (List.length (besL n m l k) ≤ (100000 : Nat))) Bool.true Bool.false)
            (bc (!sameW (besP n m l k) (besP n m l k) (besL n m l k) (besL n m l k))
              (.done (EV.v (Value.bool false)) [] 0)
              (bc (besE n m l k != besE n m l k)
                (.done (EV.v (Value.bool false)) [] 0)
                (bc (bc (Decidable.decide (List.length (belL n m l k) ≤ (100000 : Nat))) Bool.true Bool.false)
                  (bc (sameW (belP n m l k) (belP n m l k) (belL n m l k) (belL n m l k))
                    (bc (belE n m l k == belE n m l k)
                      (bc (bc (Decidable.decide (List.length (timL n t l) ≤ (100000 : Nat))) Bool.true Bool.false)
                        (bc (sameW (timP n t l) (timP n t l) (timL n t l) (timL n t l))
                          (bc (timE n t l == timE n t l)
                            (.done (EV.v (Value.bool true)) [] 0)
                            (.done (EV.v (Value.bool false)) [] 0))
                          (.done (EV.v (Value.bool false)) [] 0))
                        .bad)
                      (.done (EV.v (Value.bool false)) [] 0))
                    (.done (EV.v (Value.bool false)) [] 0))
                  .bad)))
            .bad)))))
  (bc (Decidable.decide ((450 : Int) < Int.ofNat (List.length l)))
    (.done (EV.v (Value.bool true)) [] 0)
    (bc (Decidable.decide ((400 : Int) < Int.ofNat (List.length k)))
      (bc (Decidable.decide (Int.ofNat (List.length k) ≤ (400 : Int)))
        (.done (EV.v (Value.bool true)) [] 0)
        (bc (Decidable.decide ((450 : Int) < Int.ofNat (List.length k)))
          (.done (EV.v (Value.bool true)) [] 0)
          (bc (bc (Decidable.decide (List.length (besL n m l k) ≤ (100000 : Nat))) Bool.true Bool.false)
            (bc (!sameW (besP n m l k) (besP n m l k) (besL n m l k) (besL n m l k))
              (.done (EV.v (Value.bool false)) [] 0)
              (bc (besE n m l k != besE n m l k)
                (.done (EV.v (Value.bool false)) [] 0)
                (bc (bc (Decidable.decide (List.length (belL n m l k) ≤ (100000 : Nat))) Bool.true Bool.false)
                  (bc (sameW (belP n m l k) (belP n m l k) (belL n m l k) (belL n m l k))
                    (bc (belE n m l k == belE n m l k)
                      (bc (bc (Decidable.decide (List.length (timL n t l) ≤ (100000 : Nat))) Bool.true Bool.false)
                        (bc (sameW (timP n t l) (timP n t l) (timL n t l) (timL n t l))
                          (bc (timE n t l == timE n t l)
                            (.done (EV.v (Value.bool true)) [] 0)
                            (.done (EV.v (Value.bool false)) [] 0))
                          (.done (EV.v (Value.bool false)) [] 0))
                        .bad)
                      (.done (EV.v (Value.bool false)) [] 0))
                    (.done (EV.v (Value.bool false)) [] 0))
                  .bad)))
            .bad)))
      (bc (Decidable.decide ((450 : Int) < Int.ofNat (List.length k)))
        (.done (EV.v (Value.bool true)) [] 0)
        (bc (bc (Decidable.decide (List.length (besL n m l k) ≤ (100000 : Nat))) Bool.true Bool.false)
          (bc (!sameW (besP n m l k) (besP n m l k) (besL n m l k) (besL n m l k))
            (.done (EV.v (Value.bool false)) [] 0)
            (bc (besE n m l k != besE n m l k)
              (.done (EV.v (Value.bool false)) [] 0)
              (bc (bc (Decidable.decide (List.length (belL n m l k) ≤ (100000 : Nat))) Bool.true Bool.false)
                (bc (sameW (belP n m l k) (belP n m l k) (belL n m l k) (belL n m l k))
                  (bc (belE n m l k == belE n m l k)
                    (bc (bc (Decidable.decide (List.length (timL n t l) ≤ (100000 : Nat))) Bool.true Bool.false)
                      (bc (sameW (timP n t l) (timP n t l) (timL n t l) (timL n t l))
                        (bc (timE n t l == timE n t l)
                          (.done (EV.v (Value.bool true)) [] 0)
                          (.done (EV.v (Value.bool false)) [] 0))
                        (.done (EV.v (Value.bool false)) [] 0))
                      .bad)
                    (.done (EV.v (Value.bool false)) [] 0))
                  (.done (EV.v (Value.bool false)) [] 0))
                .bad)))
          .bad))))) := by kernel_rfl
theorem eb (x : Int) : (x != x) = false := by simp
theorem eb2 (x : Int) : (x == x) = true := by simp
theorem bes_len {n m : Int} {l k : List (List U)} (h1 : ¬ 450 < (l.length : Int)) (h2 : ¬ 450 < (k.length : Int)) : (besL n m l k).length ≤ 100000 := by
  unfold besL
  cases besE n m l k != 0
  · show (l ++ shL n k).length ≤ _
    rw [List.length_append, shL_len]; omega
  · exact Nat.zero_le _
theorem bel_len {n m : Int} {l k : List (List U)} (h1 : ¬ 450 < (l.length : Int)) (h2 : ¬ 450 < (k.length : Int)) : (belL n m l k).length ≤ 100000 := by
  unfold belL
  cases belE n m l k != 0
  · show (l ++ k).length ≤ _
    rw [List.length_append]; omega
  · exact Nat.zero_le _
theorem tim_len (n t : Int) (l : List (List U)) : (timL n t l).length ≤ 100000 := by
  unfold timL
  cases h : (timE n t l != 0)
  · show (repL l t.toNat).length ≤ _
    have h := ne0 h
    rw [repL_len]
    unfold timE at h
    cases h1 : (chk4 n l != 0) <;> rw [h1] at h
    · rw [bc_f] at h
      by_cases h2 : t < 0
      · rw [dt h2, bc_t] at h; cases h
      rw [df h2, bc_f] at h
      by_cases h3 : 400 < t
      · rw [dt h3, bc_t] at h; cases h
      rw [df h3, bc_f] at h
      by_cases h4 : 400 < t * (l.length : Int)
      · rw [dt h4, bc_t] at h; cases h
      obtain ⟨k, rfl⟩ := Int.eq_ofNat_of_zero_le (show 0 ≤ t by omega)
      rw [← Int.natCast_mul] at h4
      rw [Int.toNat_natCast]
      omega
    · rw [bc_t] at h
      rw [h] at h1; cases h1
  · exact Nat.zero_le _
theorem ends (n m t : Int) (l k : List (List U)) : EndZ 8 ctJn false (st0 8 [.agg [iv n, wl l], .agg [iv m, wl k], iv t]) (bv true) [] 0 := by
  have h := in_t n m t l k
  by_cases h1 : 450 < (l.length : Int)
  · simp (disch := omega) only [Nat.add_eq, eqSy_self, eqN_self, bc_same, List.length_cons, ofn, wrap_in, dt, df, bltD, bltN, ble_of, bleN, beqD, bc_t, bc_f, nn_ok, Nat.zero_add, to_nat, Int.zero_add, Int.sub_zero, Int.sub_self, Int.cast_ofNat_Int, Int.natCast_zero, Int.toNat_zero, List.take_zero, List.nil_append, List.length_append, List.length_nil] at h
    exact .done h
  by_cases h3 : 400 < (l.length : Int)
  · by_cases h2 : 450 < (k.length : Int)
    · simp (disch := omega) only [Nat.add_eq, eqSy_self, eqN_self, bc_same, List.length_cons, ofn, wrap_in, dt, df, bltD, bltN, ble_of, bleN, beqD, bc_t, bc_f, nn_ok, Nat.zero_add, to_nat, Int.zero_add, Int.sub_zero, Int.sub_self, Int.cast_ofNat_Int, Int.natCast_zero, Int.toNat_zero, List.take_zero, List.nil_append, List.length_append, List.length_nil] at h
      exact .done h
    have b1 := bes_len (n := n) (m := m) h1 h2
    have b2 := bel_len (n := n) (m := m) h1 h2
    have b3 := tim_len n t l
    by_cases h4 : 400 < (k.length : Int)
    · simp (disch := omega) only [Nat.add_eq, eqSy_self, eqN_self, bc_same, List.length_cons, ofn, wrap_in, dt, df, bltD, bltN, ble_of, bleN, beqD, bc_t, bc_f, nn_ok, Nat.zero_add, to_nat, Int.zero_add, Int.sub_zero, Int.sub_self, Int.cast_ofNat_Int, Int.natCast_zero, Int.toNat_zero, List.take_zero, List.nil_append, List.length_append, List.length_nil, dt b1, dt b2, dt b3, sameW_self, eb, eb2, Bool.not_true] at h
      exact .done h
    · simp (disch := omega) only [Nat.add_eq, eqSy_self, eqN_self, bc_same, List.length_cons, ofn, wrap_in, dt, df, bltD, bltN, ble_of, bleN, beqD, bc_t, bc_f, nn_ok, Nat.zero_add, to_nat, Int.zero_add, Int.sub_zero, Int.sub_self, Int.cast_ofNat_Int, Int.natCast_zero, Int.toNat_zero, List.take_zero, List.nil_append, List.length_append, List.length_nil, dt b1, dt b2, dt b3, sameW_self, eb, eb2, Bool.not_true] at h
      exact .done h
  · by_cases h2 : 450 < (k.length : Int)
    · simp (disch := omega) only [Nat.add_eq, eqSy_self, eqN_self, bc_same, List.length_cons, ofn, wrap_in, dt, df, bltD, bltN, ble_of, bleN, beqD, bc_t, bc_f, nn_ok, Nat.zero_add, to_nat, Int.zero_add, Int.sub_zero, Int.sub_self, Int.cast_ofNat_Int, Int.natCast_zero, Int.toNat_zero, List.take_zero, List.nil_append, List.length_append, List.length_nil] at h
      exact .done h
    have b1 := bes_len (n := n) (m := m) h1 h2
    have b2 := bel_len (n := n) (m := m) h1 h2
    have b3 := tim_len n t l
    by_cases h4 : 400 < (k.length : Int)
    · simp (disch := omega) only [Nat.add_eq, eqSy_self, eqN_self, bc_same, List.length_cons, ofn, wrap_in, dt, df, bltD, bltN, ble_of, bleN, beqD, bc_t, bc_f, nn_ok, Nat.zero_add, to_nat, Int.zero_add, Int.sub_zero, Int.sub_self, Int.cast_ofNat_Int, Int.natCast_zero, Int.toNat_zero, List.take_zero, List.nil_append, List.length_append, List.length_nil, dt b1, dt b2, dt b3, sameW_self, eb, eb2, Bool.not_true] at h
      exact .done h
    · simp (disch := omega) only [Nat.add_eq, eqSy_self, eqN_self, bc_same, List.length_cons, ofn, wrap_in, dt, df, bltD, bltN, ble_of, bleN, beqD, bc_t, bc_f, nn_ok, Nat.zero_add, to_nat, Int.zero_add, Int.sub_zero, Int.sub_self, Int.cast_ofNat_Int, Int.natCast_zero, Int.toNat_zero, List.take_zero, List.nil_append, List.length_append, List.length_nil, dt b1, dt b2, dt b3, sameW_self, eb, eb2, Bool.not_true] at h
      exact .done h
end AJns
theorem assembleJoins_calls {γ : G} {w : World} {us : Array Value} (ra : List U) (wa : RowFit [.int .i64, .list [.int .i64, .int .i64, .str]] ra) (rb : List U) (wb : RowFit [.int .i64, .list [.int .i64, .int .i64, .str]] rb) (n : Int) (wn : (Lit.int .i64 n).wf = true)
    (hax : ECL γ [.agg (recE [.int .i64, .list [.int .i64, .int .i64, .str]] ra), .agg (recE [.int .i64, .list [.int .i64, .int .i64, .str]] rb), iv n] us.toList) (hN : ∀ i, γ i = none) (hfz : FzAt γ w) : Calls Try.prog 8 us w fun e w' => e = .returned (.bool true) ∧ Stays w w' := by
  exact law_of ((AJns.ends (U.int (ra.headD (.i 0))) (U.int (rb.headD (.i 0))) n (U.list (ra.tail.headD (.i 0))) (U.list (rb.tail.headD (.i 0)))).calls ctJn_ok (by kernel_rfl) hax hN hfz)
end Go.Proofs.Ytkbebiebaenbdaa.Ev
namespace Go.Proofs.Ytkbebiebaenbdaa
open Go.ChangeShapes Go.WideShapes Go.ChangeAt Go.RowKit Go.ChangeMaps
theorem knobAssembleJoins : ownKnob Try.prog.godebug = none := by kernel_rfl
theorem kidsAssembleJoins : Kids Try.prog (· < Try.prog.types.size) := kids_rows (by kernel_rfl) (by kernel_rfl)
theorem fullAssembleJoins : ∀ t e, t < Try.prog.types.size → Try.prog.underlying t = some (.slice e) → 0 < Try.prog.cellsOf e := slices_full_of Try.prog (by kernel_rfl)
set_option maxRecDepth 100000 in
theorem liftedAssembleJoins (os : Os) (started : os.Started) (H : Type) (enc : TypeId × Value → H) :
    ReturnsInHanded {} Try.checked os 8 .any (Rows.assembleJoinsSpec.pre6 enc Try.prog Try.f8 Rows.assembleJoinsRow.domain false) (Rows.assembleJoinsSpec.post enc Try.prog Try.f8 false true false false) := by
  refine returnsInHanded_of_change (C := Try.checked) knobAssembleJoins started (by kernel_rfl) Try.func8
    (ChangeSpec.witness6 (enc := enc) (C := Try.checked) false ⟨#[], #[.agg #[.int .i64 0, .slice none 0 0], .agg #[.int .i64 0, .slice none 0 0], .int .i64 0], []⟩ 8 (by kernel_rfl) (by kernel_rfl) (by kernel_rfl) (by kernel_rfl)) ?_
  intro W base args ds gs before hval0 hW hcnd _
  have hval : ∀ (j : Nat) t v, Try.f8.params[j]? = some t → args[j]? = some v → Value.okWide Try.prog W .any base t v := hval0
  have hW' := hW
  obtain ⟨p, q, hA0, hV, rfl, hfz, hnd⟩ := hW
  have hA : DataW.TrodAll enc Try.prog W 0 (fun _ => true) true Try.f8.params.toList args.toList ds p := hA0
  have hAk := hA
  rw [Try.params8] at hA hval
  obtain ⟨rfl, rfl⟩ := trodVars_none hV
  obtain ⟨v0, v1, v2, d0, d1, d2, p0, p1, p2, rfl, rfl, rfl, h0, h1, h2⟩ := trodAll_three hA
  obtain ⟨a, wa, ea⟩ := Ev.open_agg (k := 8) Try.underlying24 (by kernel_rfl : Ev.shB Try.prog 8 24 = some [.int .i64, .list [.int .i64, .int .i64, .str]]) (hval 0 24 v0 rfl rfl) h0
  obtain ⟨b, wb, eb⟩ := Ev.open_agg (k := 8) Try.underlying24 (by kernel_rfl : Ev.shB Try.prog 8 24 = some [.int .i64, .list [.int .i64, .int .i64, .str]]) (hval 1 24 v1 rfl rfl) h1
  obtain ⟨n, rfl, rfl, rfl, wn⟩ := open_int Try.underlying3 (hval 2 3 v2 rfl rfl) h2
  clear hA0 hval0
  refine (Ev.assembleJoins_calls a wa b wb n wn (γ := Ev.gAll W) (.cons ea (.cons eb (.cons (.v _) (.nil _)))) (fun i => rfl) (Ev.fzAll_at W)).mono fun e W' ⟨he, hg⟩ => ?_
  subst he
  exact ⟨_, rfl, post_law kidsAssembleJoins fullAssembleJoins Try.underlying4 (by kernel_rfl) (by kernel_rfl) rfl rfl (by rw [Try.params8]; decide) hW' hAk hg (ok_one (by kernel_rfl) rfl (okWide_bool_mk Try.underlying4 _))⟩
theorem assembleJoins_holds : Rows.AssembleJoinsSaid :=
  OpenClaim.holds_of_wide 8 Try.f8 rfl rfl rfl rfl rfl rfl rfl ⟨rfl, rfl, rfl, rfl, rfl⟩ rfl rfl rfl rfl rfl (by kernel_rfl) Try.func8 (by kernel_rfl)
    (of_decide_eq_true (by kernel_rfl)) (by unfold Func.isWrapper; first | (rw [if_pos (by decide +kernel)]; kernel_rfl) | (rw [if_neg (by decide +kernel)]; exact ⟨rfl, rfl⟩))
    (fun os started H enc _ => liftedAssembleJoins os started H enc)
end Go.Proofs.Ytkbebiebaenbdaa
