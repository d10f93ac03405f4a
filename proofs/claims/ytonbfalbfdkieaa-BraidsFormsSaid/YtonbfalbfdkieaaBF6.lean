/- BraidsForms returns true, for all arguments, in every world in which it is called, and nothing that was there turns. -/
import Derived.Test.YtonbfalbfdkieaaRows
import Derived.WalkKit
import Derived.ProofKit
import Derived.Test.YtonbfalbfdkieaaBF5
set_option linter.unusedSimpArgs false
set_option linter.unusedVariables false
namespace Go.Proofs.Ytonbfalbfdkieaa.Ev
open Go.Proofs
namespace BSI
noncomputable def RUN (s : ES) : ZF := RZ 60 .nil (atS 0 60 4) [] [[(0,none),(1,none),(5,none)]] false s

noncomputable def sS (a b : List Int) (i : Int) : NS := ⟨[⟨60, 26, [(0, (EV.lst (SyC.ints IntKind.i64 (a)))), (1, (EV.lst (SyC.ints IntKind.i64 (b)))), (5, iv i)], [.it (.code (nav [1, 1, 0, 1, 0, 0, 0] (bodyOf Try.f60))), .it (.code (nav [1, 1, 0, 1, 0, 0, 1] (bodyOf Try.f60))), .it (.inLoop (nav [1, 1, 0, 1, 0, 0] (bodyOf Try.f60))), .it (.inBlock 0), .it (.code (nav [1, 1, 1] (bodyOf Try.f60)))], [], Option.none⟩], [], 0⟩
theorem in_t (a b : List Int) : RUN (st0 60 [il a, il b]) = (bc (Int.ofNat (List.length a) != Int.ofNat (List.length b)) (.done (EV.v (Value.bool false)) [] 0) (.at (sS (a) (b) ((0 : Int))))) := by kernel_rfl
theorem step_t (a b : List Int) (i : Int) : RUN (stOf (sS a b i)) = (bc (decide (i < Int.ofNat (List.length a))) (bc (bc (bc (bc (bc (decide ((0 : Int) ≤ i)) (Nat.blt (Int.toNat i) (List.length a)) false) true false) (bc (bc (Nat.blt (Int.toNat i) (List.length a)) true false) (bc (bc (bc (decide ((0 : Int) ≤ i)) (Nat.blt (Int.toNat i) (List.length b)) false) true false) (bc (bc (Nat.blt (Int.toNat i) (List.length b)) true false) true false) false) false) false) true false) (bc (List.getD a (Int.toNat i) (0 : Int) != List.getD b (Int.toNat i) (0 : Int)) (.done (EV.v (Value.bool false)) [] 0) (.at (sS (a) (b) (IntKind.wrap IntKind.i64 (i + (1 : Int)))))) .bad) (.done (EV.v (Value.bool true)) [] 0)) := by kernel_rfl
theorem loop {a : List Int} (hl : a.length ≤ 100000) : ∀ (k i : Nat), i + k = a.length → EndZ 60 .nil false (stOf (sS a a i)) (bv true) [] 0
  | 0, i, h => by
    have hs := step_t a a i
    simp (disch := omega) only [Nat.add_eq, eqSy_self, eqN_self, bc_same, List.length_cons, ofn, wrap_in, dt, df, bltD, bltN, ble_of, bleN, beqD, bc_t, bc_f, nn_ok, Nat.zero_add, to_nat, Int.zero_add, Int.sub_zero, Int.sub_self, Int.cast_ofNat_Int, Int.natCast_zero, Int.toNat_zero, List.take_zero, List.nil_append, List.length_append, List.length_nil] at hs
    exact .done hs
  | k + 1, i, h => by
    have hs := step_t a a i
    have e : (a.getD i 0 != a.getD i 0) = false := by simp
    simp (disch := omega) only [Nat.add_eq, eqSy_self, eqN_self, bc_same, List.length_cons, ofn, wrap_in, dt, df, bltD, bltN, ble_of, bleN, beqD, bc_t, bc_f, nn_ok, Nat.zero_add, to_nat, Int.zero_add, Int.sub_zero, Int.sub_self, Int.cast_ofNat_Int, Int.natCast_zero, Int.toNat_zero, List.take_zero, List.nil_append, List.length_append, List.length_nil, e] at hs
    exact .at (.nil _) hs (loop hl k (i + 1) (by omega))
end BSI
noncomputable def spBSI : ZCT := fun ax => match ax with
  | [.lst (.ints .i64 a), .lst (.ints .i64 b)] => some ⟨decide (a = b ∧ a.length ≤ 100000), bv true, [], 0⟩
  | _ => none
theorem spBSI_ok : ZCtOk Try.prog 60 spBSI := fun γ w us ax r hs hc hax hN hfz => by
  unfold spBSI at hs
  split at hs
  case h_2 => cases hs
  rename_i a b
  obtain ⟨rfl⟩ := Option.some.inj hs
  have hc_0 : decide (a = b ∧ a.length ≤ 100000) = true := hc
  have hc := of_decide_eq_true hc_0
  exact EndZ.calls (by
    obtain ⟨rfl, hl⟩ := hc
    have h := BSI.in_t a a
    have e : (Int.ofNat a.length != Int.ofNat a.length) = false := by simp
    rw [e, bc_f] at h
    exact .at (.nil _) h (BSI.loop hl a.length 0 (by omega))) (.nil _) (by kernel_rfl) hax hN hfz
noncomputable def ctBF : Tr ZCC := (((Tr.nil.put 79 (some (dC spPWo))).put 38 (some (dC spRWo))).put 60 (some (dC spBSI))).put 37 (some (dC spTrue))
theorem ctBF_ok : ZCtsOk Try.prog ctBF := ((((ZCtsOk.nil _).add rfl spPWo_ok).add rfl spRWo_ok).add rfl spBSI_ok).add rfl spAwakeB_ok
namespace ABF
noncomputable def RUN (s : ES) : ZF := RZ 14 ctBF (atS 0 14 4) [] [[(0,none),(1,none),(2,none),(7,none)]] false s

noncomputable def sA (n c : Int) (F : List (List U)) (i : Int) : NS := ⟨[⟨14, 54, [(0, (EV.v (Value.int IntKind.i64 (n)))), (1, (EV.v (Value.int IntKind.i64 (c)))), (2, (EV.lst (SyC.recs [(Sh.list [(Sh.int IntKind.i64)])] (F)))), (7, iv i)], [.it (.code (nav [1, 1, 0, 1, 0, 0, 0] (bodyOf Try.f14))), .it (.code (nav [1, 1, 0, 1, 0, 0, 1] (bodyOf Try.f14))), .it (.inLoop (nav [1, 1, 0, 1, 0, 0] (bodyOf Try.f14))), .it (.inBlock 0), .it (.code (nav [1, 1, 1] (bodyOf Try.f14)))], [], Option.none⟩], [], 0⟩
theorem in_t (n c : Int) (F : List (List U)) : RUN (st0 14 [iv n, iv c, fl F]) = (bc (decide ((100 : Int) < Int.ofNat (List.length F))) (.done (EV.v (Value.bool true)) [] 0) (.at (sA (n) (c) (F) ((0 : Int))))) := by kernel_rfl
theorem step_t (n c : Int) (F : List (List U)) (i : Int) : RUN (stOf (sA n c F i)) = (bc (decide (i < Int.ofNat (List.length F))) (bc (bc (bc (decide ((0 : Int) ≤ i)) (Nat.blt (Int.toNat i) (List.length F)) false) true false) (bc (bc (Nat.blt (Int.toNat i) (List.length F)) true false) (bc (decide ((100 : Int) < Int.ofNat (List.length (List.map (fun r => U.int (List.headD r (U.i (0 : Int)))) (U.list (List.getD (List.getD F (Int.toNat i) []) (0 : Nat) (U.i (0 : Int)))))))) (.done (EV.v (Value.bool true)) [] 0) (.at (sA (n) (c) (F) (IntKind.wrap IntKind.i64 (i + (1 : Int)))))) .bad) .bad) (bc (decide (List.length F ≤ (100 : Nat) ∧ ∀ (r : List U), r ∈ F → List.length (fac r) ≤ (100 : Nat))) (bc (decide (List.length F ≤ (100 : Nat) ∧ ∀ (r : List U), r ∈ F → List.length (fac r) ≤ (100 : Nat))) (bc (bc (decide (wL n c F = wL n c F ∧ List.length (wL n c F) ≤ (100000 : Nat))) true false) (bc (wE n c F == wE n c F) (.done (EV.v (Value.bool true)) [] 0) (.done (EV.v (Value.bool false)) [] 0)) .bad) .bad) .bad)) := by kernel_rfl
theorem wL_len (n c : Int) (F : List (List U)) : (wL n c F).length ≤ 100000 := by
  unfold wL
  split
  · rename_i h
    unfold wE at h
    split at h
    · cases h
    split at h
    · cases h
    split at h
    · cases h
    split at h
    · cases h
    split at h
    · cases h
    · omega
  · exact Nat.zero_le _
theorem loop {n c : Int} {F : List (List U)} (hF : F.length ≤ 100) : ∀ (k i : Nat), i + k = F.length → (∀ j, j < i → (fac (F.getD j [])).length ≤ 100) → EndZ 14 ctBF false (stOf (sA n c F i)) (bv true) [] 0
  | 0, i, h, hj => by
    have h1 := step_t n c F i
    have hc : F.length ≤ 100 ∧ ∀ r, r ∈ F → (fac r).length ≤ 100 := ⟨hF, fun r hr => by
      obtain ⟨j, hj2, rfl⟩ := List.mem_iff_getElem.1 hr
      have := hj j (by omega)
      rw [getD_at hj2] at this
      exact this⟩
    have e1 : (wE n c F == wE n c F) = true := by simp
    rw [df (show ¬ (i : Int) < Int.ofNat F.length by rw [ofn]; omega), bc_f, dt hc, bc_t, bc_t, dt (show wL n c F = wL n c F ∧ (wL n c F).length ≤ 100000 from ⟨rfl, wL_len n c F⟩), e1] at h1
    exact .done h1
  | k + 1, i, h, hj => by
    have hi : i < F.length := by omega
    have h1 := step_t n c F i
    have e : F.getD i [] = F[i] := getD_at hi
    rw [to_nat, e] at h1
    have e2 : List.map (fun r => U.int (List.headD r (U.i 0))) (U.list (List.getD F[i] 0 (U.i 0))) = fac F[i] := rfl
    rw [e2] at h1
    by_cases h2 : 100 < (fac F[i]).length
    · simp (disch := omega) only [Nat.add_eq, eqSy_self, eqN_self, bc_same, List.length_cons, ofn, wrap_in, dt, df, bltD, bltN, ble_of, bleN, beqD, bc_t, bc_f, nn_ok, Nat.zero_add, to_nat, Int.zero_add, Int.sub_zero, Int.sub_self, Int.cast_ofNat_Int, Int.natCast_zero, Int.toNat_zero, List.take_zero, List.nil_append, List.length_append, List.length_nil] at h1
      exact .done h1
    · simp (disch := omega) only [Nat.add_eq, eqSy_self, eqN_self, bc_same, List.length_cons, ofn, wrap_in, dt, df, bltD, bltN, ble_of, bleN, beqD, bc_t, bc_f, nn_ok, Nat.zero_add, to_nat, Int.zero_add, Int.sub_zero, Int.sub_self, Int.cast_ofNat_Int, Int.natCast_zero, Int.toNat_zero, List.take_zero, List.nil_append, List.length_append, List.length_nil] at h1
      exact .at ctBF_ok h1 (loop hF k (i + 1) (by omega) fun j hj2 => by
        by_cases h3 : j = i
        · subst h3; rw [e]; omega
        · exact hj j (by omega))
theorem ends (n c : Int) (F : List (List U)) : EndZ 14 ctBF false (st0 14 [iv n, iv c, fl F]) (bv true) [] 0 := by
  have h := in_t n c F
  by_cases h1 : 100 < F.length
  · simp (disch := omega) only [Nat.add_eq, eqSy_self, eqN_self, bc_same, List.length_cons, ofn, wrap_in, dt, df, bltD, bltN, ble_of, bleN, beqD, bc_t, bc_f, nn_ok, Nat.zero_add, to_nat, Int.zero_add, Int.sub_zero, Int.sub_self, Int.cast_ofNat_Int, Int.natCast_zero, Int.toNat_zero, List.take_zero, List.nil_append, List.length_append, List.length_nil] at h
    exact .done h
  · simp (disch := omega) only [Nat.add_eq, eqSy_self, eqN_self, bc_same, List.length_cons, ofn, wrap_in, dt, df, bltD, bltN, ble_of, bleN, beqD, bc_t, bc_f, nn_ok, Nat.zero_add, to_nat, Int.zero_add, Int.sub_zero, Int.sub_self, Int.cast_ofNat_Int, Int.natCast_zero, Int.toNat_zero, List.take_zero, List.nil_append, List.length_append, List.length_nil] at h
    exact .at ctBF_ok h (loop (by omega) F.length 0 (by omega) (fun j hj => by omega))
end ABF
theorem braidsForms_calls {γ : G} {w : World} {us : Array Value} (n : Int) (wn : (Lit.int .i64 n).wf = true) (c : Int) (wc : (Lit.int .i64 c).wf = true) (F : List (List U)) (wF : UFit (.list [.list [.int .i64]]) (.l F))
    (hax : ECL γ [iv n, iv c, .lst (mkC [.list [.int .i64]] F)] us.toList) (hN : ∀ i, γ i = none) (hfz : FzAt γ w) : Calls Try.prog 14 us w fun e w' => e = .returned (.bool true) ∧ Stays w w' :=
  law_of ((ABF.ends n c F).calls ctBF_ok (by kernel_rfl) hax hN hfz)
end Go.Proofs.Ytonbfalbfdkieaa.Ev
namespace Go.Proofs.Ytonbfalbfdkieaa
open Go.ChangeShapes Go.WideShapes Go.ChangeAt Go.RowKit Go.ChangeMaps
theorem knobBraidsForms : ownKnob Try.prog.godebug = none := by kernel_rfl
theorem kidsBraidsForms : Kids Try.prog (· < Try.prog.types.size) := kids_rows (by kernel_rfl) (by kernel_rfl)
theorem fullBraidsForms : ∀ t e, t < Try.prog.types.size → Try.prog.underlying t = some (.slice e) → 0 < Try.prog.cellsOf e := slices_full_of Try.prog (by kernel_rfl)
set_option maxRecDepth 100000 in
theorem liftedBraidsForms (os : Os) (started : os.Started) (H : Type) (enc : TypeId × Value → H) :
    ReturnsInHanded {} Try.checked os 14 .any (Rows.braidsFormsSpec.pre6 enc Try.prog Try.f14 Rows.braidsFormsRow.domain false) (Rows.braidsFormsSpec.post enc Try.prog Try.f14 false true false false) := by
  refine returnsInHanded_of_change (C := Try.checked) knobBraidsForms started (by kernel_rfl) Try.func14
    (ChangeSpec.witness6 (enc := enc) (C := Try.checked) false ⟨#[], #[.int .i64 0, .int .i64 0, .slice none 0 0], []⟩ 8 (by kernel_rfl) (by kernel_rfl) (by kernel_rfl) (by kernel_rfl)) ?_
  intro W base args ds gs before hval0 hW hcnd _
  have hval : ∀ (j : Nat) t v, Try.f14.params[j]? = some t → args[j]? = some v → Value.okWide Try.prog W .any base t v := hval0
  have hW' := hW
  obtain ⟨p, q, hA0, hV, rfl, hfz, hnd⟩ := hW
  have hA : DataW.TrodAll enc Try.prog W 0 (fun _ => true) true Try.f14.params.toList args.toList ds p := hA0
  have hAk := hA
  rw [Try.params14] at hA hval
  obtain ⟨rfl, rfl⟩ := trodVars_none hV
  obtain ⟨v0, v1, v2, d0, d1, d2, p0, p1, p2, rfl, rfl, rfl, h0, h1, h2⟩ := trodAll_three hA
  obtain ⟨n, rfl, rfl, rfl, wn⟩ := open_int Try.underlying3 (hval 0 3 v0 rfl rfl) h0
  obtain ⟨c, rfl, rfl, rfl, wc⟩ := open_int Try.underlying3 (hval 1 3 v1 rfl rfl) h1
  obtain ⟨F, wF, eF⟩ := Ev.open_lst (k := 8) Try.underlying54 (by kernel_rfl : Ev.shB Try.prog 8 54 = some [.list [.list [.int .i64]]]) (hval 2 54 v2 rfl rfl) h2
  clear hA0 hval0
  refine (Ev.braidsForms_calls n wn c wc F wF (γ := Ev.gAll W) (.cons (.v _) (.cons (.v _) (.cons eF (.nil _)))) (fun i => rfl) (Ev.fzAll_at W)).mono fun e W' ⟨he, hg⟩ => ?_
  subst he
  exact ⟨_, rfl, post_law kidsBraidsForms fullBraidsForms Try.underlying4 (by kernel_rfl) (by kernel_rfl) rfl rfl (by rw [Try.params14]; decide) hW' hAk hg (ok_one (by kernel_rfl) rfl (okWide_bool_mk Try.underlying4 _))⟩
theorem braidsForms_holds : Rows.BraidsFormsSaid :=
  OpenClaim.holds_of_wide 14 Try.f14 rfl rfl rfl rfl rfl rfl rfl ⟨rfl, rfl, rfl, rfl, rfl⟩ rfl rfl rfl rfl rfl (by kernel_rfl) Try.func14 (by kernel_rfl)
    (of_decide_eq_true (by kernel_rfl)) (by unfold Func.isWrapper; first | (rw [if_pos (by decide +kernel)]; kernel_rfl) | (rw [if_neg (by decide +kernel)]; exact ⟨rfl, rfl⟩))
    (fun os started H enc _ => liftedBraidsForms os started H enc)
end Go.Proofs.Ytonbfalbfdkieaa
