/- CompareCommon returns true, for all arguments, in every world in which it is called, and nothing that was there turns. -/
import Derived.Test.YtonbfalbfdkieaaRows
import Derived.WalkKit
import Derived.ProofKit
import Derived.Test.YtonbfalbfdkieaaCcM6
set_option linter.unusedSimpArgs false
set_option linter.unusedVariables false
namespace Go.Proofs.Ytonbfalbfdkieaa.Ev
open Go.Proofs
noncomputable def woP (n m : Int) (X P Y Q : List (List U)) : List Int × List Int := bc (fiE n m X P Y Q != 0) ([], []) (wrkF X (diP n m X P Y Q).1, wrkF Y (diP n m X P Y Q).2)
theorem othF_in {l : List Int} {n j : Nat} (hj : j < (othF l 0 n).length) : 0 ≤ (othF l 0 n).getD j 0 ∧ (othF l 0 n).getD j 0 < n := by
  rw [getD_at hj]; have := (othF_mem.1 (List.getElem_mem hj)).1; omega
theorem wor_err {n m : Int} {X P Y Q : List (List U)} (h : (fiE n m X P Y Q != 0) = true) : Weak (.tup [.v (.slice none 0 0), .v (.slice none 0 0), iv (fiE n m X P Y Q)]) (.tup [il (woP n m X P Y Q).1, il (woP n m X P Y Q).2, iv (fiE n m X P Y Q)]) := by
  unfold woP; rw [h, bc_t]; exact Weak.tup (.cons (Weak.nilI _) (.cons (Weak.nilI _) (.cons (Weak.refl _) .nil)))
theorem wor_ok {n m : Int} {X P Y Q : List (List U)} (h : (fiE n m X P Y Q != 0) = false) : ((diP n m X P Y Q).1.length ≤ 20000 ∧ AllIn (diP n m X P Y Q).1 X.length) ∧ ((diP n m X P Y Q).2.length ≤ 20000 ∧ AllIn (diP n m X P Y Q).2 Y.length) ∧ woP n m X P Y Q = (wrkF X (diP n m X P Y Q).1, wrkF Y (diP n m X P Y Q).2) := by
  obtain ⟨c3, d3, hd⟩ := dif_ok h; have l1 := othF_len (coP n m X P Y Q).1 X.length 0; have l2 := othF_len (coP n m X P Y Q).2 Y.length 0; unfold woP; rw [h, bc_f, hd]; exact ⟨⟨by show (othF _ 0 _).length ≤ _; omega, fun j hj => othF_in hj⟩, ⟨by show (othF _ 0 _).length ≤ _; omega, fun j hj => othF_in hj⟩, rfl⟩
noncomputable def spPWor : ZCT := fun ax => match ax with
  | [.agg [.v (.int .i64 n), .lst (.recs [.int .i64, .int .i64, .int .i64, .int .i64] X), .lst (.recs [.int .i64, .int .i64, .int .i64, .int .i64] P)], .agg [.v (.int .i64 m), .lst (.recs [.int .i64, .int .i64, .int .i64, .int .i64] Y), .lst (.recs [.int .i64, .int .i64, .int .i64, .int .i64] Q)]] => some ⟨decide (True), .tup [il (woP n m X P Y Q).1, il (woP n m X P Y Q).2, iv (fiE n m X P Y Q)], [], 0⟩
  | _ => none
theorem spPWor_ok : ZCtOk Try.prog 77 spPWor := fun γ w us ax r hs hc hax hN hfz => by
  unfold spPWor at hs; split at hs
  case h_2 => cases hs
  rename_i n X P m Y Q; obtain ⟨rfl⟩ := Option.some.inj hs; have hc_0 : decide (True) = true := hc; have hc := of_decide_eq_true hc_0; exact EndZ.calls (by
    have h := PWor.in_t n m X P Y Q; cases h0 : (fiE n m X P Y Q != 0)
    · obtain ⟨a1, a2, a3⟩ := wor_ok h0; have hE : fiE n m X P Y Q = 0 := by simpa using h0
      rw [h0, bc_f] at h; rw [dt a1, dt a2] at h; simp only [eqSy_self, bc_t, decide_true, eq_self] at h; rw [a3, hE]; exact .done h
    · rw [h0, bc_t] at h; exact (EndZ.done h).weak (wor_err h0)) ctPW_ok (by kernel_rfl) hax hN hfz
noncomputable def spRWor : ZCT := fun ax => match ax with
  | [.agg [.v (.int .i64 n), .lst (.recs [.int .i64, .int .i64, .int .i64, .int .i64] X), .lst (.recs [.int .i64, .int .i64, .int .i64, .int .i64] P)], .agg [.v (.int .i64 m), .lst (.recs [.int .i64, .int .i64, .int .i64, .int .i64] Y), .lst (.recs [.int .i64, .int .i64, .int .i64, .int .i64] Q)]] => some ⟨decide (True), .tup [il (woP n m X P Y Q).1, il (woP n m X P Y Q).2, iv (fiE n m X P Y Q)], [], 0⟩
  | _ => none
theorem spRWor_ok : ZCtOk Try.prog 78 spRWor := fun γ w us ax r hs hc hax hN hfz => by
  unfold spRWor at hs; split at hs
  case h_2 => cases hs
  rename_i n X P m Y Q; obtain ⟨rfl⟩ := Option.some.inj hs; have hc_0 : decide (True) = true := hc; have hc := of_decide_eq_true hc_0; exact EndZ.calls (by
    have h := RWor.in_t n m X P Y Q; cases h0 : (fiE n m X P Y Q != 0)
    · obtain ⟨a1, a2, a3⟩ := wor_ok h0; have hE : fiE n m X P Y Q = 0 := by simpa using h0
      rw [h0, bc_f] at h; rw [dt a1, dt a2] at h; simp only [eqSy_self, bc_t, decide_true, eq_self] at h; rw [a3, hE]; exact .done h
    · rw [h0, bc_t] at h; exact (EndZ.done h).weak (wor_err h0)) ctRW_ok (by kernel_rfl) hax hN hfz
theorem dif_len {n m : Int} {X P Y Q : List (List U)} : (diP n m X P Y Q).1.length ≤ 20000 ∧ (diP n m X P Y Q).2.length ≤ 20000 := by
  cases h : (fiE n m X P Y Q != 0)
  · obtain ⟨a1, a2, _⟩ := wor_ok h; exact ⟨a1.1, a2.1⟩
  · unfold diP; rw [h, bc_t]; exact ⟨Nat.zero_le _, Nat.zero_le _⟩
theorem wor_len {n m : Int} {X P Y Q : List (List U)} : (woP n m X P Y Q).1.length ≤ 20000 ∧ (woP n m X P Y Q).2.length ≤ 20000 := by
  obtain ⟨d1, d2⟩ := dif_len (n := n) (m := m) (X := X) (P := P) (Y := Y) (Q := Q); unfold woP; cases h : (fiE n m X P Y Q != 0)
  · rw [bc_f]; have h1 := wrkF_len X (diP n m X P Y Q).1; have h2 := wrkF_len Y (diP n m X P Y Q).2; exact ⟨by show (wrkF _ _).length ≤ _; omega, by show (wrkF _ _).length ≤ _; omega⟩
  · rw [bc_t]; exact ⟨Nat.zero_le _, Nat.zero_le _⟩
noncomputable def ctIn : Tr ZCC := Tr.nil.put 24 (some (dC spSI4))
theorem ctIn_ok : ZCtsOk Try.prog ctIn := (ZCtsOk.nil _).add rfl spSI4_ok
namespace LIns
noncomputable def RUN (s : ES) : ZF := RZ 74 ctIn (fun _ => false) [] [] false s
theorem in_t (a b : List Int) : RUN (st0 74 [il a, il b]) = (bc (bc (decide (a = b ∧ List.length a ≤ (100000 : Nat))) true false) (.done (EV.v (Value.bool true)) [] 0) .bad) := by kernel_rfl
end LIns
noncomputable def spIns : ZCT := fun ax => match ax with
  | [.lst (.ints .i64 a), .lst (.ints .i64 b)] => some ⟨decide (a = b ∧ a.length ≤ 100000), bv true, [], 0⟩
  | _ => none
theorem spIns_ok : ZCtOk Try.prog 74 spIns := fun γ w us ax r hs hc hax hN hfz => by
  unfold spIns at hs; split at hs
  case h_2 => cases hs
  rename_i a b; obtain ⟨rfl⟩ := Option.some.inj hs; have hc_0 : decide (a = b ∧ a.length ≤ 100000) = true := hc; have hc := of_decide_eq_true hc_0; exact EndZ.calls (by
    have h := LIns.in_t a b; rw [dt hc] at h; exact .done h) ctIn_ok (by kernel_rfl) hax hN hfz
noncomputable def ctCC : Tr ZCC := ((((((((Tr.nil.put 48 (some (dC spPCom))).put 73 (some (dC spRCom))).put 75 (some (dC spPDif))).put 76 (some (dC spRDif))).put 77 (some (dC spPWor))).put 78 (some (dC spRWor))).put 74 (some (dC spIns))).put 15 (some (dC spFar))).put 16 (some (dC spTrue))
theorem ctCC_ok : ZCtsOk Try.prog ctCC := (((((((((ZCtsOk.nil _).add rfl spPCom_ok).add rfl spRCom_ok).add rfl spPDif_ok).add rfl spRDif_ok).add rfl spPWor_ok).add rfl spRWor_ok).add rfl spIns_ok).add rfl spFar_ok).add rfl spShown_ok
namespace ACmC
noncomputable def RUN (s : ES) : ZF := RZ 13 ctCC (fun _ => false) [] [] false s
theorem in_t (n m : Int) (X P Y Q : List (List U)) : RUN (st0 13 [clE n X P, clE m Y Q]) = (bc (farB n (60 : Int) X P) (.done (EV.v (Value.bool true)) [] 0) (bc (farB m (60 : Int) Y Q) (.done (EV.v (Value.bool true)) [] 0) (bc (bc (decide (Prod.fst (coP n m X P Y Q) = Prod.fst (coP n m X P Y Q) ∧ List.length (Prod.fst (coP n m X P Y Q)) ≤ (100000 : Nat))) true false) (bc (bc (decide (Prod.snd (coP n m X P Y Q) = Prod.snd (coP n m X P Y Q) ∧ List.length (Prod.snd (coP n m X P Y Q)) ≤ (100000 : Nat))) true false) (bc (fiE n m X P Y Q != fiE n m X P Y Q) (.done (EV.v (Value.bool false)) [] 0) (bc (bc (decide (Prod.fst (diP n m X P Y Q) = Prod.fst (diP n m X P Y Q) ∧ List.length (Prod.fst (diP n m X P Y Q)) ≤ (100000 : Nat))) true false) (bc (bc (decide (Prod.snd (diP n m X P Y Q) = Prod.snd (diP n m X P Y Q) ∧ List.length (Prod.snd (diP n m X P Y Q)) ≤ (100000 : Nat))) true false) (bc (fiE n m X P Y Q != fiE n m X P Y Q) (.done (EV.v (Value.bool false)) [] 0) (bc (bc (decide (Prod.fst (woP n m X P Y Q) = Prod.fst (woP n m X P Y Q) ∧ List.length (Prod.fst (woP n m X P Y Q)) ≤ (100000 : Nat))) true false) (bc (bc (decide (Prod.snd (woP n m X P Y Q) = Prod.snd (woP n m X P Y Q) ∧ List.length (Prod.snd (woP n m X P Y Q)) ≤ (100000 : Nat))) true false) (bc (fiE n m X P Y Q == fiE n m X P Y Q) (.done (EV.v (Value.bool true)) [] 0) (.done (EV.v (Value.bool false)) [] 0)) .bad) .bad)) .bad) .bad)) .bad) .bad))) := by kernel_rfl
theorem ends (n m : Int) (X P Y Q : List (List U)) : EndZ 13 ctCC false (st0 13 [clE n X P, clE m Y Q]) (bv true) [] 0 := by
  have h := in_t n m X P Y Q; have lc := coP_len (n := n) (m := m) (X := X) (P := P) (Y := Y) (Q := Q); have ld := dif_len (n := n) (m := m) (X := X) (P := P) (Y := Y) (Q := Q); have lw := wor_len (n := n) (m := m) (X := X) (P := P) (Y := Y) (Q := Q); have eq : ∀ {l : List Int}, l.length ≤ 20000 → (l = l ∧ l.length ≤ 100000) := fun h => ⟨rfl, by omega⟩; rw [dt (eq lc.1), dt (eq lc.2), dt (eq ld.1), dt (eq ld.2), dt (eq lw.1), dt (eq lw.2)] at h; simp only [beq_self_eq_true, bne_self_eq_false, bc_t, bc_f, Bool.not_true] at h; cases h1 : farB n 60 X P <;> rw [h1] at h
  · cases h2 : farB m 60 Y Q <;> rw [h2] at h
    · exact .done h
    · exact .done h
  · exact .done h
end ACmC
theorem compareCommon_calls {γ : G} {w : World} {us : Array Value} (ra : List U) (wa : RowFit [.int .i64, .list shX, .list shX] ra) (rb : List U) (wb : RowFit [.int .i64, .list shX, .list shX] rb)
    (hax : ECL γ [.agg (recE [.int .i64, .list shX, .list shX] ra), .agg (recE [.int .i64, .list shX, .list shX] rb)] us.toList) (hN : ∀ i, γ i = none) (hfz : FzAt γ w) : Calls Try.prog 13 us w fun e w' => e = .returned (.bool true) ∧ Stays w w' := by
  have hla := wa.len; have hlb := wb.len
  match ra, hla, rb, hlb with
  | [x1, x2, x3], _, [y1, y2, y3], _ =>
    exact law_of ((ACmC.ends _ _ _ _ _ _).calls ctCC_ok (by kernel_rfl) hax hN hfz)
end Go.Proofs.Ytonbfalbfdkieaa.Ev
namespace Go.Proofs.Ytonbfalbfdkieaa
open Go.ChangeShapes Go.WideShapes Go.ChangeAt Go.RowKit Go.ChangeMaps
theorem knobCompareCommon : ownKnob Try.prog.godebug = none := by kernel_rfl
theorem kidsCompareCommon : Kids Try.prog (· < Try.prog.types.size) := kids_rows (by kernel_rfl) (by kernel_rfl)
theorem fullCompareCommon : ∀ t e, t < Try.prog.types.size → Try.prog.underlying t = some (.slice e) → 0 < Try.prog.cellsOf e := slices_full_of Try.prog (by kernel_rfl)
set_option maxRecDepth 100000 in
theorem liftedCompareCommon (os : Os) (started : os.Started) (H : Type) (enc : TypeId × Value → H) :
    ReturnsInHanded {} Try.checked os 13 .any (Rows.compareCommonSpec.pre6 enc Try.prog Try.f13 Rows.compareCommonRow.domain false) (Rows.compareCommonSpec.post enc Try.prog Try.f13 false true false false) := by
  refine returnsInHanded_of_change (C := Try.checked) knobCompareCommon started (by kernel_rfl) Try.func13
    (ChangeSpec.witness6 (enc := enc) (C := Try.checked) false ⟨#[], #[.agg #[.int .i64 0, .slice none 0 0, .slice none 0 0], .agg #[.int .i64 0, .slice none 0 0, .slice none 0 0]], []⟩ 8 (by kernel_rfl) (by kernel_rfl) (by kernel_rfl) (by kernel_rfl)) ?_
  intro W base args ds gs before hval0 hW hcnd _; have hval : ∀ (j : Nat) t v, Try.f13.params[j]? = some t → args[j]? = some v → Value.okWide Try.prog W .any base t v := hval0; have hW' := hW; obtain ⟨p, q, hA0, hV, rfl, hfz, hnd⟩ := hW; have hA : DataW.TrodAll enc Try.prog W 0 (fun _ => true) true Try.f13.params.toList args.toList ds p := hA0; have hAk := hA; rw [Try.params13] at hA hval; obtain ⟨rfl, rfl⟩ := trodVars_none hV; obtain ⟨v0, v1, d0, d1, p0, p1, rfl, rfl, rfl, h0, h1⟩ := trodAll_two hA
  obtain ⟨ra, wra, era⟩ := Ev.open_agg (k := 8) Try.underlying25 (by kernel_rfl : Ev.shB Try.prog 8 25 = some [.int .i64, .list [.int .i64, .int .i64, .int .i64, .int .i64], .list [.int .i64, .int .i64, .int .i64, .int .i64]]) (hval 0 25 v0 rfl rfl) h0; obtain ⟨rb, wrb, erb⟩ := Ev.open_agg (k := 8) Try.underlying25 (by kernel_rfl : Ev.shB Try.prog 8 25 = some [.int .i64, .list [.int .i64, .int .i64, .int .i64, .int .i64], .list [.int .i64, .int .i64, .int .i64, .int .i64]]) (hval 1 25 v1 rfl rfl) h1; clear hA0 hval0
  refine (Ev.compareCommon_calls ra wra rb wrb (γ := Ev.gAll W) (.cons era (.cons erb (.nil _))) (fun i => rfl) (Ev.fzAll_at W)).mono fun e W' ⟨he, hg⟩ => ?_; subst he; exact ⟨_, rfl, post_law kidsCompareCommon fullCompareCommon Try.underlying4 (by kernel_rfl) (by kernel_rfl) rfl rfl (by rw [Try.params13]; decide) hW' hAk hg (ok_one (by kernel_rfl) rfl (okWide_bool_mk Try.underlying4 _))⟩
theorem compareCommon_holds : Rows.CompareCommonSaid :=
  OpenClaim.holds_of_wide 13 Try.f13 rfl rfl rfl rfl rfl rfl rfl ⟨rfl, rfl, rfl, rfl, rfl⟩ rfl rfl rfl rfl rfl (by kernel_rfl) Try.func13 (by kernel_rfl)
    (of_decide_eq_true (by kernel_rfl)) (by unfold Func.isWrapper; first | (rw [if_pos (by decide +kernel)]; kernel_rfl) | (rw [if_neg (by decide +kernel)]; exact ⟨rfl, rfl⟩))
    (fun os started H enc _ => liftedCompareCommon os started H enc)
end Go.Proofs.Ytonbfalbfdkieaa
