/- TraceWrong returns true, for all arguments, in every world in which it is called, and nothing that was there turns. -/
import Derived.Test.YtepiiaeiogdphaaRows
import Derived.WalkKit
import Derived.ProofKit
import Derived.Test.YtepiiaeiogdphaaTWg6
set_option linter.unusedSimpArgs false
set_option linter.unusedVariables false
noncomputable section
namespace Go.Proofs.Ytepiiaeiogdphaa
open Go.ChangeShapes Go.WideShapes Go.ChangeAt Go.RowKit Go.ChangeMaps
theorem knobTraceWrong:ownKnob Try.prog.godebug=none:=by kernel_rfl
theorem kidsTraceWrong:Kids Try.prog (· < Try.prog.types.size):=kids_rows (by kernel_rfl) (by kernel_rfl)
theorem fullTraceWrong:∀ t e,t<Try.prog.types.size→Try.prog.underlying t=some (.slice e)→0<Try.prog.cellsOf e:=slices_full_of Try.prog (by kernel_rfl)
set_option maxRecDepth 100000 in
theorem liftedTraceWrong (os:Os) (started:os.Started) (H:Type) (enc:TypeId×Value→H) :
  ReturnsInHanded {} Try.checked os 4 .any (Rows.traceWrongSpec.pre6 enc Try.prog Try.f4 Rows.traceWrongRow.domain false) (Rows.traceWrongSpec.post enc Try.prog Try.f4 false true false false):=by
 refine returnsInHanded_of_change (C:=Try.checked) knobTraceWrong started (by kernel_rfl) Try.func4
  (ChangeSpec.witness6 (enc:=enc) (C:=Try.checked) false ⟨#[],#[.agg #[.int .i64 0,.slice none 0 0],.agg #[.int .i64 0,.slice none 0 0]],[]⟩ 8 (by kernel_rfl) (by kernel_rfl) (by kernel_rfl) (by kernel_rfl)) ?_
 intro W base args ds gs before hval0 hW hcnd _;have hval:∀ (j:Nat) t v,Try.f4.params[j]? = some t→args[j]? = some v→Value.okWide Try.prog W .any base t v:=hval0;have hW':=hW;obtain ⟨p,q,hA0,hV,rfl,hfz,hnd⟩:=hW;have hA:DataW.TrodAll enc Try.prog W 0 (fun _=>true) true Try.f4.params.toList args.toList ds p:=hA0;have hAk:=hA;rw [Try.params4] at hA hval;obtain ⟨rfl,rfl⟩:=trodVars_none hV;obtain ⟨v0,v1,d0,d1,p0,p1,rfl,rfl,rfl,h0,h1⟩:=trodAll_two hA
 obtain ⟨r,wr,er⟩:=Ev.open_agg (k:=8) Try.underlying24 (by kernel_rfl:Ev.shB Try.prog 8 24=some [.int .i64,.list [.int .i64,.int .i64,.str]]) (hval 0 24 v0 rfl rfl) h0;obtain ⟨q,wq,eq⟩:=Ev.open_agg (k:=8) Try.underlying24 (by kernel_rfl:Ev.shB Try.prog 8 24=some [.int .i64,.list [.int .i64,.int .i64,.str]]) (hval 1 24 v1 rfl rfl) h1;clear hA0 hval0;refine (Ev.traceWrong_calls r wr q wq (γ:=Ev.gAll W) (.cons er (.cons eq (.nil _))) (fun i=>rfl) (Ev.fzAll_at W)).mono fun e W' ⟨he,hg⟩=>?_;subst he
 exact ⟨_,rfl,zrw kidsTraceWrong fullTraceWrong Try.underlying4 (by kernel_rfl) (by kernel_rfl) rfl rfl (by rw [Try.params4];decide) hW' hAk hg (ok_one (by kernel_rfl) rfl (okWide_bool_mk Try.underlying4 _))⟩
theorem traceWrong_holds:Rows.TraceWrongSaid:=
 OpenClaim.holds_of_wide 4 Try.f4 rfl rfl rfl rfl rfl rfl rfl ⟨rfl,rfl,rfl,rfl,rfl⟩ rfl rfl rfl rfl rfl (by kernel_rfl) Try.func4 (by kernel_rfl)
  (of_decide_eq_true (by kernel_rfl)) (by unfold Func.isWrapper;first|(rw [if_pos (by decide +kernel)];kernel_rfl)|(rw [if_neg (by decide +kernel)];exact ⟨rfl,rfl⟩))
  (fun os started H enc _=>liftedTraceWrong os started H enc)
end Go.Proofs.Ytepiiaeiogdphaa
