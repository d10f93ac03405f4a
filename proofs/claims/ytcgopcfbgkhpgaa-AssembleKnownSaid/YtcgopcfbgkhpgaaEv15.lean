/- The reckoner: a function's entry in the table; the test that a run ended well. No program is named. -/
import Derived.Test.YtcgopcfbgkhpgaaEv14
namespace Go.Proofs.Ytcgopcfbgkhpgaa.Ev
variable {P : Program}
def ofFunc (F : Func) : FI := ⟨F.ntmps, F.results.toList, F.body.getD .skip, none, none⟩
theorem FTok.nil (P : Program) : FTok P .nil := fun f i h => by cases h
theorem FTok.add {FT : Tr FI} (h : FTok P FT) {f : Nat} {F : Func} (hb : Nat.ble f 65535 = true) (hf : P.funcs[f]? = some F) (hs : F.body.isSome = true) (hn : (F.name == "runtime.NumGoroutine") = false) : FTok P (FT.put f (some (ofFunc F))) := fun g i hg => by
  rw [Tr.get_put hb] at hg
  by_cases e : g = f
  · rw [if_pos e] at hg; injection hg with hg; subst hg; subst e
    obtain ⟨c, hc⟩ := Option.isSome_iff_exists.1 hs
    exact ⟨⟨F, hf, rfl, by simp [ofFunc], by simp [ofFunc, hc], hn⟩, fun c hc => (by cases hc), fun k hk => (by cases hk)⟩
  · rw [if_neg e] at hg; exact h g i hg
def ofFuncC (F : Func) (c : CT) : FI := ⟨F.ntmps, F.results.toList, F.body.getD .skip, some c, none⟩
theorem FTok.addC {FT : Tr FI} (h : FTok P FT) {f : Nat} {F : Func} {c : CT} (hb : Nat.ble f 65535 = true) (hf : P.funcs[f]? = some F) (hs : F.body.isSome = true) (hn : (F.name == "runtime.NumGoroutine") = false) (hc : CtOk P f c) : FTok P (FT.put f (some (ofFuncC F c))) := fun g i hg => by
  rw [Tr.get_put hb] at hg
  by_cases e : g = f
  · rw [if_pos e] at hg; injection hg with hg; subst hg; subst e
    obtain ⟨b, hb⟩ := Option.isSome_iff_exists.1 hs
    exact ⟨⟨F, hf, rfl, by simp [ofFuncC], by simp [ofFuncC, hb], hn⟩, fun c' hc' => by injection hc' with hc'; subst hc'; exact hc, fun k hk => (by cases hk)⟩
  · rw [if_neg e] at hg; exact h g i hg
def ofFuncD (F : Func) (k : Nat) : FI := ⟨F.ntmps, F.results.toList, F.body.getD .skip, none, some k⟩
theorem FTok.addD {FT : Tr FI} (h : FTok P FT) {f : Nat} {F : Func} {k : Nat} (hb : Nat.ble f 65535 = true) (hf : P.funcs[f]? = some F) (hs : F.body.isSome = true) (hn : (F.name == "runtime.NumGoroutine") = false) (hq : DqOk P f k) : FTok P (FT.put f (some (ofFuncD F k))) := fun g i hg => by
  rw [Tr.get_put hb] at hg
  by_cases e : g = f
  · rw [if_pos e] at hg; injection hg with hg; subst hg; subst e
    obtain ⟨b, hb⟩ := Option.isSome_iff_exists.1 hs
    exact ⟨⟨F, hf, rfl, by simp [ofFuncD], by simp [ofFuncD, hb], hn⟩, fun c hc => (by cases hc), fun k' hk => by injection hk with hk; subst hk; exact hq⟩
  · rw [if_neg e] at hg; exact h g i hg
/-- a function of the table is given what its calls come to -/
theorem FTok.addCt {FT : Tr FI} (h : FTok P FT) {f : Nat} {i : FI} (hb : Nat.ble f 65535 = true) (hi : FT.get f = some i) {c : CT} (hc : CtOk P f c) : FTok P (FT.put f (some { i with ct := some c })) := fun g j hg => by
  rw [Tr.get_put hb] at hg
  by_cases e : g = f
  · rw [if_pos e] at hg; injection hg with hg; subst hg; subst e
    exact ⟨(h g i hi).1, fun c' hc' => by injection hc' with hc'; subst hc'; exact hc, (h g i hi).2.2⟩
  · rw [if_neg e] at hg; exact h g j hg
/-- the run has ended with this bool -/
noncomputable def endsB (e : EO) : Bool := match e with
  | .done (.v (.bool b)) _ _ => b
  | _ => false
theorem endsB_ok {e : EO} (h : endsB e = true) : ∃ H n, e = .done (.v (.bool true)) H n := by
  unfold endsB at h
  split at h
  · rename_i b H n; subst h; exact ⟨H, n, rfl⟩
  · cases h
theorem closedTrue {FT : Tr FI} (hF : FTok P FT) {dr : ES → Nat → Array Oper → List IM → EO} (hdr : DrOk P dr) {f : FuncId} {k : Nat} (h : endsB (exClosed P FT dr f k) = true) (w : World) :
    Calls P f #[] w fun e w' => e = .returned (.bool true) ∧ Stays w w' := by
  obtain ⟨H, n, e⟩ := endsB_ok h
  refine (closed hF hdr e w).mono ?_
  rintro e' w' ⟨v, γ, rfl, hc, hs⟩
  exact ⟨by rw [ec_v hc], hs⟩
end Go.Proofs.Ytcgopcfbgkhpgaa.Ev
