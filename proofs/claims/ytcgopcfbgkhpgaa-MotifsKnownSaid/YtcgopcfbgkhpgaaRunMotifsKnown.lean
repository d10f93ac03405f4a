/- MotifsKnown: the call, reckoned to its end: it returns true, and leaves all that was there alone. -/
import Derived.Test.YtcgopcfbgkhpgaaFt
namespace Go.Proofs.Ytcgopcfbgkhpgaa.Ev
open Go.Proofs
theorem mixedMotifsKnown : Try.prog.follows .mixedOrders = true := by kernel_rfl
theorem runMotifsKnown : endsB (exClosed Try.prog ft (drD Try.prog ft 16 4) 3 18) = true := by kernel_rfl
theorem callsMotifsKnown (w : World) : Calls Try.prog 3 #[] w fun e w' => e = .returned (.bool true) ∧ Stays w w' := closedTrue ftOk (drD_ok mixedMotifsKnown ftOk 16 4) runMotifsKnown w
end Go.Proofs.Ytcgopcfbgkhpgaa.Ev
