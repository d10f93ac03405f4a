/- CompareKnown: the call, reckoned to its end: it returns true, and leaves all that was there alone. -/
import Derived.Test.YtcgopcfbgkhpgaaFt
namespace Go.Proofs.Ytcgopcfbgkhpgaa.Ev
open Go.Proofs
theorem mixedCompareKnown : Try.prog.follows .mixedOrders = true := by kernel_rfl
theorem runCompareKnown : endsB (exClosed Try.prog ft (drD Try.prog ft 16 4) 4 18) = true := by kernel_rfl
theorem callsCompareKnown (w : World) : Calls Try.prog 4 #[] w fun e w' => e = .returned (.bool true) ∧ Stays w w' := closedTrue ftOk (drD_ok mixedCompareKnown ftOk 16 4) runCompareKnown w
end Go.Proofs.Ytcgopcfbgkhpgaa.Ev
