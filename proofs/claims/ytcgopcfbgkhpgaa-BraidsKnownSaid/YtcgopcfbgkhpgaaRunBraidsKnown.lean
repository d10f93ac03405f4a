/- BraidsKnown: the call, reckoned to its end: it returns true, and leaves all that was there alone. -/
import Derived.Test.YtcgopcfbgkhpgaaFt
namespace Go.Proofs.Ytcgopcfbgkhpgaa.Ev
open Go.Proofs
theorem mixedBraidsKnown : Try.prog.follows .mixedOrders = true := by kernel_rfl
theorem runBraidsKnown : endsB (exClosed Try.prog ft (drD Try.prog ft 16 4) 6 18) = true := by kernel_rfl
theorem callsBraidsKnown (w : World) : Calls Try.prog 6 #[] w fun e w' => e = .returned (.bool true) ∧ Stays w w' := closedTrue ftOk (drD_ok mixedBraidsKnown ftOk 16 4) runBraidsKnown w
end Go.Proofs.Ytcgopcfbgkhpgaa.Ev
