/- LooseKnown: the call, reckoned to its end in parts: it returns true, and leaves all that was there alone. -/
import Derived.Test.YtcgopcfbgkhpgaaPLooseKnown12
namespace Go.Proofs.Ytcgopcfbgkhpgaa.Ev
open Go.Proofs
theorem lastLooseKnown : endsB (exRun (exStep Try.prog ft 7 (drD Try.prog ft 16 4)) 18 (stOf nsLooseKnown12)) = true := by kernel_rfl
theorem callsLooseKnown (w : World) : Calls Try.prog 7 #[] w fun e w' => e = .returned (.bool true) ∧ Stays w w' := partsTrue ftOk (drD_ok mixedLooseKnown ftOk 16 4) (by kernel_rfl) leadsLooseKnown12 lastLooseKnown w
end Go.Proofs.Ytcgopcfbgkhpgaa.Ev
