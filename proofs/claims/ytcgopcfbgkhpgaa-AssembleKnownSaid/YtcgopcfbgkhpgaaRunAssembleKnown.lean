/- AssembleKnown: the call, reckoned to its end in parts: it returns true, and leaves all that was there alone. -/
import Derived.Test.YtcgopcfbgkhpgaaPAssembleKnown3
namespace Go.Proofs.Ytcgopcfbgkhpgaa.Ev
open Go.Proofs
theorem lastAssembleKnown : endsB (exRun (exStep Try.prog ft 5 (drD Try.prog ft 16 4)) 18 (stOf nsAssembleKnown3)) = true := by kernel_rfl
theorem callsAssembleKnown (w : World) : Calls Try.prog 5 #[] w fun e w' => e = .returned (.bool true) ∧ Stays w w' := partsTrue ftOk (drD_ok mixedAssembleKnown ftOk 16 4) (by kernel_rfl) leadsAssembleKnown3 lastAssembleKnown w
end Go.Proofs.Ytcgopcfbgkhpgaa.Ev
