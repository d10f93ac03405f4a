/- The reckoner: calls of strings.Join and strings.Repeat of this program. -/
import Derived.Test.YtcgopcfbgkhpgaaCtStr
import Derived.Test.YtcgopcfbgkhpgaaShelfJR
namespace Go.Proofs.Ytcgopcfbgkhpgaa.Ev
open Go.Proofs
theorem joinOk : CtOk Try.prog 124 ctJoin := ctJoin_ok Try.strings_Join_none Try.strings_Join
theorem repeatOk : CtOk Try.prog 56 ctRepeat := ctRepeat_ok Try.strings_Repeat
end Go.Proofs.Ytcgopcfbgkhpgaa.Ev
