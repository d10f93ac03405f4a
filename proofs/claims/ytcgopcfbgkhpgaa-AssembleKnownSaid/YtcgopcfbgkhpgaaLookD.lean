/- The deferred call of pattern.look does nothing when nothing panics. -/
import Derived.Test.YtcgopcfbgkhpgaaEv15
import Derived.Test.YtcgopcfbgkhpgaaProg
import Derived.Tactics
import Derived.Tactics2
import Derived.Recover
namespace Go.Proofs.Ytcgopcfbgkhpgaa.Ev
open Go.Proofs
theorem lookIdle : DqOk Try.prog 168 3 := by
  intro args w hs
  obtain ⟨l⟩ := args
  match l, hs with
  | [a, b, c], _ =>
    refine callsD_of_wpS Try.func168 rfl fun c₀ cs hu => ?_
    apply wpS_seq
    apply wpS_region
    simp [wpOpsS, go_sem, recoverD, hu, Try.ntmps168, Exit.thenS]
    refine wpS_of_wp ?_
    go_wp2
    cases c₀
    simp_all [bodyPostS, results, Try.results168]
end Go.Proofs.Ytcgopcfbgkhpgaa.Ev
