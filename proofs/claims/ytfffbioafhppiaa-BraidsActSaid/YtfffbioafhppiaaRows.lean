/-
  No cell of these rows narrows 'for every input' (looked for: loops, veiled, ifaces, maps, wideKeys, modest, calm, conditions, laid).
  DERIVED. THE GIVEN ROWS OF THIS SEAT. 8 by the template 'for every input the law returns true; each argument reads behind the call as it read before'; 0 by the template 'total and deterministic' (their statements: YtfffbioafhppiaaTotals.lean).
  GIVEN WITH THE SEED: the statements are not yours to turn. If you find one false, say at which input.
  Laid BY PROGRAM, IN A SANDBOX (cutbox-rows.mjs): the forced cells as the released guide's own fill.sh prints them over the translation f4f5635fa449310c… (all of the seat's roots in one cut). By AI agents, Wed Nov 11 2026. No macro, syntax, notation, axiom, sorry.
-/
import Derived.Test.YtfffbioafhppiaaChecked
import GoSem.Claim
import GoSem.ClaimJoined
import GoSem.ClaimMapViews
import Derived.JoinedTies
import Derived.KernelRfl
namespace Go.Proofs.Ytfffbioafhppiaa
/- THE CELL 'sum', in the pinned program and in every row, IS THE sha256 OF THE DUMP (.gsa) THAT YtfffbioafhppiaaProg.lean LOADS. Nothing in Lean hashes anything: it is a label: what it is worth is what the hold of that sum in a sandbox is worth. -/
noncomputable def Try.pinned : Pinned := { name := "ytfffbioafhppiaa", sum := "f4f5635fa449310cd94883430973415ca86ab37489167def1c3d8c816153a0ff", checked := Try.checked }
namespace Rows
def none {H : Type} : Left H := { results := [], args := [] }

/-- 'torchonlaw18.LooseAny': WHATEVER THE INPUT: true; the input reads as it did. -/
def looseAnySpec : ChangeSpec := { name := "looseAny", fn := fun _ => fun
  | [d1, d2] => { results := [.lit (.bool true)], args := [d1, d2] }
  | _ => none }
def looseAnyRow : OpenClaim := { program := "ytfffbioafhppiaa", sum := "f4f5635fa449310cd94883430973415ca86ab37489167def1c3d8c816153a0ff", func := "torchon/torchonlaw18.LooseAny", spec := "looseAny", unfollowed := true, recurses := true, apart := false }
def LooseAnySaid : Prop := looseAnyRow.holds Try.pinned (OpenSpec.ofChange looseAnySpec)

/-- ITS FALSE NEIGHBOUR: 'it returns false'. Refute it at one input. -/
def looseAnyWrong : ChangeSpec := { name := "looseAny", fn := fun _ => fun
  | [d1, d2] => { results := [.lit (.bool false)], args := [d1, d2] }
  | _ => none }
def LooseAnyWrongFalsely : Prop := looseAnyRow.holds Try.pinned (OpenSpec.ofChange looseAnyWrong)

/-- 'torchonlaw18.LooseSides': WHATEVER THE INPUT: true; the input reads as it did. -/
def looseSidesSpec : ChangeSpec := { name := "looseSides", fn := fun _ => fun
  | [d] => { results := [.lit (.bool true)], args := [d] }
  | _ => none }
def looseSidesRow : OpenClaim := { program := "ytfffbioafhppiaa", sum := "f4f5635fa449310cd94883430973415ca86ab37489167def1c3d8c816153a0ff", func := "torchon/torchonlaw18.LooseSides", spec := "looseSides", unfollowed := true, recurses := true, apart := false }
def LooseSidesSaid : Prop := looseSidesRow.holds Try.pinned (OpenSpec.ofChange looseSidesSpec)

/-- ITS FALSE NEIGHBOUR: 'it returns false'. Refute it at one input. -/
def looseSidesWrong : ChangeSpec := { name := "looseSides", fn := fun _ => fun
  | [d] => { results := [.lit (.bool false)], args := [d] }
  | _ => none }
def LooseSidesWrongFalsely : Prop := looseSidesRow.holds Try.pinned (OpenSpec.ofChange looseSidesWrong)

/-- 'torchonlaw02.BraidsAct': WHATEVER THE INPUT: true; the input reads as it did. -/
def braidsActSpec : ChangeSpec := { name := "braidsAct", fn := fun _ => fun
  | [d1, d2, d3] => { results := [.lit (.bool true)], args := [d1, d2, d3] }
  | _ => none }
def braidsActRow : OpenClaim := { program := "ytfffbioafhppiaa", sum := "f4f5635fa449310cd94883430973415ca86ab37489167def1c3d8c816153a0ff", func := "torchon/torchonlaw02.BraidsAct", spec := "braidsAct", unfollowed := true, recurses := true, apart := false }
def BraidsActSaid : Prop := braidsActRow.holds Try.pinned (OpenSpec.ofChange braidsActSpec)

/-- ITS FALSE NEIGHBOUR: 'it returns false'. Refute it at one input. -/
def braidsActWrong : ChangeSpec := { name := "braidsAct", fn := fun _ => fun
  | [d1, d2, d3] => { results := [.lit (.bool false)], args := [d1, d2, d3] }
  | _ => none }
def BraidsActWrongFalsely : Prop := braidsActRow.holds Try.pinned (OpenSpec.ofChange braidsActWrong)

/-- 'torchonlaw09.MotifsPass': WHATEVER THE INPUT: true; the input reads as it did. -/
def motifsPassSpec : ChangeSpec := { name := "motifsPass", fn := fun _ => fun
  | [d1, d2] => { results := [.lit (.bool true)], args := [d1, d2] }
  | _ => none }
def motifsPassRow : OpenClaim := { program := "ytfffbioafhppiaa", sum := "f4f5635fa449310cd94883430973415ca86ab37489167def1c3d8c816153a0ff", func := "torchon/torchonlaw09.MotifsPass", spec := "motifsPass", inPlace := ["internal/abi.NoEscape", "internal/bytealg.MakeNoZero"], unfollowed := true, recurses := true, apart := false }
def MotifsPassSaid : Prop := motifsPassRow.holds Try.pinned (OpenSpec.ofChange motifsPassSpec)

/-- ITS FALSE NEIGHBOUR: 'it returns false'. Refute it at one input. -/
def motifsPassWrong : ChangeSpec := { name := "motifsPass", fn := fun _ => fun
  | [d1, d2] => { results := [.lit (.bool false)], args := [d1, d2] }
  | _ => none }
def MotifsPassWrongFalsely : Prop := motifsPassRow.holds Try.pinned (OpenSpec.ofChange motifsPassWrong)

/-- 'torchonlaw18.LooseOff': WHATEVER THE INPUT: true; the input reads as it did. -/
def looseOffSpec : ChangeSpec := { name := "looseOff", fn := fun _ => fun
  | [d] => { results := [.lit (.bool true)], args := [d] }
  | _ => none }
def looseOffRow : OpenClaim := { program := "ytfffbioafhppiaa", sum := "f4f5635fa449310cd94883430973415ca86ab37489167def1c3d8c816153a0ff", func := "torchon/torchonlaw18.LooseOff", spec := "looseOff", unfollowed := true, recurses := true, apart := false }
def LooseOffSaid : Prop := looseOffRow.holds Try.pinned (OpenSpec.ofChange looseOffSpec)

/-- ITS FALSE NEIGHBOUR: 'it returns false'. Refute it at one input. -/
def looseOffWrong : ChangeSpec := { name := "looseOff", fn := fun _ => fun
  | [d] => { results := [.lit (.bool false)], args := [d] }
  | _ => none }
def LooseOffWrongFalsely : Prop := looseOffRow.holds Try.pinned (OpenSpec.ofChange looseOffWrong)

/-- 'torchonlaw18.LooseLinks': WHATEVER THE INPUT: true; the input reads as it did. -/
def looseLinksSpec : ChangeSpec := { name := "looseLinks", fn := fun _ => fun
  | [d] => { results := [.lit (.bool true)], args := [d] }
  | _ => none }
def looseLinksRow : OpenClaim := { program := "ytfffbioafhppiaa", sum := "f4f5635fa449310cd94883430973415ca86ab37489167def1c3d8c816153a0ff", func := "torchon/torchonlaw18.LooseLinks", spec := "looseLinks", unfollowed := true, recurses := true, apart := false }
def LooseLinksSaid : Prop := looseLinksRow.holds Try.pinned (OpenSpec.ofChange looseLinksSpec)

/-- ITS FALSE NEIGHBOUR: 'it returns false'. Refute it at one input. -/
def looseLinksWrong : ChangeSpec := { name := "looseLinks", fn := fun _ => fun
  | [d] => { results := [.lit (.bool false)], args := [d] }
  | _ => none }
def LooseLinksWrongFalsely : Prop := looseLinksRow.holds Try.pinned (OpenSpec.ofChange looseLinksWrong)

/-- 'torchonlaw18.LooseKeys': WHATEVER THE INPUT: true; the input reads as it did. -/
def looseKeysSpec : ChangeSpec := { name := "looseKeys", fn := fun _ => fun
  | [d] => { results := [.lit (.bool true)], args := [d] }
  | _ => none }
def looseKeysRow : OpenClaim := { program := "ytfffbioafhppiaa", sum := "f4f5635fa449310cd94883430973415ca86ab37489167def1c3d8c816153a0ff", func := "torchon/torchonlaw18.LooseKeys", spec := "looseKeys", unfollowed := true, recurses := true, apart := false }
def LooseKeysSaid : Prop := looseKeysRow.holds Try.pinned (OpenSpec.ofChange looseKeysSpec)

/-- ITS FALSE NEIGHBOUR: 'it returns false'. Refute it at one input. -/
def looseKeysWrong : ChangeSpec := { name := "looseKeys", fn := fun _ => fun
  | [d] => { results := [.lit (.bool false)], args := [d] }
  | _ => none }
def LooseKeysWrongFalsely : Prop := looseKeysRow.holds Try.pinned (OpenSpec.ofChange looseKeysWrong)

/-- 'torchonlaw02.BraidsWeighted': WHATEVER THE INPUT: true; the input reads as it did. -/
def braidsWeightedSpec : ChangeSpec := { name := "braidsWeighted", fn := fun _ => fun
  | [d1, d2] => { results := [.lit (.bool true)], args := [d1, d2] }
  | _ => none }
def braidsWeightedRow : OpenClaim := { program := "ytfffbioafhppiaa", sum := "f4f5635fa449310cd94883430973415ca86ab37489167def1c3d8c816153a0ff", func := "torchon/torchonlaw02.BraidsWeighted", spec := "braidsWeighted", unfollowed := true, recurses := true, apart := false }
def BraidsWeightedSaid : Prop := braidsWeightedRow.holds Try.pinned (OpenSpec.ofChange braidsWeightedSpec)

/-- ITS FALSE NEIGHBOUR: 'it returns false'. Refute it at one input. -/
def braidsWeightedWrong : ChangeSpec := { name := "braidsWeighted", fn := fun _ => fun
  | [d1, d2] => { results := [.lit (.bool false)], args := [d1, d2] }
  | _ => none }
def BraidsWeightedWrongFalsely : Prop := braidsWeightedRow.holds Try.pinned (OpenSpec.ofChange braidsWeightedWrong)

/- THE SECOND FORM. 'bulk': how many values and letters a reading holds, each counted each time it is reached (what is shared counts as often as it is met; a slice's spare places count too). A statement '..UptoSaid' is the law's where the arguments, and the package variables that the reading takes, are together of bulk at most 1048576: NARROWER than '..Said'. Prove '..Said' where nothing that the law and all that it calls make is longer than what came in: it says more and counts as full. Else prove '..UptoSaid'. A law counts once. -/
mutual
def uptoBulk {H : Type} : DataW H → Nat
  | .lit (.string bytes) => bytes.length + 1
  | .lit _ => 1
  | .nil => 1
  | .ptr d => uptoBulk d + 1
  | .slice elems spare => uptoBulkAll elems + uptoBulkAll spare + 1
  | .agg parts => uptoBulkAll parts + 1
  | .iface _ d => uptoBulk d + 1
  | .map entries => uptoBulkEntries entries + 1
  | .held _ => 1
def uptoBulkAll {H : Type} : List (DataW H) → Nat
  | [] => 0
  | d :: r => uptoBulk d + uptoBulkAll r
def uptoBulkEntries {H : Type} : List (Lit × DataW H) → Nat
  | [] => 0
  | x :: r => uptoBulkEntry x + uptoBulkEntries r
def uptoBulkEntry {H : Type} : Lit × DataW H → Nat
  | (.string bytes, d) => bytes.length + uptoBulk d + 1
  | (_, d) => uptoBulk d + 1
 end
def uptoSmall : (H : Type) → List (DataW H) → Bool := fun _ ds => decide (uptoBulkAll ds ≤ 1048576)
def OpenSpec.upto (s : _root_.Go.ChangeSpec) : _root_.Go.OpenSpec := { _root_.Go.OpenSpec.ofChange s with cond := some uptoSmall }

/-- 'torchonlaw18.LooseAny', WHERE WHAT IT READS IS OF BULK AT MOST 1048576: true; the input reads as it did. -/
def looseAnyUptoRow : OpenClaim := { program := "ytfffbioafhppiaa", sum := "f4f5635fa449310cd94883430973415ca86ab37489167def1c3d8c816153a0ff", func := "torchon/torchonlaw18.LooseAny", spec := "looseAny", unfollowed := true, recurses := true, apart := false, narrowed := true }
def LooseAnyUptoSaid : Prop := looseAnyUptoRow.holds Try.pinned (OpenSpec.upto looseAnySpec)

/-- 'torchonlaw18.LooseSides', WHERE WHAT IT READS IS OF BULK AT MOST 1048576: true; the input reads as it did. -/
def looseSidesUptoRow : OpenClaim := { program := "ytfffbioafhppiaa", sum := "f4f5635fa449310cd94883430973415ca86ab37489167def1c3d8c816153a0ff", func := "torchon/torchonlaw18.LooseSides", spec := "looseSides", unfollowed := true, recurses := true, apart := false, narrowed := true }
def LooseSidesUptoSaid : Prop := looseSidesUptoRow.holds Try.pinned (OpenSpec.upto looseSidesSpec)

/-- 'torchonlaw02.BraidsAct', WHERE WHAT IT READS IS OF BULK AT MOST 1048576: true; the input reads as it did. -/
def braidsActUptoRow : OpenClaim := { program := "ytfffbioafhppiaa", sum := "f4f5635fa449310cd94883430973415ca86ab37489167def1c3d8c816153a0ff", func := "torchon/torchonlaw02.BraidsAct", spec := "braidsAct", unfollowed := true, recurses := true, apart := false, narrowed := true }
def BraidsActUptoSaid : Prop := braidsActUptoRow.holds Try.pinned (OpenSpec.upto braidsActSpec)

/-- 'torchonlaw09.MotifsPass', WHERE WHAT IT READS IS OF BULK AT MOST 1048576: true; the input reads as it did. -/
def motifsPassUptoRow : OpenClaim := { program := "ytfffbioafhppiaa", sum := "f4f5635fa449310cd94883430973415ca86ab37489167def1c3d8c816153a0ff", func := "torchon/torchonlaw09.MotifsPass", spec := "motifsPass", inPlace := ["internal/abi.NoEscape", "internal/bytealg.MakeNoZero"], unfollowed := true, recurses := true, apart := false, narrowed := true }
def MotifsPassUptoSaid : Prop := motifsPassUptoRow.holds Try.pinned (OpenSpec.upto motifsPassSpec)

/-- 'torchonlaw18.LooseOff', WHERE WHAT IT READS IS OF BULK AT MOST 1048576: true; the input reads as it did. -/
def looseOffUptoRow : OpenClaim := { program := "ytfffbioafhppiaa", sum := "f4f5635fa449310cd94883430973415ca86ab37489167def1c3d8c816153a0ff", func := "torchon/torchonlaw18.LooseOff", spec := "looseOff", unfollowed := true, recurses := true, apart := false, narrowed := true }
def LooseOffUptoSaid : Prop := looseOffUptoRow.holds Try.pinned (OpenSpec.upto looseOffSpec)

/-- 'torchonlaw18.LooseLinks', WHERE WHAT IT READS IS OF BULK AT MOST 1048576: true; the input reads as it did. -/
def looseLinksUptoRow : OpenClaim := { program := "ytfffbioafhppiaa", sum := "f4f5635fa449310cd94883430973415ca86ab37489167def1c3d8c816153a0ff", func := "torchon/torchonlaw18.LooseLinks", spec := "looseLinks", unfollowed := true, recurses := true, apart := false, narrowed := true }
def LooseLinksUptoSaid : Prop := looseLinksUptoRow.holds Try.pinned (OpenSpec.upto looseLinksSpec)

/-- 'torchonlaw18.LooseKeys', WHERE WHAT IT READS IS OF BULK AT MOST 1048576: true; the input reads as it did. -/
def looseKeysUptoRow : OpenClaim := { program := "ytfffbioafhppiaa", sum := "f4f5635fa449310cd94883430973415ca86ab37489167def1c3d8c816153a0ff", func := "torchon/torchonlaw18.LooseKeys", spec := "looseKeys", unfollowed := true, recurses := true, apart := false, narrowed := true }
def LooseKeysUptoSaid : Prop := looseKeysUptoRow.holds Try.pinned (OpenSpec.upto looseKeysSpec)

/-- 'torchonlaw02.BraidsWeighted', WHERE WHAT IT READS IS OF BULK AT MOST 1048576: true; the input reads as it did. -/
def braidsWeightedUptoRow : OpenClaim := { program := "ytfffbioafhppiaa", sum := "f4f5635fa449310cd94883430973415ca86ab37489167def1c3d8c816153a0ff", func := "torchon/torchonlaw02.BraidsWeighted", spec := "braidsWeighted", unfollowed := true, recurses := true, apart := false, narrowed := true }
def BraidsWeightedUptoSaid : Prop := braidsWeightedUptoRow.holds Try.pinned (OpenSpec.upto braidsWeightedSpec)

end Rows
end Go.Proofs.Ytfffbioafhppiaa
