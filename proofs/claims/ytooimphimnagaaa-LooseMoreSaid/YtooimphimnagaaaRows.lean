/-
  No cell of these rows narrows 'for every input' (looked for: loops, veiled, ifaces, maps, wideKeys, modest, calm, conditions, laid).
  DERIVED. THE GIVEN ROWS OF THIS SEAT. 12 by the template 'for every input the law returns true; each argument reads behind the call as it read before'; 0 by the template 'total and deterministic' (their statements: YtooimphimnagaaaTotals.lean).
  GIVEN WITH THE SEED: the statements are not yours to turn. If you find one false, say at which input.
  Laid BY PROGRAM, IN A SANDBOX (cutbox-rows.mjs): the forced cells as the released guide's own fill.sh prints them over the translation 955015f4fb3adeb3… (all of the seat's roots in one cut). By AI agents, Wed Nov 11 2026. No macro, syntax, notation, axiom, sorry.
-/
import Derived.Test.YtooimphimnagaaaChecked
import GoSem.Claim
import GoSem.ClaimJoined
import GoSem.ClaimMapViews
import Derived.JoinedTies
import Derived.KernelRfl
namespace Go.Proofs.Ytooimphimnagaaa
/- THE CELL 'sum', in the pinned program and in every row, IS THE sha256 OF THE DUMP (.gsa) THAT YtooimphimnagaaaProg.lean LOADS. Nothing in Lean hashes anything: it is a label: what it is worth is what the hold of that sum in a sandbox is worth. -/
noncomputable def Try.pinned : Pinned := { name := "ytooimphimnagaaa", sum := "955015f4fb3adeb35b3733c7c90a287ef2c9fff867abd0f90410012be23aa5ce", checked := Try.checked }
namespace Rows
def none {H : Type} : Left H := { results := [], args := [] }

/-- 'torchonlaw18.LooseFrees': WHATEVER THE INPUT: true; the input reads as it did. -/
def looseFreesSpec : ChangeSpec := { name := "looseFrees", fn := fun _ => fun
  | [d1, d2] => { results := [.lit (.bool true)], args := [d1, d2] }
  | _ => none }
def looseFreesRow : OpenClaim := { program := "ytooimphimnagaaa", sum := "955015f4fb3adeb35b3733c7c90a287ef2c9fff867abd0f90410012be23aa5ce", func := "torchon/torchonlaw18.LooseFrees", spec := "looseFrees", unfollowed := true, recurses := true, apart := false }
def LooseFreesSaid : Prop := looseFreesRow.holds Try.pinned (OpenSpec.ofChange looseFreesSpec)

/-- ITS FALSE NEIGHBOUR: 'it returns false'. Refute it at one input. -/
def looseFreesWrong : ChangeSpec := { name := "looseFrees", fn := fun _ => fun
  | [d1, d2] => { results := [.lit (.bool false)], args := [d1, d2] }
  | _ => none }
def LooseFreesWrongFalsely : Prop := looseFreesRow.holds Try.pinned (OpenSpec.ofChange looseFreesWrong)

/-- 'torchonlaw02.BraidsAct': WHATEVER THE INPUT: true; the input reads as it did. -/
def braidsActSpec : ChangeSpec := { name := "braidsAct", fn := fun _ => fun
  | [d1, d2, d3] => { results := [.lit (.bool true)], args := [d1, d2, d3] }
  | _ => none }
def braidsActRow : OpenClaim := { program := "ytooimphimnagaaa", sum := "955015f4fb3adeb35b3733c7c90a287ef2c9fff867abd0f90410012be23aa5ce", func := "torchon/torchonlaw02.BraidsAct", spec := "braidsAct", unfollowed := true, recurses := true, apart := false }
def BraidsActSaid : Prop := braidsActRow.holds Try.pinned (OpenSpec.ofChange braidsActSpec)

/-- ITS FALSE NEIGHBOUR: 'it returns false'. Refute it at one input. -/
def braidsActWrong : ChangeSpec := { name := "braidsAct", fn := fun _ => fun
  | [d1, d2, d3] => { results := [.lit (.bool false)], args := [d1, d2, d3] }
  | _ => none }
def BraidsActWrongFalsely : Prop := braidsActRow.holds Try.pinned (OpenSpec.ofChange braidsActWrong)

/-- 'torchonlaw02.BraidsTurns': WHATEVER THE INPUT: true; the input reads as it did. -/
def braidsTurnsSpec : ChangeSpec := { name := "braidsTurns", fn := fun _ => fun
  | [d1, d2, d3] => { results := [.lit (.bool true)], args := [d1, d2, d3] }
  | _ => none }
def braidsTurnsRow : OpenClaim := { program := "ytooimphimnagaaa", sum := "955015f4fb3adeb35b3733c7c90a287ef2c9fff867abd0f90410012be23aa5ce", func := "torchon/torchonlaw02.BraidsTurns", spec := "braidsTurns", unfollowed := true, recurses := true, apart := false }
def BraidsTurnsSaid : Prop := braidsTurnsRow.holds Try.pinned (OpenSpec.ofChange braidsTurnsSpec)

/-- ITS FALSE NEIGHBOUR: 'it returns false'. Refute it at one input. -/
def braidsTurnsWrong : ChangeSpec := { name := "braidsTurns", fn := fun _ => fun
  | [d1, d2, d3] => { results := [.lit (.bool false)], args := [d1, d2, d3] }
  | _ => none }
def BraidsTurnsWrongFalsely : Prop := braidsTurnsRow.holds Try.pinned (OpenSpec.ofChange braidsTurnsWrong)

/-- 'torchonlaw02.BraidsSame': WHATEVER THE INPUT: true; the input reads as it did. -/
def braidsSameSpec : ChangeSpec := { name := "braidsSame", fn := fun _ => fun
  | [d1, d2, d3] => { results := [.lit (.bool true)], args := [d1, d2, d3] }
  | _ => none }
def braidsSameRow : OpenClaim := { program := "ytooimphimnagaaa", sum := "955015f4fb3adeb35b3733c7c90a287ef2c9fff867abd0f90410012be23aa5ce", func := "torchon/torchonlaw02.BraidsSame", spec := "braidsSame", unfollowed := true, recurses := true, apart := false }
def BraidsSameSaid : Prop := braidsSameRow.holds Try.pinned (OpenSpec.ofChange braidsSameSpec)

/-- ITS FALSE NEIGHBOUR: 'it returns false'. Refute it at one input. -/
def braidsSameWrong : ChangeSpec := { name := "braidsSame", fn := fun _ => fun
  | [d1, d2, d3] => { results := [.lit (.bool false)], args := [d1, d2, d3] }
  | _ => none }
def BraidsSameWrongFalsely : Prop := braidsSameRow.holds Try.pinned (OpenSpec.ofChange braidsSameWrong)

/-- 'torchonlaw18.LooseMore': WHATEVER THE INPUT: true; the input reads as it did. -/
def looseMoreSpec : ChangeSpec := { name := "looseMore", fn := fun _ => fun
  | [d1, d2, d3] => { results := [.lit (.bool true)], args := [d1, d2, d3] }
  | _ => none }
def looseMoreRow : OpenClaim := { program := "ytooimphimnagaaa", sum := "955015f4fb3adeb35b3733c7c90a287ef2c9fff867abd0f90410012be23aa5ce", func := "torchon/torchonlaw18.LooseMore", spec := "looseMore", unfollowed := true, recurses := true, apart := false }
def LooseMoreSaid : Prop := looseMoreRow.holds Try.pinned (OpenSpec.ofChange looseMoreSpec)

/-- ITS FALSE NEIGHBOUR: 'it returns false'. Refute it at one input. -/
def looseMoreWrong : ChangeSpec := { name := "looseMore", fn := fun _ => fun
  | [d1, d2, d3] => { results := [.lit (.bool false)], args := [d1, d2, d3] }
  | _ => none }
def LooseMoreWrongFalsely : Prop := looseMoreRow.holds Try.pinned (OpenSpec.ofChange looseMoreWrong)

/-- 'torchonlaw02.BraidsChanges': WHATEVER THE INPUT: true; the input reads as it did. -/
def braidsChangesSpec : ChangeSpec := { name := "braidsChanges", fn := fun _ => fun
  | [d1, d2, d3] => { results := [.lit (.bool true)], args := [d1, d2, d3] }
  | _ => none }
def braidsChangesRow : OpenClaim := { program := "ytooimphimnagaaa", sum := "955015f4fb3adeb35b3733c7c90a287ef2c9fff867abd0f90410012be23aa5ce", func := "torchon/torchonlaw02.BraidsChanges", spec := "braidsChanges", unfollowed := true, recurses := true, apart := false }
def BraidsChangesSaid : Prop := braidsChangesRow.holds Try.pinned (OpenSpec.ofChange braidsChangesSpec)

/-- ITS FALSE NEIGHBOUR: 'it returns false'. Refute it at one input. -/
def braidsChangesWrong : ChangeSpec := { name := "braidsChanges", fn := fun _ => fun
  | [d1, d2, d3] => { results := [.lit (.bool false)], args := [d1, d2, d3] }
  | _ => none }
def BraidsChangesWrongFalsely : Prop := braidsChangesRow.holds Try.pinned (OpenSpec.ofChange braidsChangesWrong)

/-- 'torchonlaw02.BraidsPerms': WHATEVER THE INPUT: true; the input reads as it did. -/
def braidsPermsSpec : ChangeSpec := { name := "braidsPerms", fn := fun _ => fun
  | [d1, d2, d3] => { results := [.lit (.bool true)], args := [d1, d2, d3] }
  | _ => none }
def braidsPermsRow : OpenClaim := { program := "ytooimphimnagaaa", sum := "955015f4fb3adeb35b3733c7c90a287ef2c9fff867abd0f90410012be23aa5ce", func := "torchon/torchonlaw02.BraidsPerms", spec := "braidsPerms", unfollowed := true, recurses := true, apart := false }
def BraidsPermsSaid : Prop := braidsPermsRow.holds Try.pinned (OpenSpec.ofChange braidsPermsSpec)

/-- ITS FALSE NEIGHBOUR: 'it returns false'. Refute it at one input. -/
def braidsPermsWrong : ChangeSpec := { name := "braidsPerms", fn := fun _ => fun
  | [d1, d2, d3] => { results := [.lit (.bool false)], args := [d1, d2, d3] }
  | _ => none }
def BraidsPermsWrongFalsely : Prop := braidsPermsRow.holds Try.pinned (OpenSpec.ofChange braidsPermsWrong)

/-- 'torchonlaw02.BraidsGroup': WHATEVER THE INPUT: true; the input reads as it did. -/
def braidsGroupSpec : ChangeSpec := { name := "braidsGroup", fn := fun _ => fun
  | [d1, d2, d3] => { results := [.lit (.bool true)], args := [d1, d2, d3] }
  | _ => none }
def braidsGroupRow : OpenClaim := { program := "ytooimphimnagaaa", sum := "955015f4fb3adeb35b3733c7c90a287ef2c9fff867abd0f90410012be23aa5ce", func := "torchon/torchonlaw02.BraidsGroup", spec := "braidsGroup", unfollowed := true, recurses := true, apart := false }
def BraidsGroupSaid : Prop := braidsGroupRow.holds Try.pinned (OpenSpec.ofChange braidsGroupSpec)

/-- ITS FALSE NEIGHBOUR: 'it returns false'. Refute it at one input. -/
def braidsGroupWrong : ChangeSpec := { name := "braidsGroup", fn := fun _ => fun
  | [d1, d2, d3] => { results := [.lit (.bool false)], args := [d1, d2, d3] }
  | _ => none }
def BraidsGroupWrongFalsely : Prop := braidsGroupRow.holds Try.pinned (OpenSpec.ofChange braidsGroupWrong)

/-- 'torchonlaw18.LooseOff': WHATEVER THE INPUT: true; the input reads as it did. -/
def looseOffSpec : ChangeSpec := { name := "looseOff", fn := fun _ => fun
  | [d] => { results := [.lit (.bool true)], args := [d] }
  | _ => none }
def looseOffRow : OpenClaim := { program := "ytooimphimnagaaa", sum := "955015f4fb3adeb35b3733c7c90a287ef2c9fff867abd0f90410012be23aa5ce", func := "torchon/torchonlaw18.LooseOff", spec := "looseOff", unfollowed := true, recurses := true, apart := false }
def LooseOffSaid : Prop := looseOffRow.holds Try.pinned (OpenSpec.ofChange looseOffSpec)

/-- ITS FALSE NEIGHBOUR: 'it returns false'. Refute it at one input. -/
def looseOffWrong : ChangeSpec := { name := "looseOff", fn := fun _ => fun
  | [d] => { results := [.lit (.bool false)], args := [d] }
  | _ => none }
def LooseOffWrongFalsely : Prop := looseOffRow.holds Try.pinned (OpenSpec.ofChange looseOffWrong)

/-- 'torchonlaw18.LooseLinks': WHATEVER THE INPUT: true; the input reads as it did. -/
def looseLinksSpec : ChangeSpec := { name := "looseLinks", fn := fun _ => fun
  | [d] => { results := [.lit (.bool true)], args := [d] }
  | _ => none }
def looseLinksRow : OpenClaim := { program := "ytooimphimnagaaa", sum := "955015f4fb3adeb35b3733c7c90a287ef2c9fff867abd0f90410012be23aa5ce", func := "torchon/torchonlaw18.LooseLinks", spec := "looseLinks", unfollowed := true, recurses := true, apart := false }
def LooseLinksSaid : Prop := looseLinksRow.holds Try.pinned (OpenSpec.ofChange looseLinksSpec)

/-- ITS FALSE NEIGHBOUR: 'it returns false'. Refute it at one input. -/
def looseLinksWrong : ChangeSpec := { name := "looseLinks", fn := fun _ => fun
  | [d] => { results := [.lit (.bool false)], args := [d] }
  | _ => none }
def LooseLinksWrongFalsely : Prop := looseLinksRow.holds Try.pinned (OpenSpec.ofChange looseLinksWrong)

/-- 'torchonlaw18.LooseKeys': WHATEVER THE INPUT: true; the input reads as it did. -/
def looseKeysSpec : ChangeSpec := { name := "looseKeys", fn := fun _ => fun
  | [d] => { results := [.lit (.bool true)], args := [d] }
  | _ => none }
def looseKeysRow : OpenClaim := { program := "ytooimphimnagaaa", sum := "955015f4fb3adeb35b3733c7c90a287ef2c9fff867abd0f90410012be23aa5ce", func := "torchon/torchonlaw18.LooseKeys", spec := "looseKeys", unfollowed := true, recurses := true, apart := false }
def LooseKeysSaid : Prop := looseKeysRow.holds Try.pinned (OpenSpec.ofChange looseKeysSpec)

/-- ITS FALSE NEIGHBOUR: 'it returns false'. Refute it at one input. -/
def looseKeysWrong : ChangeSpec := { name := "looseKeys", fn := fun _ => fun
  | [d] => { results := [.lit (.bool false)], args := [d] }
  | _ => none }
def LooseKeysWrongFalsely : Prop := looseKeysRow.holds Try.pinned (OpenSpec.ofChange looseKeysWrong)

/-- 'torchonlaw02.BraidsWeighted': WHATEVER THE INPUT: true; the input reads as it did. -/
def braidsWeightedSpec : ChangeSpec := { name := "braidsWeighted", fn := fun _ => fun
  | [d1, d2] => { results := [.lit (.bool true)], args := [d1, d2] }
  | _ => none }
def braidsWeightedRow : OpenClaim := { program := "ytooimphimnagaaa", sum := "955015f4fb3adeb35b3733c7c90a287ef2c9fff867abd0f90410012be23aa5ce", func := "torchon/torchonlaw02.BraidsWeighted", spec := "braidsWeighted", unfollowed := true, recurses := true, apart := false }
def BraidsWeightedSaid : Prop := braidsWeightedRow.holds Try.pinned (OpenSpec.ofChange braidsWeightedSpec)

/-- ITS FALSE NEIGHBOUR: 'it returns false'. Refute it at one input. -/
def braidsWeightedWrong : ChangeSpec := { name := "braidsWeighted", fn := fun _ => fun
  | [d1, d2] => { results := [.lit (.bool false)], args := [d1, d2] }
  | _ => none }
def BraidsWeightedWrongFalsely : Prop := braidsWeightedRow.holds Try.pinned (OpenSpec.ofChange braidsWeightedWrong)

/- THE SECOND FORM. 'bulk': how many values and letters a reading holds, each counted each time it is reached (what is shared counts as often as it is met; a slice's spare places count too). A statement '..UptoSaid' is the law's where the arguments, and the package variables that the reading takes, are together of bulk at most 1048576: NARROWER than '..Said'. Prove '..Said' where nothing that the law and all that it calls make is longer than what came in: it says more and counts as full. Else prove '..UptoSaid'. A law counts once. -/
mutual
def uptoBulk {H : Type} : DataW H → Nat
  | .lit (.string bytes) => bytes.length + 1
  | .lit _ => 1
  | .nil => 1
  | .ptr d => uptoBulk d + 1
  | .slice elems spare => uptoBulkAll elems + uptoBulkAll spare + 1
  | .agg parts => uptoBulkAll parts + 1
  | .iface _ d => uptoBulk d + 1
  | .map entries => uptoBulkEntries entries + 1
  | .held _ => 1
def uptoBulkAll {H : Type} : List (DataW H) → Nat
  | [] => 0
  | d :: r => uptoBulk d + uptoBulkAll r
def uptoBulkEntries {H : Type} : List (Lit × DataW H) → Nat
  | [] => 0
  | x :: r => uptoBulkEntry x + uptoBulkEntries r
def uptoBulkEntry {H : Type} : Lit × DataW H → Nat
  | (.string bytes, d) => bytes.length + uptoBulk d + 1
  | (_, d) => uptoBulk d + 1
 end
def uptoSmall : (H : Type) → List (DataW H) → Bool := fun _ ds => decide (uptoBulkAll ds ≤ 1048576)
def OpenSpec.upto (s : _root_.Go.ChangeSpec) : _root_.Go.OpenSpec := { _root_.Go.OpenSpec.ofChange s with cond := some uptoSmall }

/-- 'torchonlaw18.LooseFrees', WHERE WHAT IT READS IS OF BULK AT MOST 1048576: true; the input reads as it did. -/
def looseFreesUptoRow : OpenClaim := { program := "ytooimphimnagaaa", sum := "955015f4fb3adeb35b3733c7c90a287ef2c9fff867abd0f90410012be23aa5ce", func := "torchon/torchonlaw18.LooseFrees", spec := "looseFrees", unfollowed := true, recurses := true, apart := false, narrowed := true }
def LooseFreesUptoSaid : Prop := looseFreesUptoRow.holds Try.pinned (OpenSpec.upto looseFreesSpec)

/-- 'torchonlaw02.BraidsAct', WHERE WHAT IT READS IS OF BULK AT MOST 1048576: true; the input reads as it did. -/
def braidsActUptoRow : OpenClaim := { program := "ytooimphimnagaaa", sum := "955015f4fb3adeb35b3733c7c90a287ef2c9fff867abd0f90410012be23aa5ce", func := "torchon/torchonlaw02.BraidsAct", spec := "braidsAct", unfollowed := true, recurses := true, apart := false, narrowed := true }
def BraidsActUptoSaid : Prop := braidsActUptoRow.holds Try.pinned (OpenSpec.upto braidsActSpec)

/-- 'torchonlaw02.BraidsTurns', WHERE WHAT IT READS IS OF BULK AT MOST 1048576: true; the input reads as it did. -/
def braidsTurnsUptoRow : OpenClaim := { program := "ytooimphimnagaaa", sum := "955015f4fb3adeb35b3733c7c90a287ef2c9fff867abd0f90410012be23aa5ce", func := "torchon/torchonlaw02.BraidsTurns", spec := "braidsTurns", unfollowed := true, recurses := true, apart := false, narrowed := true }
def BraidsTurnsUptoSaid : Prop := braidsTurnsUptoRow.holds Try.pinned (OpenSpec.upto braidsTurnsSpec)

/-- 'torchonlaw02.BraidsSame', WHERE WHAT IT READS IS OF BULK AT MOST 1048576: true; the input reads as it did. -/
def braidsSameUptoRow : OpenClaim := { program := "ytooimphimnagaaa", sum := "955015f4fb3adeb35b3733c7c90a287ef2c9fff867abd0f90410012be23aa5ce", func := "torchon/torchonlaw02.BraidsSame", spec := "braidsSame", unfollowed := true, recurses := true, apart := false, narrowed := true }
def BraidsSameUptoSaid : Prop := braidsSameUptoRow.holds Try.pinned (OpenSpec.upto braidsSameSpec)

/-- 'torchonlaw18.LooseMore', WHERE WHAT IT READS IS OF BULK AT MOST 1048576: true; the input reads as it did. -/
def looseMoreUptoRow : OpenClaim := { program := "ytooimphimnagaaa", sum := "955015f4fb3adeb35b3733c7c90a287ef2c9fff867abd0f90410012be23aa5ce", func := "torchon/torchonlaw18.LooseMore", spec := "looseMore", unfollowed := true, recurses := true, apart := false, narrowed := true }
def LooseMoreUptoSaid : Prop := looseMoreUptoRow.holds Try.pinned (OpenSpec.upto looseMoreSpec)

/-- 'torchonlaw02.BraidsChanges', WHERE WHAT IT READS IS OF BULK AT MOST 1048576: true; the input reads as it did. -/
def braidsChangesUptoRow : OpenClaim := { program := "ytooimphimnagaaa", sum := "955015f4fb3adeb35b3733c7c90a287ef2c9fff867abd0f90410012be23aa5ce", func := "torchon/torchonlaw02.BraidsChanges", spec := "braidsChanges", unfollowed := true, recurses := true, apart := false, narrowed := true }
def BraidsChangesUptoSaid : Prop := braidsChangesUptoRow.holds Try.pinned (OpenSpec.upto braidsChangesSpec)

/-- 'torchonlaw02.BraidsPerms', WHERE WHAT IT READS IS OF BULK AT MOST 1048576: true; the input reads as it did. -/
def braidsPermsUptoRow : OpenClaim := { program := "ytooimphimnagaaa", sum := "955015f4fb3adeb35b3733c7c90a287ef2c9fff867abd0f90410012be23aa5ce", func := "torchon/torchonlaw02.BraidsPerms", spec := "braidsPerms", unfollowed := true, recurses := true, apart := false, narrowed := true }
def BraidsPermsUptoSaid : Prop := braidsPermsUptoRow.holds Try.pinned (OpenSpec.upto braidsPermsSpec)

/-- 'torchonlaw02.BraidsGroup', WHERE WHAT IT READS IS OF BULK AT MOST 1048576: true; the input reads as it did. -/
def braidsGroupUptoRow : OpenClaim := { program := "ytooimphimnagaaa", sum := "955015f4fb3adeb35b3733c7c90a287ef2c9fff867abd0f90410012be23aa5ce", func := "torchon/torchonlaw02.BraidsGroup", spec := "braidsGroup", unfollowed := true, recurses := true, apart := false, narrowed := true }
def BraidsGroupUptoSaid : Prop := braidsGroupUptoRow.holds Try.pinned (OpenSpec.upto braidsGroupSpec)

/-- 'torchonlaw18.LooseOff', WHERE WHAT IT READS IS OF BULK AT MOST 1048576: true; the input reads as it did. -/
def looseOffUptoRow : OpenClaim := { program := "ytooimphimnagaaa", sum := "955015f4fb3adeb35b3733c7c90a287ef2c9fff867abd0f90410012be23aa5ce", func := "torchon/torchonlaw18.LooseOff", spec := "looseOff", unfollowed := true, recurses := true, apart := false, narrowed := true }
def LooseOffUptoSaid : Prop := looseOffUptoRow.holds Try.pinned (OpenSpec.upto looseOffSpec)

/-- 'torchonlaw18.LooseLinks', WHERE WHAT IT READS IS OF BULK AT MOST 1048576: true; the input reads as it did. -/
def looseLinksUptoRow : OpenClaim := { program := "ytooimphimnagaaa", sum := "955015f4fb3adeb35b3733c7c90a287ef2c9fff867abd0f90410012be23aa5ce", func := "torchon/torchonlaw18.LooseLinks", spec := "looseLinks", unfollowed := true, recurses := true, apart := false, narrowed := true }
def LooseLinksUptoSaid : Prop := looseLinksUptoRow.holds Try.pinned (OpenSpec.upto looseLinksSpec)

/-- 'torchonlaw18.LooseKeys', WHERE WHAT IT READS IS OF BULK AT MOST 1048576: true; the input reads as it did. -/
def looseKeysUptoRow : OpenClaim := { program := "ytooimphimnagaaa", sum := "955015f4fb3adeb35b3733c7c90a287ef2c9fff867abd0f90410012be23aa5ce", func := "torchon/torchonlaw18.LooseKeys", spec := "looseKeys", unfollowed := true, recurses := true, apart := false, narrowed := true }
def LooseKeysUptoSaid : Prop := looseKeysUptoRow.holds Try.pinned (OpenSpec.upto looseKeysSpec)

/-- 'torchonlaw02.BraidsWeighted', WHERE WHAT IT READS IS OF BULK AT MOST 1048576: true; the input reads as it did. -/
def braidsWeightedUptoRow : OpenClaim := { program := "ytooimphimnagaaa", sum := "955015f4fb3adeb35b3733c7c90a287ef2c9fff867abd0f90410012be23aa5ce", func := "torchon/torchonlaw02.BraidsWeighted", spec := "braidsWeighted", unfollowed := true, recurses := true, apart := false, narrowed := true }
def BraidsWeightedUptoSaid : Prop := braidsWeightedUptoRow.holds Try.pinned (OpenSpec.upto braidsWeightedSpec)

end Rows
end Go.Proofs.Ytooimphimnagaaa
