/-
  No cell of these rows narrows 'for every input' (looked for: loops, veiled, ifaces, maps, wideKeys, modest, calm, conditions, laid).
  DERIVED. THE GIVEN ROWS OF THIS SEAT. 7 by the template 'for every input the law returns true; each argument reads behind the call as it read before'; 0 by the template 'total and deterministic' (their statements: YtkbebiebaenbdaaTotals.lean).
  GIVEN WITH THE SEED: the statements are not yours to turn. If you find one false, say at which input.
  Laid BY PROGRAM, IN A SANDBOX (cutbox-rows.mjs): the forced cells as the released guide's own fill.sh prints them over the translation 715c5bee2defb13b… (all of the seat's roots in one cut). By AI agents, Wed Nov 11 2026. No macro, syntax, notation, axiom, sorry.
-/
import Derived.Test.YtkbebiebaenbdaaChecked
import GoSem.Claim
import GoSem.ClaimJoined
import GoSem.ClaimMapViews
import Derived.JoinedTies
import Derived.KernelRfl
namespace Go.Proofs.Ytkbebiebaenbdaa
/- THE CELL 'sum', in the pinned program and in every row, IS THE sha256 OF THE DUMP (.gsa) THAT YtkbebiebaenbdaaProg.lean LOADS. Nothing in Lean hashes anything: it is a label: what it is worth is what the hold of that sum in a sandbox is worth. -/
noncomputable def Try.pinned : Pinned := { name := "ytkbebiebaenbdaa", sum := "715c5bee2defb13bf97bb2c7899da7ad429e3c2f6669fe1fafb1f009b6b324a3", checked := Try.checked }
namespace Rows
def none {H : Type} : Left H := { results := [], args := [] }

/-- 'torchonlaw09.MotifsPass': WHATEVER THE INPUT: true; the input reads as it did. -/
def motifsPassSpec : ChangeSpec := { name := "motifsPass", fn := fun _ => fun
  | [d1, d2] => { results := [.lit (.bool true)], args := [d1, d2] }
  | _ => none }
def motifsPassRow : OpenClaim := { program := "ytkbebiebaenbdaa", sum := "715c5bee2defb13bf97bb2c7899da7ad429e3c2f6669fe1fafb1f009b6b324a3", func := "torchon/torchonlaw09.MotifsPass", spec := "motifsPass", inPlace := ["internal/abi.NoEscape", "internal/bytealg.MakeNoZero"], unfollowed := true, recurses := true, apart := false }
def MotifsPassSaid : Prop := motifsPassRow.holds Try.pinned (OpenSpec.ofChange motifsPassSpec)

/-- ITS FALSE NEIGHBOUR: 'it returns false'. Refute it at one input. -/
def motifsPassWrong : ChangeSpec := { name := "motifsPass", fn := fun _ => fun
  | [d1, d2] => { results := [.lit (.bool false)], args := [d1, d2] }
  | _ => none }
def MotifsPassWrongFalsely : Prop := motifsPassRow.holds Try.pinned (OpenSpec.ofChange motifsPassWrong)

/-- 'torchonlaw09.MotifsTurn': WHATEVER THE INPUT: true; the input reads as it did. -/
def motifsTurnSpec : ChangeSpec := { name := "motifsTurn", fn := fun _ => fun
  | [d1, d2, d3] => { results := [.lit (.bool true)], args := [d1, d2, d3] }
  | _ => none }
def motifsTurnRow : OpenClaim := { program := "ytkbebiebaenbdaa", sum := "715c5bee2defb13bf97bb2c7899da7ad429e3c2f6669fe1fafb1f009b6b324a3", func := "torchon/torchonlaw09.MotifsTurn", spec := "motifsTurn", inPlace := ["internal/abi.NoEscape", "internal/bytealg.MakeNoZero"], unfollowed := true, recurses := true, apart := false }
def MotifsTurnSaid : Prop := motifsTurnRow.holds Try.pinned (OpenSpec.ofChange motifsTurnSpec)

/-- ITS FALSE NEIGHBOUR: 'it returns false'. Refute it at one input. -/
def motifsTurnWrong : ChangeSpec := { name := "motifsTurn", fn := fun _ => fun
  | [d1, d2, d3] => { results := [.lit (.bool false)], args := [d1, d2, d3] }
  | _ => none }
def MotifsTurnWrongFalsely : Prop := motifsTurnRow.holds Try.pinned (OpenSpec.ofChange motifsTurnWrong)

/-- 'torchonlaw10.AssembleTimes': WHATEVER THE INPUT: true; the input reads as it did. -/
def assembleTimesSpec : ChangeSpec := { name := "assembleTimes", fn := fun _ => fun
  | [d1, d2] => { results := [.lit (.bool true)], args := [d1, d2] }
  | _ => none }
def assembleTimesRow : OpenClaim := { program := "ytkbebiebaenbdaa", sum := "715c5bee2defb13bf97bb2c7899da7ad429e3c2f6669fe1fafb1f009b6b324a3", func := "torchon/torchonlaw10.AssembleTimes", spec := "assembleTimes", inPlace := ["internal/bytealg.IndexByteString", "internal/abi.NoEscape", "internal/bytealg.MakeNoZero"], unfollowed := true, recurses := true, apart := false }
def AssembleTimesSaid : Prop := assembleTimesRow.holds Try.pinned (OpenSpec.ofChange assembleTimesSpec)

/-- ITS FALSE NEIGHBOUR: 'it returns false'. Refute it at one input. -/
def assembleTimesWrong : ChangeSpec := { name := "assembleTimes", fn := fun _ => fun
  | [d1, d2] => { results := [.lit (.bool false)], args := [d1, d2] }
  | _ => none }
def AssembleTimesWrongFalsely : Prop := assembleTimesRow.holds Try.pinned (OpenSpec.ofChange assembleTimesWrong)

/-- 'torchonlaw10.AssemblePlaces': WHATEVER THE INPUT: true; the input reads as it did. -/
def assemblePlacesSpec : ChangeSpec := { name := "assemblePlaces", fn := fun _ => fun
  | [d1, d2, d3] => { results := [.lit (.bool true)], args := [d1, d2, d3] }
  | _ => none }
def assemblePlacesRow : OpenClaim := { program := "ytkbebiebaenbdaa", sum := "715c5bee2defb13bf97bb2c7899da7ad429e3c2f6669fe1fafb1f009b6b324a3", func := "torchon/torchonlaw10.AssemblePlaces", spec := "assemblePlaces", inPlace := ["internal/bytealg.IndexByteString", "internal/abi.NoEscape", "internal/bytealg.MakeNoZero"], unfollowed := true, recurses := true, apart := false }
def AssemblePlacesSaid : Prop := assemblePlacesRow.holds Try.pinned (OpenSpec.ofChange assemblePlacesSpec)

/-- ITS FALSE NEIGHBOUR: 'it returns false'. Refute it at one input. -/
def assemblePlacesWrong : ChangeSpec := { name := "assemblePlaces", fn := fun _ => fun
  | [d1, d2, d3] => { results := [.lit (.bool false)], args := [d1, d2, d3] }
  | _ => none }
def AssemblePlacesWrongFalsely : Prop := assemblePlacesRow.holds Try.pinned (OpenSpec.ofChange assemblePlacesWrong)

/-- 'torchonlaw10.AssembleExchange': WHATEVER THE INPUT: true; the input reads as it did. -/
def assembleExchangeSpec : ChangeSpec := { name := "assembleExchange", fn := fun _ => fun
  | [d] => { results := [.lit (.bool true)], args := [d] }
  | _ => none }
def assembleExchangeRow : OpenClaim := { program := "ytkbebiebaenbdaa", sum := "715c5bee2defb13bf97bb2c7899da7ad429e3c2f6669fe1fafb1f009b6b324a3", func := "torchon/torchonlaw10.AssembleExchange", spec := "assembleExchange", inPlace := ["internal/bytealg.IndexByteString", "internal/abi.NoEscape", "internal/bytealg.MakeNoZero"], unfollowed := true, recurses := true, apart := false }
def AssembleExchangeSaid : Prop := assembleExchangeRow.holds Try.pinned (OpenSpec.ofChange assembleExchangeSpec)

/-- ITS FALSE NEIGHBOUR: 'it returns false'. Refute it at one input. -/
def assembleExchangeWrong : ChangeSpec := { name := "assembleExchange", fn := fun _ => fun
  | [d] => { results := [.lit (.bool false)], args := [d] }
  | _ => none }
def AssembleExchangeWrongFalsely : Prop := assembleExchangeRow.holds Try.pinned (OpenSpec.ofChange assembleExchangeWrong)

/-- 'torchonlaw10.AssembleJoins': WHATEVER THE INPUT: true; the input reads as it did. -/
def assembleJoinsSpec : ChangeSpec := { name := "assembleJoins", fn := fun _ => fun
  | [d1, d2, d3] => { results := [.lit (.bool true)], args := [d1, d2, d3] }
  | _ => none }
def assembleJoinsRow : OpenClaim := { program := "ytkbebiebaenbdaa", sum := "715c5bee2defb13bf97bb2c7899da7ad429e3c2f6669fe1fafb1f009b6b324a3", func := "torchon/torchonlaw10.AssembleJoins", spec := "assembleJoins", inPlace := ["internal/bytealg.IndexByteString", "internal/abi.NoEscape", "internal/bytealg.MakeNoZero"], unfollowed := true, recurses := true, apart := false }
def AssembleJoinsSaid : Prop := assembleJoinsRow.holds Try.pinned (OpenSpec.ofChange assembleJoinsSpec)

/-- ITS FALSE NEIGHBOUR: 'it returns false'. Refute it at one input. -/
def assembleJoinsWrong : ChangeSpec := { name := "assembleJoins", fn := fun _ => fun
  | [d1, d2, d3] => { results := [.lit (.bool false)], args := [d1, d2, d3] }
  | _ => none }
def AssembleJoinsWrongFalsely : Prop := assembleJoinsRow.holds Try.pinned (OpenSpec.ofChange assembleJoinsWrong)

/-- 'torchonlaw10.AssembleGroups': WHATEVER THE INPUT: true; the input reads as it did. -/
def assembleGroupsSpec : ChangeSpec := { name := "assembleGroups", fn := fun _ => fun
  | [d1, d2, d3] => { results := [.lit (.bool true)], args := [d1, d2, d3] }
  | _ => none }
def assembleGroupsRow : OpenClaim := { program := "ytkbebiebaenbdaa", sum := "715c5bee2defb13bf97bb2c7899da7ad429e3c2f6669fe1fafb1f009b6b324a3", func := "torchon/torchonlaw10.AssembleGroups", spec := "assembleGroups", inPlace := ["internal/bytealg.IndexByteString", "internal/abi.NoEscape", "internal/bytealg.MakeNoZero"], unfollowed := true, recurses := true, apart := false }
def AssembleGroupsSaid : Prop := assembleGroupsRow.holds Try.pinned (OpenSpec.ofChange assembleGroupsSpec)

/-- ITS FALSE NEIGHBOUR: 'it returns false'. Refute it at one input. -/
def assembleGroupsWrong : ChangeSpec := { name := "assembleGroups", fn := fun _ => fun
  | [d1, d2, d3] => { results := [.lit (.bool false)], args := [d1, d2, d3] }
  | _ => none }
def AssembleGroupsWrongFalsely : Prop := assembleGroupsRow.holds Try.pinned (OpenSpec.ofChange assembleGroupsWrong)

/- THE SECOND FORM. 'bulk': how many values and letters a reading holds, each counted each time it is reached (what is shared counts as often as it is met; a slice's spare places count too). A statement '..UptoSaid' is the law's where the arguments, and the package variables that the reading takes, are together of bulk at most 1048576: NARROWER than '..Said'. Prove '..Said' where nothing that the law and all that it calls make is longer than what came in: it says more and counts as full. Else prove '..UptoSaid'. A law counts once. -/
mutual
def uptoBulk {H : Type} : DataW H → Nat
  | .lit (.string bytes) => bytes.length + 1
  | .lit _ => 1
  | .nil => 1
  | .ptr d => uptoBulk d + 1
  | .slice elems spare => uptoBulkAll elems + uptoBulkAll spare + 1
  | .agg parts => uptoBulkAll parts + 1
  | .iface _ d => uptoBulk d + 1
  | .map entries => uptoBulkEntries entries + 1
  | .held _ => 1
def uptoBulkAll {H : Type} : List (DataW H) → Nat
  | [] => 0
  | d :: r => uptoBulk d + uptoBulkAll r
def uptoBulkEntries {H : Type} : List (Lit × DataW H) → Nat
  | [] => 0
  | x :: r => uptoBulkEntry x + uptoBulkEntries r
def uptoBulkEntry {H : Type} : Lit × DataW H → Nat
  | (.string bytes, d) => bytes.length + uptoBulk d + 1
  | (_, d) => uptoBulk d + 1
 end
def uptoSmall : (H : Type) → List (DataW H) → Bool := fun _ ds => decide (uptoBulkAll ds ≤ 1048576)
def OpenSpec.upto (s : _root_.Go.ChangeSpec) : _root_.Go.OpenSpec := { _root_.Go.OpenSpec.ofChange s with cond := some uptoSmall }

/-- 'torchonlaw09.MotifsPass', WHERE WHAT IT READS IS OF BULK AT MOST 1048576: true; the input reads as it did. -/
def motifsPassUptoRow : OpenClaim := { program := "ytkbebiebaenbdaa", sum := "715c5bee2defb13bf97bb2c7899da7ad429e3c2f6669fe1fafb1f009b6b324a3", func := "torchon/torchonlaw09.MotifsPass", spec := "motifsPass", inPlace := ["internal/abi.NoEscape", "internal/bytealg.MakeNoZero"], unfollowed := true, recurses := true, apart := false, narrowed := true }
def MotifsPassUptoSaid : Prop := motifsPassUptoRow.holds Try.pinned (OpenSpec.upto motifsPassSpec)

/-- 'torchonlaw09.MotifsTurn', WHERE WHAT IT READS IS OF BULK AT MOST 1048576: true; the input reads as it did. -/
def motifsTurnUptoRow : OpenClaim := { program := "ytkbebiebaenbdaa", sum := "715c5bee2defb13bf97bb2c7899da7ad429e3c2f6669fe1fafb1f009b6b324a3", func := "torchon/torchonlaw09.MotifsTurn", spec := "motifsTurn", inPlace := ["internal/abi.NoEscape", "internal/bytealg.MakeNoZero"], unfollowed := true, recurses := true, apart := false, narrowed := true }
def MotifsTurnUptoSaid : Prop := motifsTurnUptoRow.holds Try.pinned (OpenSpec.upto motifsTurnSpec)

/-- 'torchonlaw10.AssembleTimes', WHERE WHAT IT READS IS OF BULK AT MOST 1048576: true; the input reads as it did. -/
def assembleTimesUptoRow : OpenClaim := { program := "ytkbebiebaenbdaa", sum := "715c5bee2defb13bf97bb2c7899da7ad429e3c2f6669fe1fafb1f009b6b324a3", func := "torchon/torchonlaw10.AssembleTimes", spec := "assembleTimes", inPlace := ["internal/bytealg.IndexByteString", "internal/abi.NoEscape", "internal/bytealg.MakeNoZero"], unfollowed := true, recurses := true, apart := false, narrowed := true }
def AssembleTimesUptoSaid : Prop := assembleTimesUptoRow.holds Try.pinned (OpenSpec.upto assembleTimesSpec)

/-- 'torchonlaw10.AssemblePlaces', WHERE WHAT IT READS IS OF BULK AT MOST 1048576: true; the input reads as it did. -/
def assemblePlacesUptoRow : OpenClaim := { program := "ytkbebiebaenbdaa", sum := "715c5bee2defb13bf97bb2c7899da7ad429e3c2f6669fe1fafb1f009b6b324a3", func := "torchon/torchonlaw10.AssemblePlaces", spec := "assemblePlaces", inPlace := ["internal/bytealg.IndexByteString", "internal/abi.NoEscape", "internal/bytealg.MakeNoZero"], unfollowed := true, recurses := true, apart := false, narrowed := true }
def AssemblePlacesUptoSaid : Prop := assemblePlacesUptoRow.holds Try.pinned (OpenSpec.upto assemblePlacesSpec)

/-- 'torchonlaw10.AssembleExchange', WHERE WHAT IT READS IS OF BULK AT MOST 1048576: true; the input reads as it did. -/
def assembleExchangeUptoRow : OpenClaim := { program := "ytkbebiebaenbdaa", sum := "715c5bee2defb13bf97bb2c7899da7ad429e3c2f6669fe1fafb1f009b6b324a3", func := "torchon/torchonlaw10.AssembleExchange", spec := "assembleExchange", inPlace := ["internal/bytealg.IndexByteString", "internal/abi.NoEscape", "internal/bytealg.MakeNoZero"], unfollowed := true, recurses := true, apart := false, narrowed := true }
def AssembleExchangeUptoSaid : Prop := assembleExchangeUptoRow.holds Try.pinned (OpenSpec.upto assembleExchangeSpec)

/-- 'torchonlaw10.AssembleJoins', WHERE WHAT IT READS IS OF BULK AT MOST 1048576: true; the input reads as it did. -/
def assembleJoinsUptoRow : OpenClaim := { program := "ytkbebiebaenbdaa", sum := "715c5bee2defb13bf97bb2c7899da7ad429e3c2f6669fe1fafb1f009b6b324a3", func := "torchon/torchonlaw10.AssembleJoins", spec := "assembleJoins", inPlace := ["internal/bytealg.IndexByteString", "internal/abi.NoEscape", "internal/bytealg.MakeNoZero"], unfollowed := true, recurses := true, apart := false, narrowed := true }
def AssembleJoinsUptoSaid : Prop := assembleJoinsUptoRow.holds Try.pinned (OpenSpec.upto assembleJoinsSpec)

/-- 'torchonlaw10.AssembleGroups', WHERE WHAT IT READS IS OF BULK AT MOST 1048576: true; the input reads as it did. -/
def assembleGroupsUptoRow : OpenClaim := { program := "ytkbebiebaenbdaa", sum := "715c5bee2defb13bf97bb2c7899da7ad429e3c2f6669fe1fafb1f009b6b324a3", func := "torchon/torchonlaw10.AssembleGroups", spec := "assembleGroups", inPlace := ["internal/bytealg.IndexByteString", "internal/abi.NoEscape", "internal/bytealg.MakeNoZero"], unfollowed := true, recurses := true, apart := false, narrowed := true }
def AssembleGroupsUptoSaid : Prop := assembleGroupsUptoRow.holds Try.pinned (OpenSpec.upto assembleGroupsSpec)

end Rows
end Go.Proofs.Ytkbebiebaenbdaa
