/-
  No cell of these rows narrows 'for every input' (looked for: loops, veiled, ifaces, maps, wideKeys, modest, calm, conditions, laid).
  DERIVED. THE GIVEN ROWS OF THIS SEAT. 9 by the template 'for every input the law returns true; each argument reads behind the call as it read before'; 0 by the template 'total and deterministic' (their statements: YthaljeccdeajoaaTotals.lean).
  GIVEN WITH THE SEED: the statements are not yours to turn. If you find one false, say at which input.
  Laid BY PROGRAM, IN A SANDBOX (cutbox-rows.mjs): the forced cells as the released guide's own fill.sh prints them over the translation 0fa8f62a903d2c73… (all of the seat's roots in one cut). By AI agents, Wed Nov 11 2026. No macro, syntax, notation, axiom, sorry.
-/
import Derived.Test.YthaljeccdeajoaaChecked
import GoSem.Claim
import GoSem.ClaimJoined
import GoSem.ClaimMapViews
import Derived.JoinedTies
import Derived.KernelRfl
namespace Go.Proofs.Ythaljeccdeajoaa
/- THE CELL 'sum', in the pinned program and in every row, IS THE sha256 OF THE DUMP (.gsa) THAT YthaljeccdeajoaaProg.lean LOADS. Nothing in Lean hashes anything: it is a label: what it is worth is what the hold of that sum in a sandbox is worth. -/
noncomputable def Try.pinned : Pinned := { name := "ythaljeccdeajoaa", sum := "0fa8f62a903d2c7376b1254e229ad38dbf4973266bebf0ba62e8d61de6f6ea2d", checked := Try.checked }
namespace Rows
def none {H : Type} : Left H := { results := [], args := [] }

/-- 'torchonlaw18.LooseHolds': WHATEVER THE INPUT: true; the input reads as it did. -/
def looseHoldsSpec : ChangeSpec := { name := "looseHolds", fn := fun _ => fun
  | [d1, d2] => { results := [.lit (.bool true)], args := [d1, d2] }
  | _ => none }
def looseHoldsRow : OpenClaim := { program := "ythaljeccdeajoaa", sum := "0fa8f62a903d2c7376b1254e229ad38dbf4973266bebf0ba62e8d61de6f6ea2d", func := "torchon/torchonlaw18.LooseHolds", spec := "looseHolds", inPlace := ["internal/bytealg.IndexByteString"], unfollowed := true, recurses := true, apart := false }
def LooseHoldsSaid : Prop := looseHoldsRow.holds Try.pinned (OpenSpec.ofChange looseHoldsSpec)

/-- ITS FALSE NEIGHBOUR: 'it returns false'. Refute it at one input. -/
def looseHoldsWrong : ChangeSpec := { name := "looseHolds", fn := fun _ => fun
  | [d1, d2] => { results := [.lit (.bool false)], args := [d1, d2] }
  | _ => none }
def LooseHoldsWrongFalsely : Prop := looseHoldsRow.holds Try.pinned (OpenSpec.ofChange looseHoldsWrong)

/-- 'torchonlaw09.MotifsTurn': WHATEVER THE INPUT: true; the input reads as it did. -/
def motifsTurnSpec : ChangeSpec := { name := "motifsTurn", fn := fun _ => fun
  | [d1, d2, d3] => { results := [.lit (.bool true)], args := [d1, d2, d3] }
  | _ => none }
def motifsTurnRow : OpenClaim := { program := "ythaljeccdeajoaa", sum := "0fa8f62a903d2c7376b1254e229ad38dbf4973266bebf0ba62e8d61de6f6ea2d", func := "torchon/torchonlaw09.MotifsTurn", spec := "motifsTurn", inPlace := ["internal/abi.NoEscape", "internal/bytealg.MakeNoZero"], unfollowed := true, recurses := true, apart := false }
def MotifsTurnSaid : Prop := motifsTurnRow.holds Try.pinned (OpenSpec.ofChange motifsTurnSpec)

/-- ITS FALSE NEIGHBOUR: 'it returns false'. Refute it at one input. -/
def motifsTurnWrong : ChangeSpec := { name := "motifsTurn", fn := fun _ => fun
  | [d1, d2, d3] => { results := [.lit (.bool false)], args := [d1, d2, d3] }
  | _ => none }
def MotifsTurnWrongFalsely : Prop := motifsTurnRow.holds Try.pinned (OpenSpec.ofChange motifsTurnWrong)

/-- 'torchonlaw09.MotifsPlain': WHATEVER THE INPUT: true; the input reads as it did. -/
def motifsPlainSpec : ChangeSpec := { name := "motifsPlain", fn := fun _ => fun
  | [d1, d2] => { results := [.lit (.bool true)], args := [d1, d2] }
  | _ => none }
def motifsPlainRow : OpenClaim := { program := "ythaljeccdeajoaa", sum := "0fa8f62a903d2c7376b1254e229ad38dbf4973266bebf0ba62e8d61de6f6ea2d", func := "torchon/torchonlaw09.MotifsPlain", spec := "motifsPlain", inPlace := ["internal/abi.NoEscape", "internal/bytealg.MakeNoZero"], unfollowed := true, recurses := true, apart := false }
def MotifsPlainSaid : Prop := motifsPlainRow.holds Try.pinned (OpenSpec.ofChange motifsPlainSpec)

/-- ITS FALSE NEIGHBOUR: 'it returns false'. Refute it at one input. -/
def motifsPlainWrong : ChangeSpec := { name := "motifsPlain", fn := fun _ => fun
  | [d1, d2] => { results := [.lit (.bool false)], args := [d1, d2] }
  | _ => none }
def MotifsPlainWrongFalsely : Prop := motifsPlainRow.holds Try.pinned (OpenSpec.ofChange motifsPlainWrong)

/-- 'torchonlaw10.AssemblePlaces': WHATEVER THE INPUT: true; the input reads as it did. -/
def assemblePlacesSpec : ChangeSpec := { name := "assemblePlaces", fn := fun _ => fun
  | [d1, d2, d3] => { results := [.lit (.bool true)], args := [d1, d2, d3] }
  | _ => none }
def assemblePlacesRow : OpenClaim := { program := "ythaljeccdeajoaa", sum := "0fa8f62a903d2c7376b1254e229ad38dbf4973266bebf0ba62e8d61de6f6ea2d", func := "torchon/torchonlaw10.AssemblePlaces", spec := "assemblePlaces", inPlace := ["internal/bytealg.IndexByteString", "internal/abi.NoEscape", "internal/bytealg.MakeNoZero"], unfollowed := true, recurses := true, apart := false }
def AssemblePlacesSaid : Prop := assemblePlacesRow.holds Try.pinned (OpenSpec.ofChange assemblePlacesSpec)

/-- ITS FALSE NEIGHBOUR: 'it returns false'. Refute it at one input. -/
def assemblePlacesWrong : ChangeSpec := { name := "assemblePlaces", fn := fun _ => fun
  | [d1, d2, d3] => { results := [.lit (.bool false)], args := [d1, d2, d3] }
  | _ => none }
def AssemblePlacesWrongFalsely : Prop := assemblePlacesRow.holds Try.pinned (OpenSpec.ofChange assemblePlacesWrong)

/-- 'torchonlaw10.AssembleJoins': WHATEVER THE INPUT: true; the input reads as it did. -/
def assembleJoinsSpec : ChangeSpec := { name := "assembleJoins", fn := fun _ => fun
  | [d1, d2, d3] => { results := [.lit (.bool true)], args := [d1, d2, d3] }
  | _ => none }
def assembleJoinsRow : OpenClaim := { program := "ythaljeccdeajoaa", sum := "0fa8f62a903d2c7376b1254e229ad38dbf4973266bebf0ba62e8d61de6f6ea2d", func := "torchon/torchonlaw10.AssembleJoins", spec := "assembleJoins", inPlace := ["internal/bytealg.IndexByteString", "internal/abi.NoEscape", "internal/bytealg.MakeNoZero"], unfollowed := true, recurses := true, apart := false }
def AssembleJoinsSaid : Prop := assembleJoinsRow.holds Try.pinned (OpenSpec.ofChange assembleJoinsSpec)

/-- ITS FALSE NEIGHBOUR: 'it returns false'. Refute it at one input. -/
def assembleJoinsWrong : ChangeSpec := { name := "assembleJoins", fn := fun _ => fun
  | [d1, d2, d3] => { results := [.lit (.bool false)], args := [d1, d2, d3] }
  | _ => none }
def AssembleJoinsWrongFalsely : Prop := assembleJoinsRow.holds Try.pinned (OpenSpec.ofChange assembleJoinsWrong)

/-- 'torchonlaw30.CountsSums': WHATEVER THE INPUT: true; the input reads as it did. -/
def countsSumsSpec : ChangeSpec := { name := "countsSums", fn := fun _ => fun
  | [d] => { results := [.lit (.bool true)], args := [d] }
  | _ => none }
def countsSumsRow : OpenClaim := { program := "ythaljeccdeajoaa", sum := "0fa8f62a903d2c7376b1254e229ad38dbf4973266bebf0ba62e8d61de6f6ea2d", func := "torchon/torchonlaw30.CountsSums", spec := "countsSums", inPlace := ["internal/bytealg.IndexByteString"], unfollowed := true, recurses := true, apart := false }
def CountsSumsSaid : Prop := countsSumsRow.holds Try.pinned (OpenSpec.ofChange countsSumsSpec)

/-- ITS FALSE NEIGHBOUR: 'it returns false'. Refute it at one input. -/
def countsSumsWrong : ChangeSpec := { name := "countsSums", fn := fun _ => fun
  | [d] => { results := [.lit (.bool false)], args := [d] }
  | _ => none }
def CountsSumsWrongFalsely : Prop := countsSumsRow.holds Try.pinned (OpenSpec.ofChange countsSumsWrong)

/-- 'torchonlaw30.CountsWork': WHATEVER THE INPUT: true; the input reads as it did. -/
def countsWorkSpec : ChangeSpec := { name := "countsWork", fn := fun _ => fun
  | [d1, d2] => { results := [.lit (.bool true)], args := [d1, d2] }
  | _ => none }
def countsWorkRow : OpenClaim := { program := "ythaljeccdeajoaa", sum := "0fa8f62a903d2c7376b1254e229ad38dbf4973266bebf0ba62e8d61de6f6ea2d", func := "torchon/torchonlaw30.CountsWork", spec := "countsWork", inPlace := ["internal/bytealg.IndexByteString"], unfollowed := true, recurses := true, apart := false }
def CountsWorkSaid : Prop := countsWorkRow.holds Try.pinned (OpenSpec.ofChange countsWorkSpec)

/-- ITS FALSE NEIGHBOUR: 'it returns false'. Refute it at one input. -/
def countsWorkWrong : ChangeSpec := { name := "countsWork", fn := fun _ => fun
  | [d1, d2] => { results := [.lit (.bool false)], args := [d1, d2] }
  | _ => none }
def CountsWorkWrongFalsely : Prop := countsWorkRow.holds Try.pinned (OpenSpec.ofChange countsWorkWrong)

/-- 'torchonlaw30.CountsAdd': WHATEVER THE INPUT: true; the input reads as it did. -/
def countsAddSpec : ChangeSpec := { name := "countsAdd", fn := fun _ => fun
  | [d1, d2, d3] => { results := [.lit (.bool true)], args := [d1, d2, d3] }
  | _ => none }
def countsAddRow : OpenClaim := { program := "ythaljeccdeajoaa", sum := "0fa8f62a903d2c7376b1254e229ad38dbf4973266bebf0ba62e8d61de6f6ea2d", func := "torchon/torchonlaw30.CountsAdd", spec := "countsAdd", inPlace := ["internal/bytealg.IndexByteString"], unfollowed := true, recurses := true, apart := false }
def CountsAddSaid : Prop := countsAddRow.holds Try.pinned (OpenSpec.ofChange countsAddSpec)

/-- ITS FALSE NEIGHBOUR: 'it returns false'. Refute it at one input. -/
def countsAddWrong : ChangeSpec := { name := "countsAdd", fn := fun _ => fun
  | [d1, d2, d3] => { results := [.lit (.bool false)], args := [d1, d2, d3] }
  | _ => none }
def CountsAddWrongFalsely : Prop := countsAddRow.holds Try.pinned (OpenSpec.ofChange countsAddWrong)

/-- 'torchonlaw30.CountsOrder': WHATEVER THE INPUT: true; the input reads as it did. -/
def countsOrderSpec : ChangeSpec := { name := "countsOrder", fn := fun _ => fun
  | [d1, d2, d3] => { results := [.lit (.bool true)], args := [d1, d2, d3] }
  | _ => none }
def countsOrderRow : OpenClaim := { program := "ythaljeccdeajoaa", sum := "0fa8f62a903d2c7376b1254e229ad38dbf4973266bebf0ba62e8d61de6f6ea2d", func := "torchon/torchonlaw30.CountsOrder", spec := "countsOrder", inPlace := ["internal/bytealg.IndexByteString"], unfollowed := true, recurses := true, apart := false }
def CountsOrderSaid : Prop := countsOrderRow.holds Try.pinned (OpenSpec.ofChange countsOrderSpec)

/-- ITS FALSE NEIGHBOUR: 'it returns false'. Refute it at one input. -/
def countsOrderWrong : ChangeSpec := { name := "countsOrder", fn := fun _ => fun
  | [d1, d2, d3] => { results := [.lit (.bool false)], args := [d1, d2, d3] }
  | _ => none }
def CountsOrderWrongFalsely : Prop := countsOrderRow.holds Try.pinned (OpenSpec.ofChange countsOrderWrong)

/- THE SECOND FORM. 'bulk': how many values and letters a reading holds, each counted each time it is reached (what is shared counts as often as it is met; a slice's spare places count too). A statement '..UptoSaid' is the law's where the arguments, and the package variables that the reading takes, are together of bulk at most 1048576: NARROWER than '..Said'. Prove '..Said' where nothing that the law and all that it calls make is longer than what came in: it says more and counts as full. Else prove '..UptoSaid'. A law counts once. -/
mutual
def uptoBulk {H : Type} : DataW H → Nat
  | .lit (.string bytes) => bytes.length + 1
  | .lit _ => 1
  | .nil => 1
  | .ptr d => uptoBulk d + 1
  | .slice elems spare => uptoBulkAll elems + uptoBulkAll spare + 1
  | .agg parts => uptoBulkAll parts + 1
  | .iface _ d => uptoBulk d + 1
  | .map entries => uptoBulkEntries entries + 1
  | .held _ => 1
def uptoBulkAll {H : Type} : List (DataW H) → Nat
  | [] => 0
  | d :: r => uptoBulk d + uptoBulkAll r
def uptoBulkEntries {H : Type} : List (Lit × DataW H) → Nat
  | [] => 0
  | x :: r => uptoBulkEntry x + uptoBulkEntries r
def uptoBulkEntry {H : Type} : Lit × DataW H → Nat
  | (.string bytes, d) => bytes.length + uptoBulk d + 1
  | (_, d) => uptoBulk d + 1
 end
def uptoSmall : (H : Type) → List (DataW H) → Bool := fun _ ds => decide (uptoBulkAll ds ≤ 1048576)
def OpenSpec.upto (s : _root_.Go.ChangeSpec) : _root_.Go.OpenSpec := { _root_.Go.OpenSpec.ofChange s with cond := some uptoSmall }

/-- 'torchonlaw18.LooseHolds', WHERE WHAT IT READS IS OF BULK AT MOST 1048576: true; the input reads as it did. -/
def looseHoldsUptoRow : OpenClaim := { program := "ythaljeccdeajoaa", sum := "0fa8f62a903d2c7376b1254e229ad38dbf4973266bebf0ba62e8d61de6f6ea2d", func := "torchon/torchonlaw18.LooseHolds", spec := "looseHolds", inPlace := ["internal/bytealg.IndexByteString"], unfollowed := true, recurses := true, apart := false, narrowed := true }
def LooseHoldsUptoSaid : Prop := looseHoldsUptoRow.holds Try.pinned (OpenSpec.upto looseHoldsSpec)

/-- 'torchonlaw09.MotifsTurn', WHERE WHAT IT READS IS OF BULK AT MOST 1048576: true; the input reads as it did. -/
def motifsTurnUptoRow : OpenClaim := { program := "ythaljeccdeajoaa", sum := "0fa8f62a903d2c7376b1254e229ad38dbf4973266bebf0ba62e8d61de6f6ea2d", func := "torchon/torchonlaw09.MotifsTurn", spec := "motifsTurn", inPlace := ["internal/abi.NoEscape", "internal/bytealg.MakeNoZero"], unfollowed := true, recurses := true, apart := false, narrowed := true }
def MotifsTurnUptoSaid : Prop := motifsTurnUptoRow.holds Try.pinned (OpenSpec.upto motifsTurnSpec)

/-- 'torchonlaw09.MotifsPlain', WHERE WHAT IT READS IS OF BULK AT MOST 1048576: true; the input reads as it did. -/
def motifsPlainUptoRow : OpenClaim := { program := "ythaljeccdeajoaa", sum := "0fa8f62a903d2c7376b1254e229ad38dbf4973266bebf0ba62e8d61de6f6ea2d", func := "torchon/torchonlaw09.MotifsPlain", spec := "motifsPlain", inPlace := ["internal/abi.NoEscape", "internal/bytealg.MakeNoZero"], unfollowed := true, recurses := true, apart := false, narrowed := true }
def MotifsPlainUptoSaid : Prop := motifsPlainUptoRow.holds Try.pinned (OpenSpec.upto motifsPlainSpec)

/-- 'torchonlaw10.AssemblePlaces', WHERE WHAT IT READS IS OF BULK AT MOST 1048576: true; the input reads as it did. -/
def assemblePlacesUptoRow : OpenClaim := { program := "ythaljeccdeajoaa", sum := "0fa8f62a903d2c7376b1254e229ad38dbf4973266bebf0ba62e8d61de6f6ea2d", func := "torchon/torchonlaw10.AssemblePlaces", spec := "assemblePlaces", inPlace := ["internal/bytealg.IndexByteString", "internal/abi.NoEscape", "internal/bytealg.MakeNoZero"], unfollowed := true, recurses := true, apart := false, narrowed := true }
def AssemblePlacesUptoSaid : Prop := assemblePlacesUptoRow.holds Try.pinned (OpenSpec.upto assemblePlacesSpec)

/-- 'torchonlaw10.AssembleJoins', WHERE WHAT IT READS IS OF BULK AT MOST 1048576: true; the input reads as it did. -/
def assembleJoinsUptoRow : OpenClaim := { program := "ythaljeccdeajoaa", sum := "0fa8f62a903d2c7376b1254e229ad38dbf4973266bebf0ba62e8d61de6f6ea2d", func := "torchon/torchonlaw10.AssembleJoins", spec := "assembleJoins", inPlace := ["internal/bytealg.IndexByteString", "internal/abi.NoEscape", "internal/bytealg.MakeNoZero"], unfollowed := true, recurses := true, apart := false, narrowed := true }
def AssembleJoinsUptoSaid : Prop := assembleJoinsUptoRow.holds Try.pinned (OpenSpec.upto assembleJoinsSpec)

/-- 'torchonlaw30.CountsSums', WHERE WHAT IT READS IS OF BULK AT MOST 1048576: true; the input reads as it did. -/
def countsSumsUptoRow : OpenClaim := { program := "ythaljeccdeajoaa", sum := "0fa8f62a903d2c7376b1254e229ad38dbf4973266bebf0ba62e8d61de6f6ea2d", func := "torchon/torchonlaw30.CountsSums", spec := "countsSums", inPlace := ["internal/bytealg.IndexByteString"], unfollowed := true, recurses := true, apart := false, narrowed := true }
def CountsSumsUptoSaid : Prop := countsSumsUptoRow.holds Try.pinned (OpenSpec.upto countsSumsSpec)

/-- 'torchonlaw30.CountsWork', WHERE WHAT IT READS IS OF BULK AT MOST 1048576: true; the input reads as it did. -/
def countsWorkUptoRow : OpenClaim := { program := "ythaljeccdeajoaa", sum := "0fa8f62a903d2c7376b1254e229ad38dbf4973266bebf0ba62e8d61de6f6ea2d", func := "torchon/torchonlaw30.CountsWork", spec := "countsWork", inPlace := ["internal/bytealg.IndexByteString"], unfollowed := true, recurses := true, apart := false, narrowed := true }
def CountsWorkUptoSaid : Prop := countsWorkUptoRow.holds Try.pinned (OpenSpec.upto countsWorkSpec)

/-- 'torchonlaw30.CountsAdd', WHERE WHAT IT READS IS OF BULK AT MOST 1048576: true; the input reads as it did. -/
def countsAddUptoRow : OpenClaim := { program := "ythaljeccdeajoaa", sum := "0fa8f62a903d2c7376b1254e229ad38dbf4973266bebf0ba62e8d61de6f6ea2d", func := "torchon/torchonlaw30.CountsAdd", spec := "countsAdd", inPlace := ["internal/bytealg.IndexByteString"], unfollowed := true, recurses := true, apart := false, narrowed := true }
def CountsAddUptoSaid : Prop := countsAddUptoRow.holds Try.pinned (OpenSpec.upto countsAddSpec)

/-- 'torchonlaw30.CountsOrder', WHERE WHAT IT READS IS OF BULK AT MOST 1048576: true; the input reads as it did. -/
def countsOrderUptoRow : OpenClaim := { program := "ythaljeccdeajoaa", sum := "0fa8f62a903d2c7376b1254e229ad38dbf4973266bebf0ba62e8d61de6f6ea2d", func := "torchon/torchonlaw30.CountsOrder", spec := "countsOrder", inPlace := ["internal/bytealg.IndexByteString"], unfollowed := true, recurses := true, apart := false, narrowed := true }
def CountsOrderUptoSaid : Prop := countsOrderUptoRow.holds Try.pinned (OpenSpec.upto countsOrderSpec)

end Rows
end Go.Proofs.Ythaljeccdeajoaa
