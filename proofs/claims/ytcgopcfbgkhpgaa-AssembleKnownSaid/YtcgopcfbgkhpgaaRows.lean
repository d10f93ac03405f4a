/-
  No cell of these rows narrows 'for every input' (looked for: loops, veiled, ifaces, maps, wideKeys, modest, calm, conditions, laid).
  DERIVED. THE GIVEN ROWS OF THIS SEAT. 5 by the template 'for every input the law returns true; each argument reads behind the call as it read before'; 0 by the template 'total and deterministic' (their statements: YtcgopcfbgkhpgaaTotals.lean).
  GIVEN WITH THE SEED: the statements are not yours to turn. If you find one false, say at which input.
  Laid BY PROGRAM, IN A SANDBOX (cutbox-rows.mjs): the forced cells as the released guide's own fill.sh prints them over the translation cb0f70421f6e1f30… (all of the seat's roots in one cut). By AI agents, Wed Nov 11 2026. No macro, syntax, notation, axiom, sorry.
-/
import Derived.Test.YtcgopcfbgkhpgaaChecked
import GoSem.Claim
import GoSem.ClaimJoined
import GoSem.ClaimMapViews
import Derived.JoinedTies
import Derived.KernelRfl
namespace Go.Proofs.Ytcgopcfbgkhpgaa
/- THE CELL 'sum', in the pinned program and in every row, IS THE sha256 OF THE DUMP (.gsa) THAT YtcgopcfbgkhpgaaProg.lean LOADS. Nothing in Lean hashes anything: it is a label: what it is worth is what the hold of that sum in a sandbox is worth. -/
noncomputable def Try.pinned : Pinned := { name := "ytcgopcfbgkhpgaa", sum := "cb0f70421f6e1f30256349d9cd9db2ae1a861d8ca459853d047a8c7dccc11b5b", checked := Try.checked }
namespace Rows
def none {H : Type} : Left H := { results := [], args := [] }

/-- 'torchonlaw09.MotifsKnown': WHATEVER THE INPUT: true; the input reads as it did. -/
def motifsKnownSpec : ChangeSpec := { name := "motifsKnown", fn := fun _ => fun
  | [] => { results := [.lit (.bool true)], args := [] }
  | _ => none }
def motifsKnownRow : OpenClaim := { program := "ytcgopcfbgkhpgaa", sum := "cb0f70421f6e1f30256349d9cd9db2ae1a861d8ca459853d047a8c7dccc11b5b", func := "torchon/torchonlaw09.MotifsKnown", spec := "motifsKnown", inPlace := ["internal/abi.NoEscape", "internal/bytealg.MakeNoZero"], unfollowed := true, recurses := true, apart := false }
def MotifsKnownSaid : Prop := motifsKnownRow.holds Try.pinned (OpenSpec.ofChange motifsKnownSpec)

/-- ITS FALSE NEIGHBOUR: 'it returns false'. Refute it at one input. -/
def motifsKnownWrong : ChangeSpec := { name := "motifsKnown", fn := fun _ => fun
  | [] => { results := [.lit (.bool false)], args := [] }
  | _ => none }
def MotifsKnownWrongFalsely : Prop := motifsKnownRow.holds Try.pinned (OpenSpec.ofChange motifsKnownWrong)

/-- 'torchonlaw26.CompareKnown': WHATEVER THE INPUT: true; the input reads as it did. -/
def compareKnownSpec : ChangeSpec := { name := "compareKnown", fn := fun _ => fun
  | [] => { results := [.lit (.bool true)], args := [] }
  | _ => none }
def compareKnownRow : OpenClaim := { program := "ytcgopcfbgkhpgaa", sum := "cb0f70421f6e1f30256349d9cd9db2ae1a861d8ca459853d047a8c7dccc11b5b", func := "torchon/torchonlaw26.CompareKnown", spec := "compareKnown", unfollowed := true, recurses := true, apart := false }
def CompareKnownSaid : Prop := compareKnownRow.holds Try.pinned (OpenSpec.ofChange compareKnownSpec)

/-- ITS FALSE NEIGHBOUR: 'it returns false'. Refute it at one input. -/
def compareKnownWrong : ChangeSpec := { name := "compareKnown", fn := fun _ => fun
  | [] => { results := [.lit (.bool false)], args := [] }
  | _ => none }
def CompareKnownWrongFalsely : Prop := compareKnownRow.holds Try.pinned (OpenSpec.ofChange compareKnownWrong)

/-- 'torchonlaw10.AssembleKnown': WHATEVER THE INPUT: true; the input reads as it did. -/
def assembleKnownSpec : ChangeSpec := { name := "assembleKnown", fn := fun _ => fun
  | [] => { results := [.lit (.bool true)], args := [] }
  | _ => none }
def assembleKnownRow : OpenClaim := { program := "ytcgopcfbgkhpgaa", sum := "cb0f70421f6e1f30256349d9cd9db2ae1a861d8ca459853d047a8c7dccc11b5b", func := "torchon/torchonlaw10.AssembleKnown", spec := "assembleKnown", inPlace := ["internal/bytealg.IndexByteString", "internal/abi.NoEscape", "internal/bytealg.MakeNoZero"], unfollowed := true, recurses := true, apart := false }
def AssembleKnownSaid : Prop := assembleKnownRow.holds Try.pinned (OpenSpec.ofChange assembleKnownSpec)

/-- ITS FALSE NEIGHBOUR: 'it returns false'. Refute it at one input. -/
def assembleKnownWrong : ChangeSpec := { name := "assembleKnown", fn := fun _ => fun
  | [] => { results := [.lit (.bool false)], args := [] }
  | _ => none }
def AssembleKnownWrongFalsely : Prop := assembleKnownRow.holds Try.pinned (OpenSpec.ofChange assembleKnownWrong)

/-- 'torchonlaw02.BraidsKnown': WHATEVER THE INPUT: true; the input reads as it did. -/
def braidsKnownSpec : ChangeSpec := { name := "braidsKnown", fn := fun _ => fun
  | [] => { results := [.lit (.bool true)], args := [] }
  | _ => none }
def braidsKnownRow : OpenClaim := { program := "ytcgopcfbgkhpgaa", sum := "cb0f70421f6e1f30256349d9cd9db2ae1a861d8ca459853d047a8c7dccc11b5b", func := "torchon/torchonlaw02.BraidsKnown", spec := "braidsKnown", unfollowed := true, recurses := true, apart := false }
def BraidsKnownSaid : Prop := braidsKnownRow.holds Try.pinned (OpenSpec.ofChange braidsKnownSpec)

/-- ITS FALSE NEIGHBOUR: 'it returns false'. Refute it at one input. -/
def braidsKnownWrong : ChangeSpec := { name := "braidsKnown", fn := fun _ => fun
  | [] => { results := [.lit (.bool false)], args := [] }
  | _ => none }
def BraidsKnownWrongFalsely : Prop := braidsKnownRow.holds Try.pinned (OpenSpec.ofChange braidsKnownWrong)

/-- 'torchonlaw18.LooseKnown': WHATEVER THE INPUT: true; the input reads as it did. -/
def looseKnownSpec : ChangeSpec := { name := "looseKnown", fn := fun _ => fun
  | [] => { results := [.lit (.bool true)], args := [] }
  | _ => none }
def looseKnownRow : OpenClaim := { program := "ytcgopcfbgkhpgaa", sum := "cb0f70421f6e1f30256349d9cd9db2ae1a861d8ca459853d047a8c7dccc11b5b", func := "torchon/torchonlaw18.LooseKnown", spec := "looseKnown", inPlace := ["internal/bytealg.IndexByteString"], unfollowed := true, recurses := true, apart := false }
def LooseKnownSaid : Prop := looseKnownRow.holds Try.pinned (OpenSpec.ofChange looseKnownSpec)

/-- ITS FALSE NEIGHBOUR: 'it returns false'. Refute it at one input. -/
def looseKnownWrong : ChangeSpec := { name := "looseKnown", fn := fun _ => fun
  | [] => { results := [.lit (.bool false)], args := [] }
  | _ => none }
def LooseKnownWrongFalsely : Prop := looseKnownRow.holds Try.pinned (OpenSpec.ofChange looseKnownWrong)

/- THE SECOND FORM. 'bulk': how many values and letters a reading holds, each counted each time it is reached (what is shared counts as often as it is met; a slice's spare places count too). A statement '..UptoSaid' is the law's where the arguments, and the package variables that the reading takes, are together of bulk at most 1048576: NARROWER than '..Said'. Prove '..Said' where nothing that the law and all that it calls make is longer than what came in: it says more and counts as full. Else prove '..UptoSaid'. A law counts once. -/
mutual
def uptoBulk {H : Type} : DataW H → Nat
  | .lit (.string bytes) => bytes.length + 1
  | .lit _ => 1
  | .nil => 1
  | .ptr d => uptoBulk d + 1
  | .slice elems spare => uptoBulkAll elems + uptoBulkAll spare + 1
  | .agg parts => uptoBulkAll parts + 1
  | .iface _ d => uptoBulk d + 1
  | .map entries => uptoBulkEntries entries + 1
  | .held _ => 1
def uptoBulkAll {H : Type} : List (DataW H) → Nat
  | [] => 0
  | d :: r => uptoBulk d + uptoBulkAll r
def uptoBulkEntries {H : Type} : List (Lit × DataW H) → Nat
  | [] => 0
  | x :: r => uptoBulkEntry x + uptoBulkEntries r
def uptoBulkEntry {H : Type} : Lit × DataW H → Nat
  | (.string bytes, d) => bytes.length + uptoBulk d + 1
  | (_, d) => uptoBulk d + 1
 end
def uptoSmall : (H : Type) → List (DataW H) → Bool := fun _ ds => decide (uptoBulkAll ds ≤ 1048576)
def OpenSpec.upto (s : _root_.Go.ChangeSpec) : _root_.Go.OpenSpec := { _root_.Go.OpenSpec.ofChange s with cond := some uptoSmall }

/-- 'torchonlaw09.MotifsKnown', WHERE WHAT IT READS IS OF BULK AT MOST 1048576: true; the input reads as it did. -/
def motifsKnownUptoRow : OpenClaim := { program := "ytcgopcfbgkhpgaa", sum := "cb0f70421f6e1f30256349d9cd9db2ae1a861d8ca459853d047a8c7dccc11b5b", func := "torchon/torchonlaw09.MotifsKnown", spec := "motifsKnown", inPlace := ["internal/abi.NoEscape", "internal/bytealg.MakeNoZero"], unfollowed := true, recurses := true, apart := false, narrowed := true }
def MotifsKnownUptoSaid : Prop := motifsKnownUptoRow.holds Try.pinned (OpenSpec.upto motifsKnownSpec)

/-- 'torchonlaw26.CompareKnown', WHERE WHAT IT READS IS OF BULK AT MOST 1048576: true; the input reads as it did. -/
def compareKnownUptoRow : OpenClaim := { program := "ytcgopcfbgkhpgaa", sum := "cb0f70421f6e1f30256349d9cd9db2ae1a861d8ca459853d047a8c7dccc11b5b", func := "torchon/torchonlaw26.CompareKnown", spec := "compareKnown", unfollowed := true, recurses := true, apart := false, narrowed := true }
def CompareKnownUptoSaid : Prop := compareKnownUptoRow.holds Try.pinned (OpenSpec.upto compareKnownSpec)

/-- 'torchonlaw10.AssembleKnown', WHERE WHAT IT READS IS OF BULK AT MOST 1048576: true; the input reads as it did. -/
def assembleKnownUptoRow : OpenClaim := { program := "ytcgopcfbgkhpgaa", sum := "cb0f70421f6e1f30256349d9cd9db2ae1a861d8ca459853d047a8c7dccc11b5b", func := "torchon/torchonlaw10.AssembleKnown", spec := "assembleKnown", inPlace := ["internal/bytealg.IndexByteString", "internal/abi.NoEscape", "internal/bytealg.MakeNoZero"], unfollowed := true, recurses := true, apart := false, narrowed := true }
def AssembleKnownUptoSaid : Prop := assembleKnownUptoRow.holds Try.pinned (OpenSpec.upto assembleKnownSpec)

/-- 'torchonlaw02.BraidsKnown', WHERE WHAT IT READS IS OF BULK AT MOST 1048576: true; the input reads as it did. -/
def braidsKnownUptoRow : OpenClaim := { program := "ytcgopcfbgkhpgaa", sum := "cb0f70421f6e1f30256349d9cd9db2ae1a861d8ca459853d047a8c7dccc11b5b", func := "torchon/torchonlaw02.BraidsKnown", spec := "braidsKnown", unfollowed := true, recurses := true, apart := false, narrowed := true }
def BraidsKnownUptoSaid : Prop := braidsKnownUptoRow.holds Try.pinned (OpenSpec.upto braidsKnownSpec)

/-- 'torchonlaw18.LooseKnown', WHERE WHAT IT READS IS OF BULK AT MOST 1048576: true; the input reads as it did. -/
def looseKnownUptoRow : OpenClaim := { program := "ytcgopcfbgkhpgaa", sum := "cb0f70421f6e1f30256349d9cd9db2ae1a861d8ca459853d047a8c7dccc11b5b", func := "torchon/torchonlaw18.LooseKnown", spec := "looseKnown", inPlace := ["internal/bytealg.IndexByteString"], unfollowed := true, recurses := true, apart := false, narrowed := true }
def LooseKnownUptoSaid : Prop := looseKnownUptoRow.holds Try.pinned (OpenSpec.upto looseKnownSpec)

end Rows
end Go.Proofs.Ytcgopcfbgkhpgaa
