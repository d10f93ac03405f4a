/-
  No cell of these rows narrows 'for every input' (looked for: loops, veiled, ifaces, maps, wideKeys, modest, calm, conditions, laid).
  DERIVED. THE GIVEN ROWS OF THIS SEAT. 5 by the template 'for every input the law returns true; each argument reads behind the call as it read before'; 0 by the template 'total and deterministic' (their statements: YtojbgacoolanlaaTotals.lean).
  GIVEN WITH THE SEED: the statements are not yours to turn. If you find one false, say at which input.
  Laid BY PROGRAM, IN A SANDBOX (cutbox-rows.mjs): the forced cells as the released guide's own fill.sh prints them over the translation a579cf80d2acf7d5… (all of the seat's roots in one cut). By AI agents, Wed Nov 11 2026. No macro, syntax, notation, axiom, sorry.
-/
import Derived.Test.YtojbgacoolanlaaChecked
import GoSem.Claim
import GoSem.ClaimJoined
import GoSem.ClaimMapViews
import Derived.JoinedTies
import Derived.KernelRfl
namespace Go.Proofs.Ytojbgacoolanlaa
/- THE CELL 'sum', in the pinned program and in every row, IS THE sha256 OF THE DUMP (.gsa) THAT YtojbgacoolanlaaProg.lean LOADS. Nothing in Lean hashes anything: it is a label: what it is worth is what the hold of that sum in a sandbox is worth. -/
noncomputable def Try.pinned : Pinned := { name := "ytojbgacoolanlaa", sum := "a579cf80d2acf7d5daca2dff7fcf8a65af9f23d4b2ceb7cda08a0310ad581d74", checked := Try.checked }
namespace Rows
def none {H : Type} : Left H := { results := [], args := [] }

/-- 'torchonlaw09.MotifsPass': WHATEVER THE INPUT: true; the input reads as it did. -/
def motifsPassSpec : ChangeSpec := { name := "motifsPass", fn := fun _ => fun
  | [d1, d2] => { results := [.lit (.bool true)], args := [d1, d2] }
  | _ => none }
def motifsPassRow : OpenClaim := { program := "ytojbgacoolanlaa", sum := "a579cf80d2acf7d5daca2dff7fcf8a65af9f23d4b2ceb7cda08a0310ad581d74", func := "torchon/torchonlaw09.MotifsPass", spec := "motifsPass", inPlace := ["internal/abi.NoEscape", "internal/bytealg.MakeNoZero"], unfollowed := true, recurses := true, apart := false }
def MotifsPassSaid : Prop := motifsPassRow.holds Try.pinned (OpenSpec.ofChange motifsPassSpec)

/-- ITS FALSE NEIGHBOUR: 'it returns false'. Refute it at one input. -/
def motifsPassWrong : ChangeSpec := { name := "motifsPass", fn := fun _ => fun
  | [d1, d2] => { results := [.lit (.bool false)], args := [d1, d2] }
  | _ => none }
def MotifsPassWrongFalsely : Prop := motifsPassRow.holds Try.pinned (OpenSpec.ofChange motifsPassWrong)

/-- 'torchonlaw09.MotifsTurn': WHATEVER THE INPUT: true; the input reads as it did. -/
def motifsTurnSpec : ChangeSpec := { name := "motifsTurn", fn := fun _ => fun
  | [d1, d2, d3] => { results := [.lit (.bool true)], args := [d1, d2, d3] }
  | _ => none }
def motifsTurnRow : OpenClaim := { program := "ytojbgacoolanlaa", sum := "a579cf80d2acf7d5daca2dff7fcf8a65af9f23d4b2ceb7cda08a0310ad581d74", func := "torchon/torchonlaw09.MotifsTurn", spec := "motifsTurn", inPlace := ["internal/abi.NoEscape", "internal/bytealg.MakeNoZero"], unfollowed := true, recurses := true, apart := false }
def MotifsTurnSaid : Prop := motifsTurnRow.holds Try.pinned (OpenSpec.ofChange motifsTurnSpec)

/-- ITS FALSE NEIGHBOUR: 'it returns false'. Refute it at one input. -/
def motifsTurnWrong : ChangeSpec := { name := "motifsTurn", fn := fun _ => fun
  | [d1, d2, d3] => { results := [.lit (.bool false)], args := [d1, d2, d3] }
  | _ => none }
def MotifsTurnWrongFalsely : Prop := motifsTurnRow.holds Try.pinned (OpenSpec.ofChange motifsTurnWrong)

/-- 'torchonlaw09.MotifsPlain': WHATEVER THE INPUT: true; the input reads as it did. -/
def motifsPlainSpec : ChangeSpec := { name := "motifsPlain", fn := fun _ => fun
  | [d1, d2] => { results := [.lit (.bool true)], args := [d1, d2] }
  | _ => none }
def motifsPlainRow : OpenClaim := { program := "ytojbgacoolanlaa", sum := "a579cf80d2acf7d5daca2dff7fcf8a65af9f23d4b2ceb7cda08a0310ad581d74", func := "torchon/torchonlaw09.MotifsPlain", spec := "motifsPlain", inPlace := ["internal/abi.NoEscape", "internal/bytealg.MakeNoZero"], unfollowed := true, recurses := true, apart := false }
def MotifsPlainSaid : Prop := motifsPlainRow.holds Try.pinned (OpenSpec.ofChange motifsPlainSpec)

/-- ITS FALSE NEIGHBOUR: 'it returns false'. Refute it at one input. -/
def motifsPlainWrong : ChangeSpec := { name := "motifsPlain", fn := fun _ => fun
  | [d1, d2] => { results := [.lit (.bool false)], args := [d1, d2] }
  | _ => none }
def MotifsPlainWrongFalsely : Prop := motifsPlainRow.holds Try.pinned (OpenSpec.ofChange motifsPlainWrong)

/-- 'torchonlaw09.MotifsKnown': WHATEVER THE INPUT: true; the input reads as it did. -/
def motifsKnownSpec : ChangeSpec := { name := "motifsKnown", fn := fun _ => fun
  | [] => { results := [.lit (.bool true)], args := [] }
  | _ => none }
def motifsKnownRow : OpenClaim := { program := "ytojbgacoolanlaa", sum := "a579cf80d2acf7d5daca2dff7fcf8a65af9f23d4b2ceb7cda08a0310ad581d74", func := "torchon/torchonlaw09.MotifsKnown", spec := "motifsKnown", inPlace := ["internal/abi.NoEscape", "internal/bytealg.MakeNoZero"], unfollowed := true, recurses := true, apart := false }
def MotifsKnownSaid : Prop := motifsKnownRow.holds Try.pinned (OpenSpec.ofChange motifsKnownSpec)

/-- ITS FALSE NEIGHBOUR: 'it returns false'. Refute it at one input. -/
def motifsKnownWrong : ChangeSpec := { name := "motifsKnown", fn := fun _ => fun
  | [] => { results := [.lit (.bool false)], args := [] }
  | _ => none }
def MotifsKnownWrongFalsely : Prop := motifsKnownRow.holds Try.pinned (OpenSpec.ofChange motifsKnownWrong)

/-- 'torchonlaw09.MotifsNames': WHATEVER THE INPUT: true; the input reads as it did. -/
def motifsNamesSpec : ChangeSpec := { name := "motifsNames", fn := fun _ => fun
  | [d1, d2] => { results := [.lit (.bool true)], args := [d1, d2] }
  | _ => none }
def motifsNamesRow : OpenClaim := { program := "ytojbgacoolanlaa", sum := "a579cf80d2acf7d5daca2dff7fcf8a65af9f23d4b2ceb7cda08a0310ad581d74", func := "torchon/torchonlaw09.MotifsNames", spec := "motifsNames", inPlace := ["internal/abi.NoEscape", "internal/bytealg.MakeNoZero"], unfollowed := true, recurses := true, apart := false }
def MotifsNamesSaid : Prop := motifsNamesRow.holds Try.pinned (OpenSpec.ofChange motifsNamesSpec)

/-- ITS FALSE NEIGHBOUR: 'it returns false'. Refute it at one input. -/
def motifsNamesWrong : ChangeSpec := { name := "motifsNames", fn := fun _ => fun
  | [d1, d2] => { results := [.lit (.bool false)], args := [d1, d2] }
  | _ => none }
def MotifsNamesWrongFalsely : Prop := motifsNamesRow.holds Try.pinned (OpenSpec.ofChange motifsNamesWrong)

/- THE SECOND FORM. 'bulk': how many values and letters a reading holds, each counted each time it is reached (what is shared counts as often as it is met; a slice's spare places count too). A statement '..UptoSaid' is the law's where the arguments, and the package variables that the reading takes, are together of bulk at most 1048576: NARROWER than '..Said'. Prove '..Said' where nothing that the law and all that it calls make is longer than what came in: it says more and counts as full. Else prove '..UptoSaid'. A law counts once. -/
mutual
def uptoBulk {H : Type} : DataW H → Nat
  | .lit (.string bytes) => bytes.length + 1
  | .lit _ => 1
  | .nil => 1
  | .ptr d => uptoBulk d + 1
  | .slice elems spare => uptoBulkAll elems + uptoBulkAll spare + 1
  | .agg parts => uptoBulkAll parts + 1
  | .iface _ d => uptoBulk d + 1
  | .map entries => uptoBulkEntries entries + 1
  | .held _ => 1
def uptoBulkAll {H : Type} : List (DataW H) → Nat
  | [] => 0
  | d :: r => uptoBulk d + uptoBulkAll r
def uptoBulkEntries {H : Type} : List (Lit × DataW H) → Nat
  | [] => 0
  | x :: r => uptoBulkEntry x + uptoBulkEntries r
def uptoBulkEntry {H : Type} : Lit × DataW H → Nat
  | (.string bytes, d) => bytes.length + uptoBulk d + 1
  | (_, d) => uptoBulk d + 1
 end
def uptoSmall : (H : Type) → List (DataW H) → Bool := fun _ ds => decide (uptoBulkAll ds ≤ 1048576)
def OpenSpec.upto (s : _root_.Go.ChangeSpec) : _root_.Go.OpenSpec := { _root_.Go.OpenSpec.ofChange s with cond := some uptoSmall }

/-- 'torchonlaw09.MotifsPass', WHERE WHAT IT READS IS OF BULK AT MOST 1048576: true; the input reads as it did. -/
def motifsPassUptoRow : OpenClaim := { program := "ytojbgacoolanlaa", sum := "a579cf80d2acf7d5daca2dff7fcf8a65af9f23d4b2ceb7cda08a0310ad581d74", func := "torchon/torchonlaw09.MotifsPass", spec := "motifsPass", inPlace := ["internal/abi.NoEscape", "internal/bytealg.MakeNoZero"], unfollowed := true, recurses := true, apart := false, narrowed := true }
def MotifsPassUptoSaid : Prop := motifsPassUptoRow.holds Try.pinned (OpenSpec.upto motifsPassSpec)

/-- 'torchonlaw09.MotifsTurn', WHERE WHAT IT READS IS OF BULK AT MOST 1048576: true; the input reads as it did. -/
def motifsTurnUptoRow : OpenClaim := { program := "ytojbgacoolanlaa", sum := "a579cf80d2acf7d5daca2dff7fcf8a65af9f23d4b2ceb7cda08a0310ad581d74", func := "torchon/torchonlaw09.MotifsTurn", spec := "motifsTurn", inPlace := ["internal/abi.NoEscape", "internal/bytealg.MakeNoZero"], unfollowed := true, recurses := true, apart := false, narrowed := true }
def MotifsTurnUptoSaid : Prop := motifsTurnUptoRow.holds Try.pinned (OpenSpec.upto motifsTurnSpec)

/-- 'torchonlaw09.MotifsPlain', WHERE WHAT IT READS IS OF BULK AT MOST 1048576: true; the input reads as it did. -/
def motifsPlainUptoRow : OpenClaim := { program := "ytojbgacoolanlaa", sum := "a579cf80d2acf7d5daca2dff7fcf8a65af9f23d4b2ceb7cda08a0310ad581d74", func := "torchon/torchonlaw09.MotifsPlain", spec := "motifsPlain", inPlace := ["internal/abi.NoEscape", "internal/bytealg.MakeNoZero"], unfollowed := true, recurses := true, apart := false, narrowed := true }
def MotifsPlainUptoSaid : Prop := motifsPlainUptoRow.holds Try.pinned (OpenSpec.upto motifsPlainSpec)

/-- 'torchonlaw09.MotifsKnown', WHERE WHAT IT READS IS OF BULK AT MOST 1048576: true; the input reads as it did. -/
def motifsKnownUptoRow : OpenClaim := { program := "ytojbgacoolanlaa", sum := "a579cf80d2acf7d5daca2dff7fcf8a65af9f23d4b2ceb7cda08a0310ad581d74", func := "torchon/torchonlaw09.MotifsKnown", spec := "motifsKnown", inPlace := ["internal/abi.NoEscape", "internal/bytealg.MakeNoZero"], unfollowed := true, recurses := true, apart := false, narrowed := true }
def MotifsKnownUptoSaid : Prop := motifsKnownUptoRow.holds Try.pinned (OpenSpec.upto motifsKnownSpec)

/-- 'torchonlaw09.MotifsNames', WHERE WHAT IT READS IS OF BULK AT MOST 1048576: true; the input reads as it did. -/
def motifsNamesUptoRow : OpenClaim := { program := "ytojbgacoolanlaa", sum := "a579cf80d2acf7d5daca2dff7fcf8a65af9f23d4b2ceb7cda08a0310ad581d74", func := "torchon/torchonlaw09.MotifsNames", spec := "motifsNames", inPlace := ["internal/abi.NoEscape", "internal/bytealg.MakeNoZero"], unfollowed := true, recurses := true, apart := false, narrowed := true }
def MotifsNamesUptoSaid : Prop := motifsNamesUptoRow.holds Try.pinned (OpenSpec.upto motifsNamesSpec)

end Rows
end Go.Proofs.Ytojbgacoolanlaa
