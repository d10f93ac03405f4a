/-
  No cell of these rows narrows 'for every input' (looked for: loops, veiled, ifaces, maps, wideKeys, modest, calm, conditions, laid).
  DERIVED. THE GIVEN ROWS OF THIS SEAT. 12 by the template 'for every input the law returns true; each argument reads behind the call as it read before'; 0 by the template 'total and deterministic' (their statements: YtonbfalbfdkieaaTotals.lean).
  GIVEN WITH THE SEED: the statements are not yours to turn. If you find one false, say at which input.
  Laid BY PROGRAM, IN A SANDBOX (cutbox-rows.mjs): the forced cells as the released guide's own fill.sh prints them over the translation b023c97689efd49f… (all of the seat's roots in one cut). By AI agents, Wed Nov 11 2026. No macro, syntax, notation, axiom, sorry.
-/
import Derived.Test.YtonbfalbfdkieaaChecked
import GoSem.Claim
import GoSem.ClaimJoined
import GoSem.ClaimMapViews
import Derived.JoinedTies
import Derived.KernelRfl
namespace Go.Proofs.Ytonbfalbfdkieaa
/- THE CELL 'sum', in the pinned program and in every row, IS THE sha256 OF THE DUMP (.gsa) THAT YtonbfalbfdkieaaProg.lean LOADS. Nothing in Lean hashes anything: it is a label: what it is worth is what the hold of that sum in a sandbox is worth. -/
noncomputable def Try.pinned : Pinned := { name := "ytonbfalbfdkieaa", sum := "b023c97689efd49faba397d63628ed013aba602f6d843f079dcb860085a922e1", checked := Try.checked }
namespace Rows
def none {H : Type} : Left H := { results := [], args := [] }

/-- 'torchonlaw26.CompareFirst': WHATEVER THE INPUT: true; the input reads as it did. -/
def compareFirstSpec : ChangeSpec := { name := "compareFirst", fn := fun _ => fun
  | [d1, d2] => { results := [.lit (.bool true)], args := [d1, d2] }
  | _ => none }
def compareFirstRow : OpenClaim := { program := "ytonbfalbfdkieaa", sum := "b023c97689efd49faba397d63628ed013aba602f6d843f079dcb860085a922e1", func := "torchon/torchonlaw26.CompareFirst", spec := "compareFirst", unfollowed := true, recurses := true, apart := false }
def CompareFirstSaid : Prop := compareFirstRow.holds Try.pinned (OpenSpec.ofChange compareFirstSpec)

/-- ITS FALSE NEIGHBOUR: 'it returns false'. Refute it at one input. -/
def compareFirstWrong : ChangeSpec := { name := "compareFirst", fn := fun _ => fun
  | [d1, d2] => { results := [.lit (.bool false)], args := [d1, d2] }
  | _ => none }
def CompareFirstWrongFalsely : Prop := compareFirstRow.holds Try.pinned (OpenSpec.ofChange compareFirstWrong)

/-- 'torchonlaw18.LooseFrees': WHATEVER THE INPUT: true; the input reads as it did. -/
def looseFreesSpec : ChangeSpec := { name := "looseFrees", fn := fun _ => fun
  | [d1, d2] => { results := [.lit (.bool true)], args := [d1, d2] }
  | _ => none }
def looseFreesRow : OpenClaim := { program := "ytonbfalbfdkieaa", sum := "b023c97689efd49faba397d63628ed013aba602f6d843f079dcb860085a922e1", func := "torchon/torchonlaw18.LooseFrees", spec := "looseFrees", unfollowed := true, recurses := true, apart := false }
def LooseFreesSaid : Prop := looseFreesRow.holds Try.pinned (OpenSpec.ofChange looseFreesSpec)

/-- ITS FALSE NEIGHBOUR: 'it returns false'. Refute it at one input. -/
def looseFreesWrong : ChangeSpec := { name := "looseFrees", fn := fun _ => fun
  | [d1, d2] => { results := [.lit (.bool false)], args := [d1, d2] }
  | _ => none }
def LooseFreesWrongFalsely : Prop := looseFreesRow.holds Try.pinned (OpenSpec.ofChange looseFreesWrong)

/-- 'torchonlaw18.LooseAny': WHATEVER THE INPUT: true; the input reads as it did. -/
def looseAnySpec : ChangeSpec := { name := "looseAny", fn := fun _ => fun
  | [d1, d2] => { results := [.lit (.bool true)], args := [d1, d2] }
  | _ => none }
def looseAnyRow : OpenClaim := { program := "ytonbfalbfdkieaa", sum := "b023c97689efd49faba397d63628ed013aba602f6d843f079dcb860085a922e1", func := "torchon/torchonlaw18.LooseAny", spec := "looseAny", unfollowed := true, recurses := true, apart := false }
def LooseAnySaid : Prop := looseAnyRow.holds Try.pinned (OpenSpec.ofChange looseAnySpec)

/-- ITS FALSE NEIGHBOUR: 'it returns false'. Refute it at one input. -/
def looseAnyWrong : ChangeSpec := { name := "looseAny", fn := fun _ => fun
  | [d1, d2] => { results := [.lit (.bool false)], args := [d1, d2] }
  | _ => none }
def LooseAnyWrongFalsely : Prop := looseAnyRow.holds Try.pinned (OpenSpec.ofChange looseAnyWrong)

/-- 'torchonlaw18.LooseSides': WHATEVER THE INPUT: true; the input reads as it did. -/
def looseSidesSpec : ChangeSpec := { name := "looseSides", fn := fun _ => fun
  | [d] => { results := [.lit (.bool true)], args := [d] }
  | _ => none }
def looseSidesRow : OpenClaim := { program := "ytonbfalbfdkieaa", sum := "b023c97689efd49faba397d63628ed013aba602f6d843f079dcb860085a922e1", func := "torchon/torchonlaw18.LooseSides", spec := "looseSides", unfollowed := true, recurses := true, apart := false }
def LooseSidesSaid : Prop := looseSidesRow.holds Try.pinned (OpenSpec.ofChange looseSidesSpec)

/-- ITS FALSE NEIGHBOUR: 'it returns false'. Refute it at one input. -/
def looseSidesWrong : ChangeSpec := { name := "looseSides", fn := fun _ => fun
  | [d] => { results := [.lit (.bool false)], args := [d] }
  | _ => none }
def LooseSidesWrongFalsely : Prop := looseSidesRow.holds Try.pinned (OpenSpec.ofChange looseSidesWrong)

/-- 'torchonlaw02.BraidsTurns': WHATEVER THE INPUT: true; the input reads as it did. -/
def braidsTurnsSpec : ChangeSpec := { name := "braidsTurns", fn := fun _ => fun
  | [d1, d2, d3] => { results := [.lit (.bool true)], args := [d1, d2, d3] }
  | _ => none }
def braidsTurnsRow : OpenClaim := { program := "ytonbfalbfdkieaa", sum := "b023c97689efd49faba397d63628ed013aba602f6d843f079dcb860085a922e1", func := "torchon/torchonlaw02.BraidsTurns", spec := "braidsTurns", unfollowed := true, recurses := true, apart := false }
def BraidsTurnsSaid : Prop := braidsTurnsRow.holds Try.pinned (OpenSpec.ofChange braidsTurnsSpec)

/-- ITS FALSE NEIGHBOUR: 'it returns false'. Refute it at one input. -/
def braidsTurnsWrong : ChangeSpec := { name := "braidsTurns", fn := fun _ => fun
  | [d1, d2, d3] => { results := [.lit (.bool false)], args := [d1, d2, d3] }
  | _ => none }
def BraidsTurnsWrongFalsely : Prop := braidsTurnsRow.holds Try.pinned (OpenSpec.ofChange braidsTurnsWrong)

/-- 'torchonlaw02.BraidsSame': WHATEVER THE INPUT: true; the input reads as it did. -/
def braidsSameSpec : ChangeSpec := { name := "braidsSame", fn := fun _ => fun
  | [d1, d2, d3] => { results := [.lit (.bool true)], args := [d1, d2, d3] }
  | _ => none }
def braidsSameRow : OpenClaim := { program := "ytonbfalbfdkieaa", sum := "b023c97689efd49faba397d63628ed013aba602f6d843f079dcb860085a922e1", func := "torchon/torchonlaw02.BraidsSame", spec := "braidsSame", unfollowed := true, recurses := true, apart := false }
def BraidsSameSaid : Prop := braidsSameRow.holds Try.pinned (OpenSpec.ofChange braidsSameSpec)

/-- ITS FALSE NEIGHBOUR: 'it returns false'. Refute it at one input. -/
def braidsSameWrong : ChangeSpec := { name := "braidsSame", fn := fun _ => fun
  | [d1, d2, d3] => { results := [.lit (.bool false)], args := [d1, d2, d3] }
  | _ => none }
def BraidsSameWrongFalsely : Prop := braidsSameRow.holds Try.pinned (OpenSpec.ofChange braidsSameWrong)

/-- 'torchonlaw26.CompareSame': WHATEVER THE INPUT: true; the input reads as it did. -/
def compareSameSpec : ChangeSpec := { name := "compareSame", fn := fun _ => fun
  | [d1, d2, d3] => { results := [.lit (.bool true)], args := [d1, d2, d3] }
  | _ => none }
def compareSameRow : OpenClaim := { program := "ytonbfalbfdkieaa", sum := "b023c97689efd49faba397d63628ed013aba602f6d843f079dcb860085a922e1", func := "torchon/torchonlaw26.CompareSame", spec := "compareSame", unfollowed := true, recurses := true, apart := false }
def CompareSameSaid : Prop := compareSameRow.holds Try.pinned (OpenSpec.ofChange compareSameSpec)

/-- ITS FALSE NEIGHBOUR: 'it returns false'. Refute it at one input. -/
def compareSameWrong : ChangeSpec := { name := "compareSame", fn := fun _ => fun
  | [d1, d2, d3] => { results := [.lit (.bool false)], args := [d1, d2, d3] }
  | _ => none }
def CompareSameWrongFalsely : Prop := compareSameRow.holds Try.pinned (OpenSpec.ofChange compareSameWrong)

/-- 'torchonlaw26.CompareHistories': WHATEVER THE INPUT: true; the input reads as it did. -/
def compareHistoriesSpec : ChangeSpec := { name := "compareHistories", fn := fun _ => fun
  | [d1, d2, d3] => { results := [.lit (.bool true)], args := [d1, d2, d3] }
  | _ => none }
def compareHistoriesRow : OpenClaim := { program := "ytonbfalbfdkieaa", sum := "b023c97689efd49faba397d63628ed013aba602f6d843f079dcb860085a922e1", func := "torchon/torchonlaw26.CompareHistories", spec := "compareHistories", unfollowed := true, recurses := true, apart := false }
def CompareHistoriesSaid : Prop := compareHistoriesRow.holds Try.pinned (OpenSpec.ofChange compareHistoriesSpec)

/-- ITS FALSE NEIGHBOUR: 'it returns false'. Refute it at one input. -/
def compareHistoriesWrong : ChangeSpec := { name := "compareHistories", fn := fun _ => fun
  | [d1, d2, d3] => { results := [.lit (.bool false)], args := [d1, d2, d3] }
  | _ => none }
def CompareHistoriesWrongFalsely : Prop := compareHistoriesRow.holds Try.pinned (OpenSpec.ofChange compareHistoriesWrong)

/-- 'torchonlaw02.BraidsPerms': WHATEVER THE INPUT: true; the input reads as it did. -/
def braidsPermsSpec : ChangeSpec := { name := "braidsPerms", fn := fun _ => fun
  | [d1, d2, d3] => { results := [.lit (.bool true)], args := [d1, d2, d3] }
  | _ => none }
def braidsPermsRow : OpenClaim := { program := "ytonbfalbfdkieaa", sum := "b023c97689efd49faba397d63628ed013aba602f6d843f079dcb860085a922e1", func := "torchon/torchonlaw02.BraidsPerms", spec := "braidsPerms", unfollowed := true, recurses := true, apart := false }
def BraidsPermsSaid : Prop := braidsPermsRow.holds Try.pinned (OpenSpec.ofChange braidsPermsSpec)

/-- ITS FALSE NEIGHBOUR: 'it returns false'. Refute it at one input. -/
def braidsPermsWrong : ChangeSpec := { name := "braidsPerms", fn := fun _ => fun
  | [d1, d2, d3] => { results := [.lit (.bool false)], args := [d1, d2, d3] }
  | _ => none }
def BraidsPermsWrongFalsely : Prop := braidsPermsRow.holds Try.pinned (OpenSpec.ofChange braidsPermsWrong)

/-- 'torchonlaw09.MotifsPass': WHATEVER THE INPUT: true; the input reads as it did. -/
def motifsPassSpec : ChangeSpec := { name := "motifsPass", fn := fun _ => fun
  | [d1, d2] => { results := [.lit (.bool true)], args := [d1, d2] }
  | _ => none }
def motifsPassRow : OpenClaim := { program := "ytonbfalbfdkieaa", sum := "b023c97689efd49faba397d63628ed013aba602f6d843f079dcb860085a922e1", func := "torchon/torchonlaw09.MotifsPass", spec := "motifsPass", inPlace := ["internal/abi.NoEscape", "internal/bytealg.MakeNoZero"], unfollowed := true, recurses := true, apart := false }
def MotifsPassSaid : Prop := motifsPassRow.holds Try.pinned (OpenSpec.ofChange motifsPassSpec)

/-- ITS FALSE NEIGHBOUR: 'it returns false'. Refute it at one input. -/
def motifsPassWrong : ChangeSpec := { name := "motifsPass", fn := fun _ => fun
  | [d1, d2] => { results := [.lit (.bool false)], args := [d1, d2] }
  | _ => none }
def MotifsPassWrongFalsely : Prop := motifsPassRow.holds Try.pinned (OpenSpec.ofChange motifsPassWrong)

/-- 'torchonlaw26.CompareCommon': WHATEVER THE INPUT: true; the input reads as it did. -/
def compareCommonSpec : ChangeSpec := { name := "compareCommon", fn := fun _ => fun
  | [d1, d2] => { results := [.lit (.bool true)], args := [d1, d2] }
  | _ => none }
def compareCommonRow : OpenClaim := { program := "ytonbfalbfdkieaa", sum := "b023c97689efd49faba397d63628ed013aba602f6d843f079dcb860085a922e1", func := "torchon/torchonlaw26.CompareCommon", spec := "compareCommon", unfollowed := true, recurses := true, apart := false }
def CompareCommonSaid : Prop := compareCommonRow.holds Try.pinned (OpenSpec.ofChange compareCommonSpec)

/-- ITS FALSE NEIGHBOUR: 'it returns false'. Refute it at one input. -/
def compareCommonWrong : ChangeSpec := { name := "compareCommon", fn := fun _ => fun
  | [d1, d2] => { results := [.lit (.bool false)], args := [d1, d2] }
  | _ => none }
def CompareCommonWrongFalsely : Prop := compareCommonRow.holds Try.pinned (OpenSpec.ofChange compareCommonWrong)

/-- 'torchonlaw02.BraidsForms': WHATEVER THE INPUT: true; the input reads as it did. -/
def braidsFormsSpec : ChangeSpec := { name := "braidsForms", fn := fun _ => fun
  | [d1, d2, d3] => { results := [.lit (.bool true)], args := [d1, d2, d3] }
  | _ => none }
def braidsFormsRow : OpenClaim := { program := "ytonbfalbfdkieaa", sum := "b023c97689efd49faba397d63628ed013aba602f6d843f079dcb860085a922e1", func := "torchon/torchonlaw02.BraidsForms", spec := "braidsForms", unfollowed := true, recurses := true, apart := false }
def BraidsFormsSaid : Prop := braidsFormsRow.holds Try.pinned (OpenSpec.ofChange braidsFormsSpec)

/-- ITS FALSE NEIGHBOUR: 'it returns false'. Refute it at one input. -/
def braidsFormsWrong : ChangeSpec := { name := "braidsForms", fn := fun _ => fun
  | [d1, d2, d3] => { results := [.lit (.bool false)], args := [d1, d2, d3] }
  | _ => none }
def BraidsFormsWrongFalsely : Prop := braidsFormsRow.holds Try.pinned (OpenSpec.ofChange braidsFormsWrong)

/- THE SECOND FORM. 'bulk': how many values and letters a reading holds, each counted each time it is reached (what is shared counts as often as it is met; a slice's spare places count too). A statement '..UptoSaid' is the law's where the arguments, and the package variables that the reading takes, are together of bulk at most 1048576: NARROWER than '..Said'. Prove '..Said' where nothing that the law and all that it calls make is longer than what came in: it says more and counts as full. Else prove '..UptoSaid'. A law counts once. -/
mutual
def uptoBulk {H : Type} : DataW H → Nat
  | .lit (.string bytes) => bytes.length + 1
  | .lit _ => 1
  | .nil => 1
  | .ptr d => uptoBulk d + 1
  | .slice elems spare => uptoBulkAll elems + uptoBulkAll spare + 1
  | .agg parts => uptoBulkAll parts + 1
  | .iface _ d => uptoBulk d + 1
  | .map entries => uptoBulkEntries entries + 1
  | .held _ => 1
def uptoBulkAll {H : Type} : List (DataW H) → Nat
  | [] => 0
  | d :: r => uptoBulk d + uptoBulkAll r
def uptoBulkEntries {H : Type} : List (Lit × DataW H) → Nat
  | [] => 0
  | x :: r => uptoBulkEntry x + uptoBulkEntries r
def uptoBulkEntry {H : Type} : Lit × DataW H → Nat
  | (.string bytes, d) => bytes.length + uptoBulk d + 1
  | (_, d) => uptoBulk d + 1
 end
def uptoSmall : (H : Type) → List (DataW H) → Bool := fun _ ds => decide (uptoBulkAll ds ≤ 1048576)
def OpenSpec.upto (s : _root_.Go.ChangeSpec) : _root_.Go.OpenSpec := { _root_.Go.OpenSpec.ofChange s with cond := some uptoSmall }

/-- 'torchonlaw26.CompareFirst', WHERE WHAT IT READS IS OF BULK AT MOST 1048576: true; the input reads as it did. -/
def compareFirstUptoRow : OpenClaim := { program := "ytonbfalbfdkieaa", sum := "b023c97689efd49faba397d63628ed013aba602f6d843f079dcb860085a922e1", func := "torchon/torchonlaw26.CompareFirst", spec := "compareFirst", unfollowed := true, recurses := true, apart := false, narrowed := true }
def CompareFirstUptoSaid : Prop := compareFirstUptoRow.holds Try.pinned (OpenSpec.upto compareFirstSpec)

/-- 'torchonlaw18.LooseFrees', WHERE WHAT IT READS IS OF BULK AT MOST 1048576: true; the input reads as it did. -/
def looseFreesUptoRow : OpenClaim := { program := "ytonbfalbfdkieaa", sum := "b023c97689efd49faba397d63628ed013aba602f6d843f079dcb860085a922e1", func := "torchon/torchonlaw18.LooseFrees", spec := "looseFrees", unfollowed := true, recurses := true, apart := false, narrowed := true }
def LooseFreesUptoSaid : Prop := looseFreesUptoRow.holds Try.pinned (OpenSpec.upto looseFreesSpec)

/-- 'torchonlaw18.LooseAny', WHERE WHAT IT READS IS OF BULK AT MOST 1048576: true; the input reads as it did. -/
def looseAnyUptoRow : OpenClaim := { program := "ytonbfalbfdkieaa", sum := "b023c97689efd49faba397d63628ed013aba602f6d843f079dcb860085a922e1", func := "torchon/torchonlaw18.LooseAny", spec := "looseAny", unfollowed := true, recurses := true, apart := false, narrowed := true }
def LooseAnyUptoSaid : Prop := looseAnyUptoRow.holds Try.pinned (OpenSpec.upto looseAnySpec)

/-- 'torchonlaw18.LooseSides', WHERE WHAT IT READS IS OF BULK AT MOST 1048576: true; the input reads as it did. -/
def looseSidesUptoRow : OpenClaim := { program := "ytonbfalbfdkieaa", sum := "b023c97689efd49faba397d63628ed013aba602f6d843f079dcb860085a922e1", func := "torchon/torchonlaw18.LooseSides", spec := "looseSides", unfollowed := true, recurses := true, apart := false, narrowed := true }
def LooseSidesUptoSaid : Prop := looseSidesUptoRow.holds Try.pinned (OpenSpec.upto looseSidesSpec)

/-- 'torchonlaw02.BraidsTurns', WHERE WHAT IT READS IS OF BULK AT MOST 1048576: true; the input reads as it did. -/
def braidsTurnsUptoRow : OpenClaim := { program := "ytonbfalbfdkieaa", sum := "b023c97689efd49faba397d63628ed013aba602f6d843f079dcb860085a922e1", func := "torchon/torchonlaw02.BraidsTurns", spec := "braidsTurns", unfollowed := true, recurses := true, apart := false, narrowed := true }
def BraidsTurnsUptoSaid : Prop := braidsTurnsUptoRow.holds Try.pinned (OpenSpec.upto braidsTurnsSpec)

/-- 'torchonlaw02.BraidsSame', WHERE WHAT IT READS IS OF BULK AT MOST 1048576: true; the input reads as it did. -/
def braidsSameUptoRow : OpenClaim := { program := "ytonbfalbfdkieaa", sum := "b023c97689efd49faba397d63628ed013aba602f6d843f079dcb860085a922e1", func := "torchon/torchonlaw02.BraidsSame", spec := "braidsSame", unfollowed := true, recurses := true, apart := false, narrowed := true }
def BraidsSameUptoSaid : Prop := braidsSameUptoRow.holds Try.pinned (OpenSpec.upto braidsSameSpec)

/-- 'torchonlaw26.CompareSame', WHERE WHAT IT READS IS OF BULK AT MOST 1048576: true; the input reads as it did. -/
def compareSameUptoRow : OpenClaim := { program := "ytonbfalbfdkieaa", sum := "b023c97689efd49faba397d63628ed013aba602f6d843f079dcb860085a922e1", func := "torchon/torchonlaw26.CompareSame", spec := "compareSame", unfollowed := true, recurses := true, apart := false, narrowed := true }
def CompareSameUptoSaid : Prop := compareSameUptoRow.holds Try.pinned (OpenSpec.upto compareSameSpec)

/-- 'torchonlaw26.CompareHistories', WHERE WHAT IT READS IS OF BULK AT MOST 1048576: true; the input reads as it did. -/
def compareHistoriesUptoRow : OpenClaim := { program := "ytonbfalbfdkieaa", sum := "b023c97689efd49faba397d63628ed013aba602f6d843f079dcb860085a922e1", func := "torchon/torchonlaw26.CompareHistories", spec := "compareHistories", unfollowed := true, recurses := true, apart := false, narrowed := true }
def CompareHistoriesUptoSaid : Prop := compareHistoriesUptoRow.holds Try.pinned (OpenSpec.upto compareHistoriesSpec)

/-- 'torchonlaw02.BraidsPerms', WHERE WHAT IT READS IS OF BULK AT MOST 1048576: true; the input reads as it did. -/
def braidsPermsUptoRow : OpenClaim := { program := "ytonbfalbfdkieaa", sum := "b023c97689efd49faba397d63628ed013aba602f6d843f079dcb860085a922e1", func := "torchon/torchonlaw02.BraidsPerms", spec := "braidsPerms", unfollowed := true, recurses := true, apart := false, narrowed := true }
def BraidsPermsUptoSaid : Prop := braidsPermsUptoRow.holds Try.pinned (OpenSpec.upto braidsPermsSpec)

/-- 'torchonlaw09.MotifsPass', WHERE WHAT IT READS IS OF BULK AT MOST 1048576: true; the input reads as it did. -/
def motifsPassUptoRow : OpenClaim := { program := "ytonbfalbfdkieaa", sum := "b023c97689efd49faba397d63628ed013aba602f6d843f079dcb860085a922e1", func := "torchon/torchonlaw09.MotifsPass", spec := "motifsPass", inPlace := ["internal/abi.NoEscape", "internal/bytealg.MakeNoZero"], unfollowed := true, recurses := true, apart := false, narrowed := true }
def MotifsPassUptoSaid : Prop := motifsPassUptoRow.holds Try.pinned (OpenSpec.upto motifsPassSpec)

/-- 'torchonlaw26.CompareCommon', WHERE WHAT IT READS IS OF BULK AT MOST 1048576: true; the input reads as it did. -/
def compareCommonUptoRow : OpenClaim := { program := "ytonbfalbfdkieaa", sum := "b023c97689efd49faba397d63628ed013aba602f6d843f079dcb860085a922e1", func := "torchon/torchonlaw26.CompareCommon", spec := "compareCommon", unfollowed := true, recurses := true, apart := false, narrowed := true }
def CompareCommonUptoSaid : Prop := compareCommonUptoRow.holds Try.pinned (OpenSpec.upto compareCommonSpec)

/-- 'torchonlaw02.BraidsForms', WHERE WHAT IT READS IS OF BULK AT MOST 1048576: true; the input reads as it did. -/
def braidsFormsUptoRow : OpenClaim := { program := "ytonbfalbfdkieaa", sum := "b023c97689efd49faba397d63628ed013aba602f6d843f079dcb860085a922e1", func := "torchon/torchonlaw02.BraidsForms", spec := "braidsForms", unfollowed := true, recurses := true, apart := false, narrowed := true }
def BraidsFormsUptoSaid : Prop := braidsFormsUptoRow.holds Try.pinned (OpenSpec.upto braidsFormsSpec)

end Rows
end Go.Proofs.Ytonbfalbfdkieaa
