/-
  No cell of these rows narrows 'for every input' (looked for: loops, veiled, ifaces, maps, wideKeys, modest, calm, conditions, laid).
  DERIVED. THE GIVEN ROWS OF THIS SEAT. 6 by the template 'for every input the law returns true; each argument reads behind the call as it read before'; 0 by the template 'total and deterministic' (their statements: YtjlfedhkpdogbaaTotals.lean).
  GIVEN WITH THE SEED: the statements are not yours to turn. If you find one false, say at which input.
  Laid BY PROGRAM, IN A SANDBOX (cutbox-rows.mjs): the forced cells as the released guide's own fill.sh prints them over the translation a3b546d83df8a2fc… (all of the seat's roots in one cut). By AI agents, Wed Nov 11 2026. No macro, syntax, notation, axiom, sorry.
-/
import Derived.Test.YtjlfedhkpdogbaaChecked
import GoSem.Claim
import GoSem.ClaimJoined
import GoSem.ClaimMapViews
import Derived.JoinedTies
import Derived.KernelRfl
namespace Go.Proofs.Ytjlfedhkpdogbaa
/- THE CELL 'sum', in the pinned program and in every row, IS THE sha256 OF THE DUMP (.gsa) THAT YtjlfedhkpdogbaaProg.lean LOADS. Nothing in Lean hashes anything: it is a label: what it is worth is what the hold of that sum in a sandbox is worth. -/
noncomputable def Try.pinned : Pinned := { name := "ytjlfedhkpdogbaa", sum := "a3b546d83df8a2fcb6d67703c177964aa2832910a51cfe59b374ebe22d7be05f", checked := Try.checked }
namespace Rows
def none {H : Type} : Left H := { results := [], args := [] }

/-- 'torchonlaw26.CompareFirst': WHATEVER THE INPUT: true; the input reads as it did. -/
def compareFirstSpec : ChangeSpec := { name := "compareFirst", fn := fun _ => fun
  | [d1, d2] => { results := [.lit (.bool true)], args := [d1, d2] }
  | _ => none }
def compareFirstRow : OpenClaim := { program := "ytjlfedhkpdogbaa", sum := "a3b546d83df8a2fcb6d67703c177964aa2832910a51cfe59b374ebe22d7be05f", func := "torchon/torchonlaw26.CompareFirst", spec := "compareFirst", unfollowed := true, recurses := true, apart := false }
def CompareFirstSaid : Prop := compareFirstRow.holds Try.pinned (OpenSpec.ofChange compareFirstSpec)

/-- ITS FALSE NEIGHBOUR: 'it returns false'. Refute it at one input. -/
def compareFirstWrong : ChangeSpec := { name := "compareFirst", fn := fun _ => fun
  | [d1, d2] => { results := [.lit (.bool false)], args := [d1, d2] }
  | _ => none }
def CompareFirstWrongFalsely : Prop := compareFirstRow.holds Try.pinned (OpenSpec.ofChange compareFirstWrong)

/-- 'torchonlaw26.CompareSame': WHATEVER THE INPUT: true; the input reads as it did. -/
def compareSameSpec : ChangeSpec := { name := "compareSame", fn := fun _ => fun
  | [d1, d2, d3] => { results := [.lit (.bool true)], args := [d1, d2, d3] }
  | _ => none }
def compareSameRow : OpenClaim := { program := "ytjlfedhkpdogbaa", sum := "a3b546d83df8a2fcb6d67703c177964aa2832910a51cfe59b374ebe22d7be05f", func := "torchon/torchonlaw26.CompareSame", spec := "compareSame", unfollowed := true, recurses := true, apart := false }
def CompareSameSaid : Prop := compareSameRow.holds Try.pinned (OpenSpec.ofChange compareSameSpec)

/-- ITS FALSE NEIGHBOUR: 'it returns false'. Refute it at one input. -/
def compareSameWrong : ChangeSpec := { name := "compareSame", fn := fun _ => fun
  | [d1, d2, d3] => { results := [.lit (.bool false)], args := [d1, d2, d3] }
  | _ => none }
def CompareSameWrongFalsely : Prop := compareSameRow.holds Try.pinned (OpenSpec.ofChange compareSameWrong)

/-- 'torchonlaw26.CompareHistories': WHATEVER THE INPUT: true; the input reads as it did. -/
def compareHistoriesSpec : ChangeSpec := { name := "compareHistories", fn := fun _ => fun
  | [d1, d2, d3] => { results := [.lit (.bool true)], args := [d1, d2, d3] }
  | _ => none }
def compareHistoriesRow : OpenClaim := { program := "ytjlfedhkpdogbaa", sum := "a3b546d83df8a2fcb6d67703c177964aa2832910a51cfe59b374ebe22d7be05f", func := "torchon/torchonlaw26.CompareHistories", spec := "compareHistories", unfollowed := true, recurses := true, apart := false }
def CompareHistoriesSaid : Prop := compareHistoriesRow.holds Try.pinned (OpenSpec.ofChange compareHistoriesSpec)

/-- ITS FALSE NEIGHBOUR: 'it returns false'. Refute it at one input. -/
def compareHistoriesWrong : ChangeSpec := { name := "compareHistories", fn := fun _ => fun
  | [d1, d2, d3] => { results := [.lit (.bool false)], args := [d1, d2, d3] }
  | _ => none }
def CompareHistoriesWrongFalsely : Prop := compareHistoriesRow.holds Try.pinned (OpenSpec.ofChange compareHistoriesWrong)

/-- 'torchonlaw26.CompareBegins': WHATEVER THE INPUT: true; the input reads as it did. -/
def compareBeginsSpec : ChangeSpec := { name := "compareBegins", fn := fun _ => fun
  | [d1, d2] => { results := [.lit (.bool true)], args := [d1, d2] }
  | _ => none }
def compareBeginsRow : OpenClaim := { program := "ytjlfedhkpdogbaa", sum := "a3b546d83df8a2fcb6d67703c177964aa2832910a51cfe59b374ebe22d7be05f", func := "torchon/torchonlaw26.CompareBegins", spec := "compareBegins", unfollowed := true, recurses := true, apart := false }
def CompareBeginsSaid : Prop := compareBeginsRow.holds Try.pinned (OpenSpec.ofChange compareBeginsSpec)

/-- ITS FALSE NEIGHBOUR: 'it returns false'. Refute it at one input. -/
def compareBeginsWrong : ChangeSpec := { name := "compareBegins", fn := fun _ => fun
  | [d1, d2] => { results := [.lit (.bool false)], args := [d1, d2] }
  | _ => none }
def CompareBeginsWrongFalsely : Prop := compareBeginsRow.holds Try.pinned (OpenSpec.ofChange compareBeginsWrong)

/-- 'torchonlaw26.CompareBreaks': WHATEVER THE INPUT: true; the input reads as it did. -/
def compareBreaksSpec : ChangeSpec := { name := "compareBreaks", fn := fun _ => fun
  | [d1, d2] => { results := [.lit (.bool true)], args := [d1, d2] }
  | _ => none }
def compareBreaksRow : OpenClaim := { program := "ytjlfedhkpdogbaa", sum := "a3b546d83df8a2fcb6d67703c177964aa2832910a51cfe59b374ebe22d7be05f", func := "torchon/torchonlaw26.CompareBreaks", spec := "compareBreaks", unfollowed := true, recurses := true, apart := false }
def CompareBreaksSaid : Prop := compareBreaksRow.holds Try.pinned (OpenSpec.ofChange compareBreaksSpec)

/-- ITS FALSE NEIGHBOUR: 'it returns false'. Refute it at one input. -/
def compareBreaksWrong : ChangeSpec := { name := "compareBreaks", fn := fun _ => fun
  | [d1, d2] => { results := [.lit (.bool false)], args := [d1, d2] }
  | _ => none }
def CompareBreaksWrongFalsely : Prop := compareBreaksRow.holds Try.pinned (OpenSpec.ofChange compareBreaksWrong)

/-- 'torchonlaw26.CompareCommon': WHATEVER THE INPUT: true; the input reads as it did. -/
def compareCommonSpec : ChangeSpec := { name := "compareCommon", fn := fun _ => fun
  | [d1, d2] => { results := [.lit (.bool true)], args := [d1, d2] }
  | _ => none }
def compareCommonRow : OpenClaim := { program := "ytjlfedhkpdogbaa", sum := "a3b546d83df8a2fcb6d67703c177964aa2832910a51cfe59b374ebe22d7be05f", func := "torchon/torchonlaw26.CompareCommon", spec := "compareCommon", unfollowed := true, recurses := true, apart := false }
def CompareCommonSaid : Prop := compareCommonRow.holds Try.pinned (OpenSpec.ofChange compareCommonSpec)

/-- ITS FALSE NEIGHBOUR: 'it returns false'. Refute it at one input. -/
def compareCommonWrong : ChangeSpec := { name := "compareCommon", fn := fun _ => fun
  | [d1, d2] => { results := [.lit (.bool false)], args := [d1, d2] }
  | _ => none }
def CompareCommonWrongFalsely : Prop := compareCommonRow.holds Try.pinned (OpenSpec.ofChange compareCommonWrong)

/- THE SECOND FORM. 'bulk': how many values and letters a reading holds, each counted each time it is reached (what is shared counts as often as it is met; a slice's spare places count too). A statement '..UptoSaid' is the law's where the arguments, and the package variables that the reading takes, are together of bulk at most 1048576: NARROWER than '..Said'. Prove '..Said' where nothing that the law and all that it calls make is longer than what came in: it says more and counts as full. Else prove '..UptoSaid'. A law counts once. -/
mutual
def uptoBulk {H : Type} : DataW H → Nat
  | .lit (.string bytes) => bytes.length + 1
  | .lit _ => 1
  | .nil => 1
  | .ptr d => uptoBulk d + 1
  | .slice elems spare => uptoBulkAll elems + uptoBulkAll spare + 1
  | .agg parts => uptoBulkAll parts + 1
  | .iface _ d => uptoBulk d + 1
  | .map entries => uptoBulkEntries entries + 1
  | .held _ => 1
def uptoBulkAll {H : Type} : List (DataW H) → Nat
  | [] => 0
  | d :: r => uptoBulk d + uptoBulkAll r
def uptoBulkEntries {H : Type} : List (Lit × DataW H) → Nat
  | [] => 0
  | x :: r => uptoBulkEntry x + uptoBulkEntries r
def uptoBulkEntry {H : Type} : Lit × DataW H → Nat
  | (.string bytes, d) => bytes.length + uptoBulk d + 1
  | (_, d) => uptoBulk d + 1
 end
def uptoSmall : (H : Type) → List (DataW H) → Bool := fun _ ds => decide (uptoBulkAll ds ≤ 1048576)
def OpenSpec.upto (s : _root_.Go.ChangeSpec) : _root_.Go.OpenSpec := { _root_.Go.OpenSpec.ofChange s with cond := some uptoSmall }

/-- 'torchonlaw26.CompareFirst', WHERE WHAT IT READS IS OF BULK AT MOST 1048576: true; the input reads as it did. -/
def compareFirstUptoRow : OpenClaim := { program := "ytjlfedhkpdogbaa", sum := "a3b546d83df8a2fcb6d67703c177964aa2832910a51cfe59b374ebe22d7be05f", func := "torchon/torchonlaw26.CompareFirst", spec := "compareFirst", unfollowed := true, recurses := true, apart := false, narrowed := true }
def CompareFirstUptoSaid : Prop := compareFirstUptoRow.holds Try.pinned (OpenSpec.upto compareFirstSpec)

/-- 'torchonlaw26.CompareSame', WHERE WHAT IT READS IS OF BULK AT MOST 1048576: true; the input reads as it did. -/
def compareSameUptoRow : OpenClaim := { program := "ytjlfedhkpdogbaa", sum := "a3b546d83df8a2fcb6d67703c177964aa2832910a51cfe59b374ebe22d7be05f", func := "torchon/torchonlaw26.CompareSame", spec := "compareSame", unfollowed := true, recurses := true, apart := false, narrowed := true }
def CompareSameUptoSaid : Prop := compareSameUptoRow.holds Try.pinned (OpenSpec.upto compareSameSpec)

/-- 'torchonlaw26.CompareHistories', WHERE WHAT IT READS IS OF BULK AT MOST 1048576: true; the input reads as it did. -/
def compareHistoriesUptoRow : OpenClaim := { program := "ytjlfedhkpdogbaa", sum := "a3b546d83df8a2fcb6d67703c177964aa2832910a51cfe59b374ebe22d7be05f", func := "torchon/torchonlaw26.CompareHistories", spec := "compareHistories", unfollowed := true, recurses := true, apart := false, narrowed := true }
def CompareHistoriesUptoSaid : Prop := compareHistoriesUptoRow.holds Try.pinned (OpenSpec.upto compareHistoriesSpec)

/-- 'torchonlaw26.CompareBegins', WHERE WHAT IT READS IS OF BULK AT MOST 1048576: true; the input reads as it did. -/
def compareBeginsUptoRow : OpenClaim := { program := "ytjlfedhkpdogbaa", sum := "a3b546d83df8a2fcb6d67703c177964aa2832910a51cfe59b374ebe22d7be05f", func := "torchon/torchonlaw26.CompareBegins", spec := "compareBegins", unfollowed := true, recurses := true, apart := false, narrowed := true }
def CompareBeginsUptoSaid : Prop := compareBeginsUptoRow.holds Try.pinned (OpenSpec.upto compareBeginsSpec)

/-- 'torchonlaw26.CompareBreaks', WHERE WHAT IT READS IS OF BULK AT MOST 1048576: true; the input reads as it did. -/
def compareBreaksUptoRow : OpenClaim := { program := "ytjlfedhkpdogbaa", sum := "a3b546d83df8a2fcb6d67703c177964aa2832910a51cfe59b374ebe22d7be05f", func := "torchon/torchonlaw26.CompareBreaks", spec := "compareBreaks", unfollowed := true, recurses := true, apart := false, narrowed := true }
def CompareBreaksUptoSaid : Prop := compareBreaksUptoRow.holds Try.pinned (OpenSpec.upto compareBreaksSpec)

/-- 'torchonlaw26.CompareCommon', WHERE WHAT IT READS IS OF BULK AT MOST 1048576: true; the input reads as it did. -/
def compareCommonUptoRow : OpenClaim := { program := "ytjlfedhkpdogbaa", sum := "a3b546d83df8a2fcb6d67703c177964aa2832910a51cfe59b374ebe22d7be05f", func := "torchon/torchonlaw26.CompareCommon", spec := "compareCommon", unfollowed := true, recurses := true, apart := false, narrowed := true }
def CompareCommonUptoSaid : Prop := compareCommonUptoRow.holds Try.pinned (OpenSpec.upto compareCommonSpec)

end Rows
end Go.Proofs.Ytjlfedhkpdogbaa
