/-
  No cell of these rows narrows 'for every input' (looked for: loops, veiled, ifaces, maps, wideKeys, modest, calm, conditions, laid).
  DERIVED. THE GIVEN ROWS OF THIS SEAT. 5 by the template 'for every input the law returns true; each argument reads behind the call as it read before'; 0 by the template 'total and deterministic' (their statements: YtepiiaeiogdphaaTotals.lean).
  GIVEN WITH THE SEED: the statements are not yours to turn. If you find one false, say at which input.
  Laid BY PROGRAM, IN A SANDBOX (cutbox-rows.mjs): the forced cells as the released guide's own fill.sh prints them over the translation 2148cfefcf93a49b… (all of the seat's roots in one cut). By AI agents, Wed Nov 11 2026. No macro, syntax, notation, axiom, sorry.
-/
import Derived.Test.YtepiiaeiogdphaaChecked
import GoSem.Claim
import GoSem.ClaimJoined
import GoSem.ClaimMapViews
import Derived.JoinedTies
import Derived.KernelRfl
namespace Go.Proofs.Ytepiiaeiogdphaa
/- THE CELL 'sum', in the pinned program and in every row, IS THE sha256 OF THE DUMP (.gsa) THAT YtepiiaeiogdphaaProg.lean LOADS. Nothing in Lean hashes anything: it is a label: what it is worth is what the hold of that sum in a sandbox is worth. -/
noncomputable def Try.pinned : Pinned := { name := "ytepiiaeiogdphaa", sum := "2148cfefcf93a49bf837e4e1bdcdf9aab50d4f058df73f83e81aa879802df378", checked := Try.checked }
namespace Rows
def none {H : Type} : Left H := { results := [], args := [] }

/-- 'torchontop.TopTraces': WHATEVER THE INPUT: true; the input reads as it did. -/
def topTracesSpec : ChangeSpec := { name := "topTraces", fn := fun _ => fun
  | [d1, d2] => { results := [.lit (.bool true)], args := [d1, d2] }
  | _ => none }
def topTracesRow : OpenClaim := { program := "ytepiiaeiogdphaa", sum := "2148cfefcf93a49bf837e4e1bdcdf9aab50d4f058df73f83e81aa879802df378", func := "torchon/torchontop.TopTraces", spec := "topTraces", inPlace := ["internal/bytealg.IndexByteString"], unfollowed := true, recurses := true, plainKeys := false, apart := false }
def TopTracesSaid : Prop := topTracesRow.holds Try.pinned (OpenSpec.ofChange topTracesSpec)

/-- ITS FALSE NEIGHBOUR: 'it returns false'. Refute it at one input. -/
def topTracesWrong : ChangeSpec := { name := "topTraces", fn := fun _ => fun
  | [d1, d2] => { results := [.lit (.bool false)], args := [d1, d2] }
  | _ => none }
def TopTracesWrongFalsely : Prop := topTracesRow.holds Try.pinned (OpenSpec.ofChange topTracesWrong)

/-- 'torchonlaw27.TraceWrong': WHATEVER THE INPUT: true; the input reads as it did. -/
def traceWrongSpec : ChangeSpec := { name := "traceWrong", fn := fun _ => fun
  | [d1, d2] => { results := [.lit (.bool true)], args := [d1, d2] }
  | _ => none }
def traceWrongRow : OpenClaim := { program := "ytepiiaeiogdphaa", sum := "2148cfefcf93a49bf837e4e1bdcdf9aab50d4f058df73f83e81aa879802df378", func := "torchon/torchonlaw27.TraceWrong", spec := "traceWrong", inPlace := ["internal/bytealg.IndexByteString"], unfollowed := true, recurses := true, plainKeys := false, apart := false }
def TraceWrongSaid : Prop := traceWrongRow.holds Try.pinned (OpenSpec.ofChange traceWrongSpec)

/-- ITS FALSE NEIGHBOUR: 'it returns false'. Refute it at one input. -/
def traceWrongWrong : ChangeSpec := { name := "traceWrong", fn := fun _ => fun
  | [d1, d2] => { results := [.lit (.bool false)], args := [d1, d2] }
  | _ => none }
def TraceWrongWrongFalsely : Prop := traceWrongRow.holds Try.pinned (OpenSpec.ofChange traceWrongWrong)

/-- 'torchonlaw27.TraceSuspects': WHATEVER THE INPUT: true; the input reads as it did. -/
def traceSuspectsSpec : ChangeSpec := { name := "traceSuspects", fn := fun _ => fun
  | [d1, d2] => { results := [.lit (.bool true)], args := [d1, d2] }
  | _ => none }
def traceSuspectsRow : OpenClaim := { program := "ytepiiaeiogdphaa", sum := "2148cfefcf93a49bf837e4e1bdcdf9aab50d4f058df73f83e81aa879802df378", func := "torchon/torchonlaw27.TraceSuspects", spec := "traceSuspects", inPlace := ["internal/bytealg.IndexByteString"], unfollowed := true, recurses := true, plainKeys := false, apart := false }
def TraceSuspectsSaid : Prop := traceSuspectsRow.holds Try.pinned (OpenSpec.ofChange traceSuspectsSpec)

/-- ITS FALSE NEIGHBOUR: 'it returns false'. Refute it at one input. -/
def traceSuspectsWrong : ChangeSpec := { name := "traceSuspects", fn := fun _ => fun
  | [d1, d2] => { results := [.lit (.bool false)], args := [d1, d2] }
  | _ => none }
def TraceSuspectsWrongFalsely : Prop := traceSuspectsRow.holds Try.pinned (OpenSpec.ofChange traceSuspectsWrong)

/-- 'torchonlaw27.TraceSpreads': WHATEVER THE INPUT: true; the input reads as it did. -/
def traceSpreadsSpec : ChangeSpec := { name := "traceSpreads", fn := fun _ => fun
  | [d] => { results := [.lit (.bool true)], args := [d] }
  | _ => none }
def traceSpreadsRow : OpenClaim := { program := "ytepiiaeiogdphaa", sum := "2148cfefcf93a49bf837e4e1bdcdf9aab50d4f058df73f83e81aa879802df378", func := "torchon/torchonlaw27.TraceSpreads", spec := "traceSpreads", inPlace := ["internal/bytealg.IndexByteString"], unfollowed := true, recurses := true, plainKeys := false, apart := false }
def TraceSpreadsSaid : Prop := traceSpreadsRow.holds Try.pinned (OpenSpec.ofChange traceSpreadsSpec)

/-- ITS FALSE NEIGHBOUR: 'it returns false'. Refute it at one input. -/
def traceSpreadsWrong : ChangeSpec := { name := "traceSpreads", fn := fun _ => fun
  | [d] => { results := [.lit (.bool false)], args := [d] }
  | _ => none }
def TraceSpreadsWrongFalsely : Prop := traceSpreadsRow.holds Try.pinned (OpenSpec.ofChange traceSpreadsWrong)

/-- 'torchonlaw27.TraceTurned': WHATEVER THE INPUT: true; the input reads as it did. -/
def traceTurnedSpec : ChangeSpec := { name := "traceTurned", fn := fun _ => fun
  | [d1, d2] => { results := [.lit (.bool true)], args := [d1, d2] }
  | _ => none }
def traceTurnedRow : OpenClaim := { program := "ytepiiaeiogdphaa", sum := "2148cfefcf93a49bf837e4e1bdcdf9aab50d4f058df73f83e81aa879802df378", func := "torchon/torchonlaw27.TraceTurned", spec := "traceTurned", inPlace := ["internal/bytealg.IndexByteString"], unfollowed := true, recurses := true, plainKeys := false, apart := false }
def TraceTurnedSaid : Prop := traceTurnedRow.holds Try.pinned (OpenSpec.ofChange traceTurnedSpec)

/-- ITS FALSE NEIGHBOUR: 'it returns false'. Refute it at one input. -/
def traceTurnedWrong : ChangeSpec := { name := "traceTurned", fn := fun _ => fun
  | [d1, d2] => { results := [.lit (.bool false)], args := [d1, d2] }
  | _ => none }
def TraceTurnedWrongFalsely : Prop := traceTurnedRow.holds Try.pinned (OpenSpec.ofChange traceTurnedWrong)

/- THE SECOND FORM. 'bulk': how many values and letters a reading holds, each counted each time it is reached (what is shared counts as often as it is met; a slice's spare places count too). A statement '..UptoSaid' is the law's where the arguments, and the package variables that the reading takes, are together of bulk at most 1048576: NARROWER than '..Said'. Prove '..Said' where nothing that the law and all that it calls make is longer than what came in: it says more and counts as full. Else prove '..UptoSaid'. A law counts once. -/
mutual
def uptoBulk {H : Type} : DataW H → Nat
  | .lit (.string bytes) => bytes.length + 1
  | .lit _ => 1
  | .nil => 1
  | .ptr d => uptoBulk d + 1
  | .slice elems spare => uptoBulkAll elems + uptoBulkAll spare + 1
  | .agg parts => uptoBulkAll parts + 1
  | .iface _ d => uptoBulk d + 1
  | .map entries => uptoBulkEntries entries + 1
  | .held _ => 1
def uptoBulkAll {H : Type} : List (DataW H) → Nat
  | [] => 0
  | d :: r => uptoBulk d + uptoBulkAll r
def uptoBulkEntries {H : Type} : List (Lit × DataW H) → Nat
  | [] => 0
  | x :: r => uptoBulkEntry x + uptoBulkEntries r
def uptoBulkEntry {H : Type} : Lit × DataW H → Nat
  | (.string bytes, d) => bytes.length + uptoBulk d + 1
  | (_, d) => uptoBulk d + 1
 end
def uptoSmall : (H : Type) → List (DataW H) → Bool := fun _ ds => decide (uptoBulkAll ds ≤ 1048576)
def OpenSpec.upto (s : _root_.Go.ChangeSpec) : _root_.Go.OpenSpec := { _root_.Go.OpenSpec.ofChange s with cond := some uptoSmall }

/-- 'torchontop.TopTraces', WHERE WHAT IT READS IS OF BULK AT MOST 1048576: true; the input reads as it did. -/
def topTracesUptoRow : OpenClaim := { program := "ytepiiaeiogdphaa", sum := "2148cfefcf93a49bf837e4e1bdcdf9aab50d4f058df73f83e81aa879802df378", func := "torchon/torchontop.TopTraces", spec := "topTraces", inPlace := ["internal/bytealg.IndexByteString"], unfollowed := true, recurses := true, plainKeys := false, apart := false, narrowed := true }
def TopTracesUptoSaid : Prop := topTracesUptoRow.holds Try.pinned (OpenSpec.upto topTracesSpec)

/-- 'torchonlaw27.TraceWrong', WHERE WHAT IT READS IS OF BULK AT MOST 1048576: true; the input reads as it did. -/
def traceWrongUptoRow : OpenClaim := { program := "ytepiiaeiogdphaa", sum := "2148cfefcf93a49bf837e4e1bdcdf9aab50d4f058df73f83e81aa879802df378", func := "torchon/torchonlaw27.TraceWrong", spec := "traceWrong", inPlace := ["internal/bytealg.IndexByteString"], unfollowed := true, recurses := true, plainKeys := false, apart := false, narrowed := true }
def TraceWrongUptoSaid : Prop := traceWrongUptoRow.holds Try.pinned (OpenSpec.upto traceWrongSpec)

/-- 'torchonlaw27.TraceSuspects', WHERE WHAT IT READS IS OF BULK AT MOST 1048576: true; the input reads as it did. -/
def traceSuspectsUptoRow : OpenClaim := { program := "ytepiiaeiogdphaa", sum := "2148cfefcf93a49bf837e4e1bdcdf9aab50d4f058df73f83e81aa879802df378", func := "torchon/torchonlaw27.TraceSuspects", spec := "traceSuspects", inPlace := ["internal/bytealg.IndexByteString"], unfollowed := true, recurses := true, plainKeys := false, apart := false, narrowed := true }
def TraceSuspectsUptoSaid : Prop := traceSuspectsUptoRow.holds Try.pinned (OpenSpec.upto traceSuspectsSpec)

/-- 'torchonlaw27.TraceSpreads', WHERE WHAT IT READS IS OF BULK AT MOST 1048576: true; the input reads as it did. -/
def traceSpreadsUptoRow : OpenClaim := { program := "ytepiiaeiogdphaa", sum := "2148cfefcf93a49bf837e4e1bdcdf9aab50d4f058df73f83e81aa879802df378", func := "torchon/torchonlaw27.TraceSpreads", spec := "traceSpreads", inPlace := ["internal/bytealg.IndexByteString"], unfollowed := true, recurses := true, plainKeys := false, apart := false, narrowed := true }
def TraceSpreadsUptoSaid : Prop := traceSpreadsUptoRow.holds Try.pinned (OpenSpec.upto traceSpreadsSpec)

/-- 'torchonlaw27.TraceTurned', WHERE WHAT IT READS IS OF BULK AT MOST 1048576: true; the input reads as it did. -/
def traceTurnedUptoRow : OpenClaim := { program := "ytepiiaeiogdphaa", sum := "2148cfefcf93a49bf837e4e1bdcdf9aab50d4f058df73f83e81aa879802df378", func := "torchon/torchonlaw27.TraceTurned", spec := "traceTurned", inPlace := ["internal/bytealg.IndexByteString"], unfollowed := true, recurses := true, plainKeys := false, apart := false, narrowed := true }
def TraceTurnedUptoSaid : Prop := traceTurnedUptoRow.holds Try.pinned (OpenSpec.upto traceTurnedSpec)

end Rows
end Go.Proofs.Ytepiiaeiogdphaa
