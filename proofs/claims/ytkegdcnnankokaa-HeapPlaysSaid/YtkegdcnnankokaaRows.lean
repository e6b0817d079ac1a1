/-
  No cell of these rows narrows 'for every input' (looked for: loops, veiled, ifaces, maps, wideKeys, modest, calm, conditions, laid).
  DERIVED. THE GIVEN ROWS OF THIS SEAT. 11 by the template 'for every input the law returns true; each argument reads behind the call as it read before'; 0 by the template 'total and deterministic' (their statements: YtkegdcnnankokaaTotals.lean).
  GIVEN WITH THE SEED: the statements are not yours to turn. If you find one false, say at which input.
  Laid BY PROGRAM, IN A SANDBOX (cutbox-rows.mjs): the forced cells as the released guide's own fill.sh prints them over the translation 3b6884a626e91d98… (all of the seat's roots in one cut). By AI agents, Wed Nov 11 2026. No macro, syntax, notation, axiom, sorry.
-/
import Derived.Test.YtkegdcnnankokaaChecked
import GoSem.Claim
import GoSem.ClaimJoined
import GoSem.ClaimMapViews
import Derived.JoinedTies
import Derived.KernelRfl
namespace Go.Proofs.Ytkegdcnnankokaa
/- THE CELL 'sum', in the pinned program and in every row, IS THE sha256 OF THE DUMP (.gsa) THAT YtkegdcnnankokaaProg.lean LOADS. Nothing in Lean hashes anything: it is a label: what it is worth is what the hold of that sum in a sandbox is worth. -/
noncomputable def Try.pinned : Pinned := { name := "ytkegdcnnankokaa", sum := "3b6884a626e91d98ecb0b7806040e69fb4982d253460321ac1c4f444ab321d43", checked := Try.checked }
namespace Rows
def none {H : Type} : Left H := { results := [], args := [] }

/-- 'pinfoldlaw30.GanttSpans': WHATEVER THE INPUT: true; the input reads as it did. -/
def ganttSpansSpec : ChangeSpec := { name := "ganttSpans", fn := fun _ => fun
  | [d] => { results := [.lit (.bool true)], args := [d] }
  | _ => none }
def ganttSpansRow : OpenClaim := { program := "ytkegdcnnankokaa", sum := "3b6884a626e91d98ecb0b7806040e69fb4982d253460321ac1c4f444ab321d43", func := "pinfold/pinfoldlaw30.GanttSpans", spec := "ganttSpans", inPlace := ["internal/abi.NoEscape"], recurses := true, plainKeys := false, apart := false }
def GanttSpansSaid : Prop := ganttSpansRow.holds Try.pinned (OpenSpec.ofChange ganttSpansSpec)

/-- ITS FALSE NEIGHBOUR: 'it returns false'. Refute it at one input. -/
def ganttSpansWrong : ChangeSpec := { name := "ganttSpans", fn := fun _ => fun
  | [d] => { results := [.lit (.bool false)], args := [d] }
  | _ => none }
def GanttSpansWrongFalsely : Prop := ganttSpansRow.holds Try.pinned (OpenSpec.ofChange ganttSpansWrong)

/-- 'pinfoldlaw30.GanttDraws': WHATEVER THE INPUT: true; the input reads as it did. -/
def ganttDrawsSpec : ChangeSpec := { name := "ganttDraws", fn := fun _ => fun
  | [d1, d2, d3] => { results := [.lit (.bool true)], args := [d1, d2, d3] }
  | _ => none }
def ganttDrawsRow : OpenClaim := { program := "ytkegdcnnankokaa", sum := "3b6884a626e91d98ecb0b7806040e69fb4982d253460321ac1c4f444ab321d43", func := "pinfold/pinfoldlaw30.GanttDraws", spec := "ganttDraws", inPlace := ["internal/abi.NoEscape"], recurses := true, plainKeys := false, apart := false }
def GanttDrawsSaid : Prop := ganttDrawsRow.holds Try.pinned (OpenSpec.ofChange ganttDrawsSpec)

/-- ITS FALSE NEIGHBOUR: 'it returns false'. Refute it at one input. -/
def ganttDrawsWrong : ChangeSpec := { name := "ganttDraws", fn := fun _ => fun
  | [d1, d2, d3] => { results := [.lit (.bool false)], args := [d1, d2, d3] }
  | _ => none }
def GanttDrawsWrongFalsely : Prop := ganttDrawsRow.holds Try.pinned (OpenSpec.ofChange ganttDrawsWrong)

/-- 'pinfoldlaw30.GanttCounts': WHATEVER THE INPUT: true; the input reads as it did. -/
def ganttCountsSpec : ChangeSpec := { name := "ganttCounts", fn := fun _ => fun
  | [d1, d2, d3] => { results := [.lit (.bool true)], args := [d1, d2, d3] }
  | _ => none }
def ganttCountsRow : OpenClaim := { program := "ytkegdcnnankokaa", sum := "3b6884a626e91d98ecb0b7806040e69fb4982d253460321ac1c4f444ab321d43", func := "pinfold/pinfoldlaw30.GanttCounts", spec := "ganttCounts", inPlace := ["internal/abi.NoEscape"], unfollowed := true, recurses := true, plainKeys := false, apart := false }
def GanttCountsSaid : Prop := ganttCountsRow.holds Try.pinned (OpenSpec.ofChange ganttCountsSpec)

/-- ITS FALSE NEIGHBOUR: 'it returns false'. Refute it at one input. -/
def ganttCountsWrong : ChangeSpec := { name := "ganttCounts", fn := fun _ => fun
  | [d1, d2, d3] => { results := [.lit (.bool false)], args := [d1, d2, d3] }
  | _ => none }
def GanttCountsWrongFalsely : Prop := ganttCountsRow.holds Try.pinned (OpenSpec.ofChange ganttCountsWrong)

/-- 'pinfoldlaw10.ExecSteps': WHATEVER THE INPUT: true; the input reads as it did. -/
def execStepsSpec : ChangeSpec := { name := "execSteps", fn := fun _ => fun
  | [d1, d2, d3] => { results := [.lit (.bool true)], args := [d1, d2, d3] }
  | _ => none }
def execStepsRow : OpenClaim := { program := "ytkegdcnnankokaa", sum := "3b6884a626e91d98ecb0b7806040e69fb4982d253460321ac1c4f444ab321d43", func := "pinfold/pinfoldlaw10.ExecSteps", spec := "execSteps", plainKeys := false, apart := false }
def ExecStepsSaid : Prop := execStepsRow.holds Try.pinned (OpenSpec.ofChange execStepsSpec)

/-- ITS FALSE NEIGHBOUR: 'it returns false'. Refute it at one input. -/
def execStepsWrong : ChangeSpec := { name := "execSteps", fn := fun _ => fun
  | [d1, d2, d3] => { results := [.lit (.bool false)], args := [d1, d2, d3] }
  | _ => none }
def ExecStepsWrongFalsely : Prop := execStepsRow.holds Try.pinned (OpenSpec.ofChange execStepsWrong)

/-- 'pinfoldlaw10.ExecHangs': WHATEVER THE INPUT: true; the input reads as it did. -/
def execHangsSpec : ChangeSpec := { name := "execHangs", fn := fun _ => fun
  | [d1, d2, d3] => { results := [.lit (.bool true)], args := [d1, d2, d3] }
  | _ => none }
def execHangsRow : OpenClaim := { program := "ytkegdcnnankokaa", sum := "3b6884a626e91d98ecb0b7806040e69fb4982d253460321ac1c4f444ab321d43", func := "pinfold/pinfoldlaw10.ExecHangs", spec := "execHangs", plainKeys := false, apart := false }
def ExecHangsSaid : Prop := execHangsRow.holds Try.pinned (OpenSpec.ofChange execHangsSpec)

/-- ITS FALSE NEIGHBOUR: 'it returns false'. Refute it at one input. -/
def execHangsWrong : ChangeSpec := { name := "execHangs", fn := fun _ => fun
  | [d1, d2, d3] => { results := [.lit (.bool false)], args := [d1, d2, d3] }
  | _ => none }
def ExecHangsWrongFalsely : Prop := execHangsRow.holds Try.pinned (OpenSpec.ofChange execHangsWrong)

/-- 'pinfoldlaw10.ExecRuns': WHATEVER THE INPUT: true; the input reads as it did. -/
def execRunsSpec : ChangeSpec := { name := "execRuns", fn := fun _ => fun
  | [d1, d2, d3] => { results := [.lit (.bool true)], args := [d1, d2, d3] }
  | _ => none }
def execRunsRow : OpenClaim := { program := "ytkegdcnnankokaa", sum := "3b6884a626e91d98ecb0b7806040e69fb4982d253460321ac1c4f444ab321d43", func := "pinfold/pinfoldlaw10.ExecRuns", spec := "execRuns", plainKeys := false, apart := false }
def ExecRunsSaid : Prop := execRunsRow.holds Try.pinned (OpenSpec.ofChange execRunsSpec)

/-- ITS FALSE NEIGHBOUR: 'it returns false'. Refute it at one input. -/
def execRunsWrong : ChangeSpec := { name := "execRuns", fn := fun _ => fun
  | [d1, d2, d3] => { results := [.lit (.bool false)], args := [d1, d2, d3] }
  | _ => none }
def ExecRunsWrongFalsely : Prop := execRunsRow.holds Try.pinned (OpenSpec.ofChange execRunsWrong)

/-- 'pinfoldlaw10.ExecSplits': WHATEVER THE INPUT: true; the input reads as it did. -/
def execSplitsSpec : ChangeSpec := { name := "execSplits", fn := fun _ => fun
  | [d1, d2, d3] => { results := [.lit (.bool true)], args := [d1, d2, d3] }
  | _ => none }
def execSplitsRow : OpenClaim := { program := "ytkegdcnnankokaa", sum := "3b6884a626e91d98ecb0b7806040e69fb4982d253460321ac1c4f444ab321d43", func := "pinfold/pinfoldlaw10.ExecSplits", spec := "execSplits", plainKeys := false, apart := false }
def ExecSplitsSaid : Prop := execSplitsRow.holds Try.pinned (OpenSpec.ofChange execSplitsSpec)

/-- ITS FALSE NEIGHBOUR: 'it returns false'. Refute it at one input. -/
def execSplitsWrong : ChangeSpec := { name := "execSplits", fn := fun _ => fun
  | [d1, d2, d3] => { results := [.lit (.bool false)], args := [d1, d2, d3] }
  | _ => none }
def ExecSplitsWrongFalsely : Prop := execSplitsRow.holds Try.pinned (OpenSpec.ofChange execSplitsWrong)

/-- 'pinfoldlaw06.HeapSorts': WHATEVER THE INPUT: true; the input reads as it did. -/
def heapSortsSpec : ChangeSpec := { name := "heapSorts", fn := fun _ => fun
  | [d] => { results := [.lit (.bool true)], args := [d] }
  | _ => none }
def heapSortsRow : OpenClaim := { program := "ytkegdcnnankokaa", sum := "3b6884a626e91d98ecb0b7806040e69fb4982d253460321ac1c4f444ab321d43", func := "pinfold/pinfoldlaw06.HeapSorts", spec := "heapSorts", plainKeys := false, apart := false }
def HeapSortsSaid : Prop := heapSortsRow.holds Try.pinned (OpenSpec.ofChange heapSortsSpec)

/-- ITS FALSE NEIGHBOUR: 'it returns false'. Refute it at one input. -/
def heapSortsWrong : ChangeSpec := { name := "heapSorts", fn := fun _ => fun
  | [d] => { results := [.lit (.bool false)], args := [d] }
  | _ => none }
def HeapSortsWrongFalsely : Prop := heapSortsRow.holds Try.pinned (OpenSpec.ofChange heapSortsWrong)

/-- 'pinfoldlaw06.HeapSplits': WHATEVER THE INPUT: true; the input reads as it did. -/
def heapSplitsSpec : ChangeSpec := { name := "heapSplits", fn := fun _ => fun
  | [d1, d2, d3] => { results := [.lit (.bool true)], args := [d1, d2, d3] }
  | _ => none }
def heapSplitsRow : OpenClaim := { program := "ytkegdcnnankokaa", sum := "3b6884a626e91d98ecb0b7806040e69fb4982d253460321ac1c4f444ab321d43", func := "pinfold/pinfoldlaw06.HeapSplits", spec := "heapSplits", plainKeys := false, apart := false }
def HeapSplitsSaid : Prop := heapSplitsRow.holds Try.pinned (OpenSpec.ofChange heapSplitsSpec)

/-- ITS FALSE NEIGHBOUR: 'it returns false'. Refute it at one input. -/
def heapSplitsWrong : ChangeSpec := { name := "heapSplits", fn := fun _ => fun
  | [d1, d2, d3] => { results := [.lit (.bool false)], args := [d1, d2, d3] }
  | _ => none }
def HeapSplitsWrongFalsely : Prop := heapSplitsRow.holds Try.pinned (OpenSpec.ofChange heapSplitsWrong)

/-- 'pinfoldlaw06.HeapPlays': WHATEVER THE INPUT: true; the input reads as it did. -/
def heapPlaysSpec : ChangeSpec := { name := "heapPlays", fn := fun _ => fun
  | [d] => { results := [.lit (.bool true)], args := [d] }
  | _ => none }
def heapPlaysRow : OpenClaim := { program := "ytkegdcnnankokaa", sum := "3b6884a626e91d98ecb0b7806040e69fb4982d253460321ac1c4f444ab321d43", func := "pinfold/pinfoldlaw06.HeapPlays", spec := "heapPlays", unfollowed := true, recurses := true, plainKeys := false, apart := false }
def HeapPlaysSaid : Prop := heapPlaysRow.holds Try.pinned (OpenSpec.ofChange heapPlaysSpec)

/-- ITS FALSE NEIGHBOUR: 'it returns false'. Refute it at one input. -/
def heapPlaysWrong : ChangeSpec := { name := "heapPlays", fn := fun _ => fun
  | [d] => { results := [.lit (.bool false)], args := [d] }
  | _ => none }
def HeapPlaysWrongFalsely : Prop := heapPlaysRow.holds Try.pinned (OpenSpec.ofChange heapPlaysWrong)

/-- 'pinfoldlaw06.HeapNobody': WHATEVER THE INPUT: true; the input reads as it did. -/
def heapNobodySpec : ChangeSpec := { name := "heapNobody", fn := fun _ => fun
  | [d1, d2] => { results := [.lit (.bool true)], args := [d1, d2] }
  | _ => none }
def heapNobodyRow : OpenClaim := { program := "ytkegdcnnankokaa", sum := "3b6884a626e91d98ecb0b7806040e69fb4982d253460321ac1c4f444ab321d43", func := "pinfold/pinfoldlaw06.HeapNobody", spec := "heapNobody", unfollowed := true, recurses := true, plainKeys := false, apart := false }
def HeapNobodySaid : Prop := heapNobodyRow.holds Try.pinned (OpenSpec.ofChange heapNobodySpec)

/-- ITS FALSE NEIGHBOUR: 'it returns false'. Refute it at one input. -/
def heapNobodyWrong : ChangeSpec := { name := "heapNobody", fn := fun _ => fun
  | [d1, d2] => { results := [.lit (.bool false)], args := [d1, d2] }
  | _ => none }
def HeapNobodyWrongFalsely : Prop := heapNobodyRow.holds Try.pinned (OpenSpec.ofChange heapNobodyWrong)

/- THE SECOND FORM. 'bulk': how many values and letters a reading holds, each counted each time it is reached (what is shared counts as often as it is met; a slice's spare places count too). A statement '..UptoSaid' is the law's where the arguments, and the package variables that the reading takes, are together of bulk at most 1048576: NARROWER than '..Said'. Prove '..Said' where nothing that the law and all that it calls make is longer than what came in: it says more and counts as full. Else prove '..UptoSaid'. A law counts once. -/
mutual
def uptoBulk {H : Type} : DataW H → Nat
  | .lit (.string bytes) => bytes.length + 1
  | .lit _ => 1
  | .nil => 1
  | .ptr d => uptoBulk d + 1
  | .slice elems spare => uptoBulkAll elems + uptoBulkAll spare + 1
  | .agg parts => uptoBulkAll parts + 1
  | .iface _ d => uptoBulk d + 1
  | .map entries => uptoBulkEntries entries + 1
  | .held _ => 1
def uptoBulkAll {H : Type} : List (DataW H) → Nat
  | [] => 0
  | d :: r => uptoBulk d + uptoBulkAll r
def uptoBulkEntries {H : Type} : List (Lit × DataW H) → Nat
  | [] => 0
  | x :: r => uptoBulkEntry x + uptoBulkEntries r
def uptoBulkEntry {H : Type} : Lit × DataW H → Nat
  | (.string bytes, d) => bytes.length + uptoBulk d + 1
  | (_, d) => uptoBulk d + 1
 end
def uptoSmall : (H : Type) → List (DataW H) → Bool := fun _ ds => decide (uptoBulkAll ds ≤ 1048576)
def OpenSpec.upto (s : _root_.Go.ChangeSpec) : _root_.Go.OpenSpec := { _root_.Go.OpenSpec.ofChange s with cond := some uptoSmall }

/-- 'pinfoldlaw30.GanttSpans', WHERE WHAT IT READS IS OF BULK AT MOST 1048576: true; the input reads as it did. -/
def ganttSpansUptoRow : OpenClaim := { program := "ytkegdcnnankokaa", sum := "3b6884a626e91d98ecb0b7806040e69fb4982d253460321ac1c4f444ab321d43", func := "pinfold/pinfoldlaw30.GanttSpans", spec := "ganttSpans", inPlace := ["internal/abi.NoEscape"], recurses := true, plainKeys := false, apart := false, narrowed := true }
def GanttSpansUptoSaid : Prop := ganttSpansUptoRow.holds Try.pinned (OpenSpec.upto ganttSpansSpec)

/-- 'pinfoldlaw30.GanttDraws', WHERE WHAT IT READS IS OF BULK AT MOST 1048576: true; the input reads as it did. -/
def ganttDrawsUptoRow : OpenClaim := { program := "ytkegdcnnankokaa", sum := "3b6884a626e91d98ecb0b7806040e69fb4982d253460321ac1c4f444ab321d43", func := "pinfold/pinfoldlaw30.GanttDraws", spec := "ganttDraws", inPlace := ["internal/abi.NoEscape"], recurses := true, plainKeys := false, apart := false, narrowed := true }
def GanttDrawsUptoSaid : Prop := ganttDrawsUptoRow.holds Try.pinned (OpenSpec.upto ganttDrawsSpec)

/-- 'pinfoldlaw30.GanttCounts', WHERE WHAT IT READS IS OF BULK AT MOST 1048576: true; the input reads as it did. -/
def ganttCountsUptoRow : OpenClaim := { program := "ytkegdcnnankokaa", sum := "3b6884a626e91d98ecb0b7806040e69fb4982d253460321ac1c4f444ab321d43", func := "pinfold/pinfoldlaw30.GanttCounts", spec := "ganttCounts", inPlace := ["internal/abi.NoEscape"], unfollowed := true, recurses := true, plainKeys := false, apart := false, narrowed := true }
def GanttCountsUptoSaid : Prop := ganttCountsUptoRow.holds Try.pinned (OpenSpec.upto ganttCountsSpec)

/-- 'pinfoldlaw10.ExecSteps', WHERE WHAT IT READS IS OF BULK AT MOST 1048576: true; the input reads as it did. -/
def execStepsUptoRow : OpenClaim := { program := "ytkegdcnnankokaa", sum := "3b6884a626e91d98ecb0b7806040e69fb4982d253460321ac1c4f444ab321d43", func := "pinfold/pinfoldlaw10.ExecSteps", spec := "execSteps", plainKeys := false, apart := false, narrowed := true }
def ExecStepsUptoSaid : Prop := execStepsUptoRow.holds Try.pinned (OpenSpec.upto execStepsSpec)

/-- 'pinfoldlaw10.ExecHangs', WHERE WHAT IT READS IS OF BULK AT MOST 1048576: true; the input reads as it did. -/
def execHangsUptoRow : OpenClaim := { program := "ytkegdcnnankokaa", sum := "3b6884a626e91d98ecb0b7806040e69fb4982d253460321ac1c4f444ab321d43", func := "pinfold/pinfoldlaw10.ExecHangs", spec := "execHangs", plainKeys := false, apart := false, narrowed := true }
def ExecHangsUptoSaid : Prop := execHangsUptoRow.holds Try.pinned (OpenSpec.upto execHangsSpec)

/-- 'pinfoldlaw10.ExecRuns', WHERE WHAT IT READS IS OF BULK AT MOST 1048576: true; the input reads as it did. -/
def execRunsUptoRow : OpenClaim := { program := "ytkegdcnnankokaa", sum := "3b6884a626e91d98ecb0b7806040e69fb4982d253460321ac1c4f444ab321d43", func := "pinfold/pinfoldlaw10.ExecRuns", spec := "execRuns", plainKeys := false, apart := false, narrowed := true }
def ExecRunsUptoSaid : Prop := execRunsUptoRow.holds Try.pinned (OpenSpec.upto execRunsSpec)

/-- 'pinfoldlaw10.ExecSplits', WHERE WHAT IT READS IS OF BULK AT MOST 1048576: true; the input reads as it did. -/
def execSplitsUptoRow : OpenClaim := { program := "ytkegdcnnankokaa", sum := "3b6884a626e91d98ecb0b7806040e69fb4982d253460321ac1c4f444ab321d43", func := "pinfold/pinfoldlaw10.ExecSplits", spec := "execSplits", plainKeys := false, apart := false, narrowed := true }
def ExecSplitsUptoSaid : Prop := execSplitsUptoRow.holds Try.pinned (OpenSpec.upto execSplitsSpec)

/-- 'pinfoldlaw06.HeapSorts', WHERE WHAT IT READS IS OF BULK AT MOST 1048576: true; the input reads as it did. -/
def heapSortsUptoRow : OpenClaim := { program := "ytkegdcnnankokaa", sum := "3b6884a626e91d98ecb0b7806040e69fb4982d253460321ac1c4f444ab321d43", func := "pinfold/pinfoldlaw06.HeapSorts", spec := "heapSorts", plainKeys := false, apart := false, narrowed := true }
def HeapSortsUptoSaid : Prop := heapSortsUptoRow.holds Try.pinned (OpenSpec.upto heapSortsSpec)

/-- 'pinfoldlaw06.HeapSplits', WHERE WHAT IT READS IS OF BULK AT MOST 1048576: true; the input reads as it did. -/
def heapSplitsUptoRow : OpenClaim := { program := "ytkegdcnnankokaa", sum := "3b6884a626e91d98ecb0b7806040e69fb4982d253460321ac1c4f444ab321d43", func := "pinfold/pinfoldlaw06.HeapSplits", spec := "heapSplits", plainKeys := false, apart := false, narrowed := true }
def HeapSplitsUptoSaid : Prop := heapSplitsUptoRow.holds Try.pinned (OpenSpec.upto heapSplitsSpec)

/-- 'pinfoldlaw06.HeapPlays', WHERE WHAT IT READS IS OF BULK AT MOST 1048576: true; the input reads as it did. -/
def heapPlaysUptoRow : OpenClaim := { program := "ytkegdcnnankokaa", sum := "3b6884a626e91d98ecb0b7806040e69fb4982d253460321ac1c4f444ab321d43", func := "pinfold/pinfoldlaw06.HeapPlays", spec := "heapPlays", unfollowed := true, recurses := true, plainKeys := false, apart := false, narrowed := true }
def HeapPlaysUptoSaid : Prop := heapPlaysUptoRow.holds Try.pinned (OpenSpec.upto heapPlaysSpec)

/-- 'pinfoldlaw06.HeapNobody', WHERE WHAT IT READS IS OF BULK AT MOST 1048576: true; the input reads as it did. -/
def heapNobodyUptoRow : OpenClaim := { program := "ytkegdcnnankokaa", sum := "3b6884a626e91d98ecb0b7806040e69fb4982d253460321ac1c4f444ab321d43", func := "pinfold/pinfoldlaw06.HeapNobody", spec := "heapNobody", unfollowed := true, recurses := true, plainKeys := false, apart := false, narrowed := true }
def HeapNobodyUptoSaid : Prop := heapNobodyUptoRow.holds Try.pinned (OpenSpec.upto heapNobodySpec)

end Rows
end Go.Proofs.Ytkegdcnnankokaa
