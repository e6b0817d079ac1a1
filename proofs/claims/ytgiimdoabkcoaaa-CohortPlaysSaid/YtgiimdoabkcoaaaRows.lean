/-
  No cell of these rows narrows 'for every input' (looked for: loops, veiled, ifaces, maps, wideKeys, modest, calm, conditions, laid).
  DERIVED. THE GIVEN ROWS OF THIS SEAT. 12 by the template 'for every input the law returns true; each argument reads behind the call as it read before'; 0 by the template 'total and deterministic' (their statements: YtgiimdoabkcoaaaTotals.lean).
  GIVEN WITH THE SEED: the statements are not yours to turn. If you find one false, say at which input.
  Laid BY PROGRAM, IN A SANDBOX (cutbox-rows.mjs): the forced cells as the released guide's own fill.sh prints them over the translation b3661fa38f973b18… (all of the seat's roots in one cut). By AI agents, Wed Nov 11 2026. No macro, syntax, notation, axiom, sorry.
-/
import Derived.Test.YtgiimdoabkcoaaaChecked
import GoSem.Claim
import GoSem.ClaimJoined
import GoSem.ClaimMapViews
import Derived.JoinedTies
import Derived.KernelRfl
namespace Go.Proofs.Ytgiimdoabkcoaaa
/- THE CELL 'sum', in the pinned program and in every row, IS THE sha256 OF THE DUMP (.gsa) THAT YtgiimdoabkcoaaaProg.lean LOADS. Nothing in Lean hashes anything: it is a label: what it is worth is what the hold of that sum in a sandbox is worth. -/
noncomputable def Try.pinned : Pinned := { name := "ytgiimdoabkcoaaa", sum := "b3661fa38f973b1880fea2684c10e189375be4bfa1f789c3fd3d1be53ba558e6", checked := Try.checked }
namespace Rows
def none {H : Type} : Left H := { results := [], args := [] }

/-- 'pinfoldlaw26.LintWays': WHATEVER THE INPUT: true; the input reads as it did. -/
def lintWaysSpec : ChangeSpec := { name := "lintWays", fn := fun _ => fun
  | [d1, d2] => { results := [.lit (.bool true)], args := [d1, d2] }
  | _ => none }
def lintWaysRow : OpenClaim := { program := "ytgiimdoabkcoaaa", sum := "b3661fa38f973b1880fea2684c10e189375be4bfa1f789c3fd3d1be53ba558e6", func := "pinfold/pinfoldlaw26.LintWays", spec := "lintWays", unfollowed := true, recurses := true, apart := false }
def LintWaysSaid : Prop := lintWaysRow.holds Try.pinned (OpenSpec.ofChange lintWaysSpec)

/-- ITS FALSE NEIGHBOUR: 'it returns false'. Refute it at one input. -/
def lintWaysWrong : ChangeSpec := { name := "lintWays", fn := fun _ => fun
  | [d1, d2] => { results := [.lit (.bool false)], args := [d1, d2] }
  | _ => none }
def LintWaysWrongFalsely : Prop := lintWaysRow.holds Try.pinned (OpenSpec.ofChange lintWaysWrong)

/-- 'pinfoldlaw26.LintLocks': WHATEVER THE INPUT: true; the input reads as it did. -/
def lintLocksSpec : ChangeSpec := { name := "lintLocks", fn := fun _ => fun
  | [d1, d2] => { results := [.lit (.bool true)], args := [d1, d2] }
  | _ => none }
def lintLocksRow : OpenClaim := { program := "ytgiimdoabkcoaaa", sum := "b3661fa38f973b1880fea2684c10e189375be4bfa1f789c3fd3d1be53ba558e6", func := "pinfold/pinfoldlaw26.LintLocks", spec := "lintLocks", unfollowed := true, recurses := true, apart := false }
def LintLocksSaid : Prop := lintLocksRow.holds Try.pinned (OpenSpec.ofChange lintLocksSpec)

/-- ITS FALSE NEIGHBOUR: 'it returns false'. Refute it at one input. -/
def lintLocksWrong : ChangeSpec := { name := "lintLocks", fn := fun _ => fun
  | [d1, d2] => { results := [.lit (.bool false)], args := [d1, d2] }
  | _ => none }
def LintLocksWrongFalsely : Prop := lintLocksRow.holds Try.pinned (OpenSpec.ofChange lintLocksWrong)

/-- 'pinfoldlaw26.LintStraight': WHATEVER THE INPUT: true; the input reads as it did. -/
def lintStraightSpec : ChangeSpec := { name := "lintStraight", fn := fun _ => fun
  | [d1, d2] => { results := [.lit (.bool true)], args := [d1, d2] }
  | _ => none }
def lintStraightRow : OpenClaim := { program := "ytgiimdoabkcoaaa", sum := "b3661fa38f973b1880fea2684c10e189375be4bfa1f789c3fd3d1be53ba558e6", func := "pinfold/pinfoldlaw26.LintStraight", spec := "lintStraight", unfollowed := true, recurses := true, apart := false }
def LintStraightSaid : Prop := lintStraightRow.holds Try.pinned (OpenSpec.ofChange lintStraightSpec)

/-- ITS FALSE NEIGHBOUR: 'it returns false'. Refute it at one input. -/
def lintStraightWrong : ChangeSpec := { name := "lintStraight", fn := fun _ => fun
  | [d1, d2] => { results := [.lit (.bool false)], args := [d1, d2] }
  | _ => none }
def LintStraightWrongFalsely : Prop := lintStraightRow.holds Try.pinned (OpenSpec.ofChange lintStraightWrong)

/-- 'pinfoldlaw26.LintRuns': WHATEVER THE INPUT: true; the input reads as it did. -/
def lintRunsSpec : ChangeSpec := { name := "lintRuns", fn := fun _ => fun
  | [d1, d2] => { results := [.lit (.bool true)], args := [d1, d2] }
  | _ => none }
def lintRunsRow : OpenClaim := { program := "ytgiimdoabkcoaaa", sum := "b3661fa38f973b1880fea2684c10e189375be4bfa1f789c3fd3d1be53ba558e6", func := "pinfold/pinfoldlaw26.LintRuns", spec := "lintRuns", unfollowed := true, recurses := true, apart := false }
def LintRunsSaid : Prop := lintRunsRow.holds Try.pinned (OpenSpec.ofChange lintRunsSpec)

/-- ITS FALSE NEIGHBOUR: 'it returns false'. Refute it at one input. -/
def lintRunsWrong : ChangeSpec := { name := "lintRuns", fn := fun _ => fun
  | [d1, d2] => { results := [.lit (.bool false)], args := [d1, d2] }
  | _ => none }
def LintRunsWrongFalsely : Prop := lintRunsRow.holds Try.pinned (OpenSpec.ofChange lintRunsWrong)

/-- 'pinfoldlaw19.FlatKeeps': WHATEVER THE INPUT: true; the input reads as it did. -/
def flatKeepsSpec : ChangeSpec := { name := "flatKeeps", fn := fun _ => fun
  | [d1, d2, d3] => { results := [.lit (.bool true)], args := [d1, d2, d3] }
  | _ => none }
def flatKeepsRow : OpenClaim := { program := "ytgiimdoabkcoaaa", sum := "b3661fa38f973b1880fea2684c10e189375be4bfa1f789c3fd3d1be53ba558e6", func := "pinfold/pinfoldlaw19.FlatKeeps", spec := "flatKeeps", unfollowed := true, recurses := true, apart := false }
def FlatKeepsSaid : Prop := flatKeepsRow.holds Try.pinned (OpenSpec.ofChange flatKeepsSpec)

/-- ITS FALSE NEIGHBOUR: 'it returns false'. Refute it at one input. -/
def flatKeepsWrong : ChangeSpec := { name := "flatKeeps", fn := fun _ => fun
  | [d1, d2, d3] => { results := [.lit (.bool false)], args := [d1, d2, d3] }
  | _ => none }
def FlatKeepsWrongFalsely : Prop := flatKeepsRow.holds Try.pinned (OpenSpec.ofChange flatKeepsWrong)

/-- 'pinfoldlaw19.FlatSplits': WHATEVER THE INPUT: true; the input reads as it did. -/
def flatSplitsSpec : ChangeSpec := { name := "flatSplits", fn := fun _ => fun
  | [d1, d2, d3] => { results := [.lit (.bool true)], args := [d1, d2, d3] }
  | _ => none }
def flatSplitsRow : OpenClaim := { program := "ytgiimdoabkcoaaa", sum := "b3661fa38f973b1880fea2684c10e189375be4bfa1f789c3fd3d1be53ba558e6", func := "pinfold/pinfoldlaw19.FlatSplits", spec := "flatSplits", unfollowed := true, recurses := true, apart := false }
def FlatSplitsSaid : Prop := flatSplitsRow.holds Try.pinned (OpenSpec.ofChange flatSplitsSpec)

/-- ITS FALSE NEIGHBOUR: 'it returns false'. Refute it at one input. -/
def flatSplitsWrong : ChangeSpec := { name := "flatSplits", fn := fun _ => fun
  | [d1, d2, d3] => { results := [.lit (.bool false)], args := [d1, d2, d3] }
  | _ => none }
def FlatSplitsWrongFalsely : Prop := flatSplitsRow.holds Try.pinned (OpenSpec.ofChange flatSplitsWrong)

/-- 'pinfoldlaw19.FlatPlays': WHATEVER THE INPUT: true; the input reads as it did. -/
def flatPlaysSpec : ChangeSpec := { name := "flatPlays", fn := fun _ => fun
  | [d1, d2, d3] => { results := [.lit (.bool true)], args := [d1, d2, d3] }
  | _ => none }
def flatPlaysRow : OpenClaim := { program := "ytgiimdoabkcoaaa", sum := "b3661fa38f973b1880fea2684c10e189375be4bfa1f789c3fd3d1be53ba558e6", func := "pinfold/pinfoldlaw19.FlatPlays", spec := "flatPlays", unfollowed := true, recurses := true, apart := false }
def FlatPlaysSaid : Prop := flatPlaysRow.holds Try.pinned (OpenSpec.ofChange flatPlaysSpec)

/-- ITS FALSE NEIGHBOUR: 'it returns false'. Refute it at one input. -/
def flatPlaysWrong : ChangeSpec := { name := "flatPlays", fn := fun _ => fun
  | [d1, d2, d3] => { results := [.lit (.bool false)], args := [d1, d2, d3] }
  | _ => none }
def FlatPlaysWrongFalsely : Prop := flatPlaysRow.holds Try.pinned (OpenSpec.ofChange flatPlaysWrong)

/-- 'pinfoldlaw23.JudgeBegins': WHATEVER THE INPUT: true; the input reads as it did. -/
def judgeBeginsSpec : ChangeSpec := { name := "judgeBegins", fn := fun _ => fun
  | [d1, d2, d3] => { results := [.lit (.bool true)], args := [d1, d2, d3] }
  | _ => none }
def judgeBeginsRow : OpenClaim := { program := "ytgiimdoabkcoaaa", sum := "b3661fa38f973b1880fea2684c10e189375be4bfa1f789c3fd3d1be53ba558e6", func := "pinfold/pinfoldlaw23.JudgeBegins", spec := "judgeBegins", unfollowed := true, recurses := true, apart := false }
def JudgeBeginsSaid : Prop := judgeBeginsRow.holds Try.pinned (OpenSpec.ofChange judgeBeginsSpec)

/-- ITS FALSE NEIGHBOUR: 'it returns false'. Refute it at one input. -/
def judgeBeginsWrong : ChangeSpec := { name := "judgeBegins", fn := fun _ => fun
  | [d1, d2, d3] => { results := [.lit (.bool false)], args := [d1, d2, d3] }
  | _ => none }
def JudgeBeginsWrongFalsely : Prop := judgeBeginsRow.holds Try.pinned (OpenSpec.ofChange judgeBeginsWrong)

/-- 'pinfoldlaw14.CohortOrder': WHATEVER THE INPUT: true; the input reads as it did. -/
def cohortOrderSpec : ChangeSpec := { name := "cohortOrder", fn := fun _ => fun
  | [d] => { results := [.lit (.bool true)], args := [d] }
  | _ => none }
def cohortOrderRow : OpenClaim := { program := "ytgiimdoabkcoaaa", sum := "b3661fa38f973b1880fea2684c10e189375be4bfa1f789c3fd3d1be53ba558e6", func := "pinfold/pinfoldlaw14.CohortOrder", spec := "cohortOrder", unfollowed := true, recurses := true, apart := false }
def CohortOrderSaid : Prop := cohortOrderRow.holds Try.pinned (OpenSpec.ofChange cohortOrderSpec)

/-- ITS FALSE NEIGHBOUR: 'it returns false'. Refute it at one input. -/
def cohortOrderWrong : ChangeSpec := { name := "cohortOrder", fn := fun _ => fun
  | [d] => { results := [.lit (.bool false)], args := [d] }
  | _ => none }
def CohortOrderWrongFalsely : Prop := cohortOrderRow.holds Try.pinned (OpenSpec.ofChange cohortOrderWrong)

/-- 'pinfoldlaw14.CohortBudget': WHATEVER THE INPUT: true; the input reads as it did. -/
def cohortBudgetSpec : ChangeSpec := { name := "cohortBudget", fn := fun _ => fun
  | [d] => { results := [.lit (.bool true)], args := [d] }
  | _ => none }
def cohortBudgetRow : OpenClaim := { program := "ytgiimdoabkcoaaa", sum := "b3661fa38f973b1880fea2684c10e189375be4bfa1f789c3fd3d1be53ba558e6", func := "pinfold/pinfoldlaw14.CohortBudget", spec := "cohortBudget", unfollowed := true, recurses := true, apart := false }
def CohortBudgetSaid : Prop := cohortBudgetRow.holds Try.pinned (OpenSpec.ofChange cohortBudgetSpec)

/-- ITS FALSE NEIGHBOUR: 'it returns false'. Refute it at one input. -/
def cohortBudgetWrong : ChangeSpec := { name := "cohortBudget", fn := fun _ => fun
  | [d] => { results := [.lit (.bool false)], args := [d] }
  | _ => none }
def CohortBudgetWrongFalsely : Prop := cohortBudgetRow.holds Try.pinned (OpenSpec.ofChange cohortBudgetWrong)

/-- 'pinfoldlaw14.CohortPlays': WHATEVER THE INPUT: true; the input reads as it did. -/
def cohortPlaysSpec : ChangeSpec := { name := "cohortPlays", fn := fun _ => fun
  | [d1, d2] => { results := [.lit (.bool true)], args := [d1, d2] }
  | _ => none }
def cohortPlaysRow : OpenClaim := { program := "ytgiimdoabkcoaaa", sum := "b3661fa38f973b1880fea2684c10e189375be4bfa1f789c3fd3d1be53ba558e6", func := "pinfold/pinfoldlaw14.CohortPlays", spec := "cohortPlays", unfollowed := true, recurses := true, apart := false }
def CohortPlaysSaid : Prop := cohortPlaysRow.holds Try.pinned (OpenSpec.ofChange cohortPlaysSpec)

/-- ITS FALSE NEIGHBOUR: 'it returns false'. Refute it at one input. -/
def cohortPlaysWrong : ChangeSpec := { name := "cohortPlays", fn := fun _ => fun
  | [d1, d2] => { results := [.lit (.bool false)], args := [d1, d2] }
  | _ => none }
def CohortPlaysWrongFalsely : Prop := cohortPlaysRow.holds Try.pinned (OpenSpec.ofChange cohortPlaysWrong)

/-- 'pinfoldlaw14.CohortOwner': WHATEVER THE INPUT: true; the input reads as it did. -/
def cohortOwnerSpec : ChangeSpec := { name := "cohortOwner", fn := fun _ => fun
  | [d1, d2, d3] => { results := [.lit (.bool true)], args := [d1, d2, d3] }
  | _ => none }
def cohortOwnerRow : OpenClaim := { program := "ytgiimdoabkcoaaa", sum := "b3661fa38f973b1880fea2684c10e189375be4bfa1f789c3fd3d1be53ba558e6", func := "pinfold/pinfoldlaw14.CohortOwner", spec := "cohortOwner", unfollowed := true, recurses := true, apart := false }
def CohortOwnerSaid : Prop := cohortOwnerRow.holds Try.pinned (OpenSpec.ofChange cohortOwnerSpec)

/-- ITS FALSE NEIGHBOUR: 'it returns false'. Refute it at one input. -/
def cohortOwnerWrong : ChangeSpec := { name := "cohortOwner", fn := fun _ => fun
  | [d1, d2, d3] => { results := [.lit (.bool false)], args := [d1, d2, d3] }
  | _ => none }
def CohortOwnerWrongFalsely : Prop := cohortOwnerRow.holds Try.pinned (OpenSpec.ofChange cohortOwnerWrong)

/- THE SECOND FORM. 'bulk': how many values and letters a reading holds, each counted each time it is reached (what is shared counts as often as it is met; a slice's spare places count too). A statement '..UptoSaid' is the law's where the arguments, and the package variables that the reading takes, are together of bulk at most 1048576: NARROWER than '..Said'. Prove '..Said' where nothing that the law and all that it calls make is longer than what came in: it says more and counts as full. Else prove '..UptoSaid'. A law counts once. -/
mutual
def uptoBulk {H : Type} : DataW H → Nat
  | .lit (.string bytes) => bytes.length + 1
  | .lit _ => 1
  | .nil => 1
  | .ptr d => uptoBulk d + 1
  | .slice elems spare => uptoBulkAll elems + uptoBulkAll spare + 1
  | .agg parts => uptoBulkAll parts + 1
  | .iface _ d => uptoBulk d + 1
  | .map entries => uptoBulkEntries entries + 1
  | .held _ => 1
def uptoBulkAll {H : Type} : List (DataW H) → Nat
  | [] => 0
  | d :: r => uptoBulk d + uptoBulkAll r
def uptoBulkEntries {H : Type} : List (Lit × DataW H) → Nat
  | [] => 0
  | x :: r => uptoBulkEntry x + uptoBulkEntries r
def uptoBulkEntry {H : Type} : Lit × DataW H → Nat
  | (.string bytes, d) => bytes.length + uptoBulk d + 1
  | (_, d) => uptoBulk d + 1
 end
def uptoSmall : (H : Type) → List (DataW H) → Bool := fun _ ds => decide (uptoBulkAll ds ≤ 1048576)
def OpenSpec.upto (s : _root_.Go.ChangeSpec) : _root_.Go.OpenSpec := { _root_.Go.OpenSpec.ofChange s with cond := some uptoSmall }

/-- 'pinfoldlaw26.LintWays', WHERE WHAT IT READS IS OF BULK AT MOST 1048576: true; the input reads as it did. -/
def lintWaysUptoRow : OpenClaim := { program := "ytgiimdoabkcoaaa", sum := "b3661fa38f973b1880fea2684c10e189375be4bfa1f789c3fd3d1be53ba558e6", func := "pinfold/pinfoldlaw26.LintWays", spec := "lintWays", unfollowed := true, recurses := true, apart := false, narrowed := true }
def LintWaysUptoSaid : Prop := lintWaysUptoRow.holds Try.pinned (OpenSpec.upto lintWaysSpec)

/-- 'pinfoldlaw26.LintLocks', WHERE WHAT IT READS IS OF BULK AT MOST 1048576: true; the input reads as it did. -/
def lintLocksUptoRow : OpenClaim := { program := "ytgiimdoabkcoaaa", sum := "b3661fa38f973b1880fea2684c10e189375be4bfa1f789c3fd3d1be53ba558e6", func := "pinfold/pinfoldlaw26.LintLocks", spec := "lintLocks", unfollowed := true, recurses := true, apart := false, narrowed := true }
def LintLocksUptoSaid : Prop := lintLocksUptoRow.holds Try.pinned (OpenSpec.upto lintLocksSpec)

/-- 'pinfoldlaw26.LintStraight', WHERE WHAT IT READS IS OF BULK AT MOST 1048576: true; the input reads as it did. -/
def lintStraightUptoRow : OpenClaim := { program := "ytgiimdoabkcoaaa", sum := "b3661fa38f973b1880fea2684c10e189375be4bfa1f789c3fd3d1be53ba558e6", func := "pinfold/pinfoldlaw26.LintStraight", spec := "lintStraight", unfollowed := true, recurses := true, apart := false, narrowed := true }
def LintStraightUptoSaid : Prop := lintStraightUptoRow.holds Try.pinned (OpenSpec.upto lintStraightSpec)

/-- 'pinfoldlaw26.LintRuns', WHERE WHAT IT READS IS OF BULK AT MOST 1048576: true; the input reads as it did. -/
def lintRunsUptoRow : OpenClaim := { program := "ytgiimdoabkcoaaa", sum := "b3661fa38f973b1880fea2684c10e189375be4bfa1f789c3fd3d1be53ba558e6", func := "pinfold/pinfoldlaw26.LintRuns", spec := "lintRuns", unfollowed := true, recurses := true, apart := false, narrowed := true }
def LintRunsUptoSaid : Prop := lintRunsUptoRow.holds Try.pinned (OpenSpec.upto lintRunsSpec)

/-- 'pinfoldlaw19.FlatKeeps', WHERE WHAT IT READS IS OF BULK AT MOST 1048576: true; the input reads as it did. -/
def flatKeepsUptoRow : OpenClaim := { program := "ytgiimdoabkcoaaa", sum := "b3661fa38f973b1880fea2684c10e189375be4bfa1f789c3fd3d1be53ba558e6", func := "pinfold/pinfoldlaw19.FlatKeeps", spec := "flatKeeps", unfollowed := true, recurses := true, apart := false, narrowed := true }
def FlatKeepsUptoSaid : Prop := flatKeepsUptoRow.holds Try.pinned (OpenSpec.upto flatKeepsSpec)

/-- 'pinfoldlaw19.FlatSplits', WHERE WHAT IT READS IS OF BULK AT MOST 1048576: true; the input reads as it did. -/
def flatSplitsUptoRow : OpenClaim := { program := "ytgiimdoabkcoaaa", sum := "b3661fa38f973b1880fea2684c10e189375be4bfa1f789c3fd3d1be53ba558e6", func := "pinfold/pinfoldlaw19.FlatSplits", spec := "flatSplits", unfollowed := true, recurses := true, apart := false, narrowed := true }
def FlatSplitsUptoSaid : Prop := flatSplitsUptoRow.holds Try.pinned (OpenSpec.upto flatSplitsSpec)

/-- 'pinfoldlaw19.FlatPlays', WHERE WHAT IT READS IS OF BULK AT MOST 1048576: true; the input reads as it did. -/
def flatPlaysUptoRow : OpenClaim := { program := "ytgiimdoabkcoaaa", sum := "b3661fa38f973b1880fea2684c10e189375be4bfa1f789c3fd3d1be53ba558e6", func := "pinfold/pinfoldlaw19.FlatPlays", spec := "flatPlays", unfollowed := true, recurses := true, apart := false, narrowed := true }
def FlatPlaysUptoSaid : Prop := flatPlaysUptoRow.holds Try.pinned (OpenSpec.upto flatPlaysSpec)

/-- 'pinfoldlaw23.JudgeBegins', WHERE WHAT IT READS IS OF BULK AT MOST 1048576: true; the input reads as it did. -/
def judgeBeginsUptoRow : OpenClaim := { program := "ytgiimdoabkcoaaa", sum := "b3661fa38f973b1880fea2684c10e189375be4bfa1f789c3fd3d1be53ba558e6", func := "pinfold/pinfoldlaw23.JudgeBegins", spec := "judgeBegins", unfollowed := true, recurses := true, apart := false, narrowed := true }
def JudgeBeginsUptoSaid : Prop := judgeBeginsUptoRow.holds Try.pinned (OpenSpec.upto judgeBeginsSpec)

/-- 'pinfoldlaw14.CohortOrder', WHERE WHAT IT READS IS OF BULK AT MOST 1048576: true; the input reads as it did. -/
def cohortOrderUptoRow : OpenClaim := { program := "ytgiimdoabkcoaaa", sum := "b3661fa38f973b1880fea2684c10e189375be4bfa1f789c3fd3d1be53ba558e6", func := "pinfold/pinfoldlaw14.CohortOrder", spec := "cohortOrder", unfollowed := true, recurses := true, apart := false, narrowed := true }
def CohortOrderUptoSaid : Prop := cohortOrderUptoRow.holds Try.pinned (OpenSpec.upto cohortOrderSpec)

/-- 'pinfoldlaw14.CohortBudget', WHERE WHAT IT READS IS OF BULK AT MOST 1048576: true; the input reads as it did. -/
def cohortBudgetUptoRow : OpenClaim := { program := "ytgiimdoabkcoaaa", sum := "b3661fa38f973b1880fea2684c10e189375be4bfa1f789c3fd3d1be53ba558e6", func := "pinfold/pinfoldlaw14.CohortBudget", spec := "cohortBudget", unfollowed := true, recurses := true, apart := false, narrowed := true }
def CohortBudgetUptoSaid : Prop := cohortBudgetUptoRow.holds Try.pinned (OpenSpec.upto cohortBudgetSpec)

/-- 'pinfoldlaw14.CohortPlays', WHERE WHAT IT READS IS OF BULK AT MOST 1048576: true; the input reads as it did. -/
def cohortPlaysUptoRow : OpenClaim := { program := "ytgiimdoabkcoaaa", sum := "b3661fa38f973b1880fea2684c10e189375be4bfa1f789c3fd3d1be53ba558e6", func := "pinfold/pinfoldlaw14.CohortPlays", spec := "cohortPlays", unfollowed := true, recurses := true, apart := false, narrowed := true }
def CohortPlaysUptoSaid : Prop := cohortPlaysUptoRow.holds Try.pinned (OpenSpec.upto cohortPlaysSpec)

/-- 'pinfoldlaw14.CohortOwner', WHERE WHAT IT READS IS OF BULK AT MOST 1048576: true; the input reads as it did. -/
def cohortOwnerUptoRow : OpenClaim := { program := "ytgiimdoabkcoaaa", sum := "b3661fa38f973b1880fea2684c10e189375be4bfa1f789c3fd3d1be53ba558e6", func := "pinfold/pinfoldlaw14.CohortOwner", spec := "cohortOwner", unfollowed := true, recurses := true, apart := false, narrowed := true }
def CohortOwnerUptoSaid : Prop := cohortOwnerUptoRow.holds Try.pinned (OpenSpec.upto cohortOwnerSpec)

end Rows
end Go.Proofs.Ytgiimdoabkcoaaa
