/-
  No cell of these rows narrows 'for every input' (looked for: loops, veiled, ifaces, maps, wideKeys, modest, calm, conditions, laid).
  DERIVED. THE GIVEN ROWS OF THIS SEAT. 9 by the template 'for every input the law returns true; each argument reads behind the call as it read before'; 0 by the template 'total and deterministic' (their statements: YtidhcdifmcffcaaTotals.lean).
  GIVEN WITH THE SEED: the statements are not yours to turn. If you find one false, say at which input.
  Laid BY PROGRAM, IN A SANDBOX (cutbox-rows.mjs): the forced cells as the released guide's own fill.sh prints them over the translation a4c2b2e54b41fadb… (all of the seat's roots in one cut). By AI agents, Wed Nov 11 2026. No macro, syntax, notation, axiom, sorry.
-/
import Derived.Test.YtidhcdifmcffcaaChecked
import GoSem.Claim
import GoSem.ClaimJoined
import GoSem.ClaimMapViews
import Derived.JoinedTies
import Derived.KernelRfl
namespace Go.Proofs.Ytidhcdifmcffcaa
/- THE CELL 'sum', in the pinned program and in every row, IS THE sha256 OF THE DUMP (.gsa) THAT YtidhcdifmcffcaaProg.lean LOADS. Nothing in Lean hashes anything: it is a label: what it is worth is what the hold of that sum in a sandbox is worth. -/
noncomputable def Try.pinned : Pinned := { name := "ytidhcdifmcffcaa", sum := "a4c2b2e54b41fadb48e3ff24226e44c93980309e6e95b2a9bc1b644c48b7e811", checked := Try.checked }
namespace Rows
def none {H : Type} : Left H := { results := [], args := [] }

/-- 'pinfoldlaw32.WheelTells': WHATEVER THE INPUT: true; the input reads as it did. -/
def wheelTellsSpec : ChangeSpec := { name := "wheelTells", fn := fun _ => fun
  | [d1, d2] => { results := [.lit (.bool true)], args := [d1, d2] }
  | _ => none }
def wheelTellsRow : OpenClaim := { program := "ytidhcdifmcffcaa", sum := "a4c2b2e54b41fadb48e3ff24226e44c93980309e6e95b2a9bc1b644c48b7e811", func := "pinfold/pinfoldlaw32.WheelTells", spec := "wheelTells", unfollowed := true, recurses := true, apart := false }
def WheelTellsSaid : Prop := wheelTellsRow.holds Try.pinned (OpenSpec.ofChange wheelTellsSpec)

/-- ITS FALSE NEIGHBOUR: 'it returns false'. Refute it at one input. -/
def wheelTellsWrong : ChangeSpec := { name := "wheelTells", fn := fun _ => fun
  | [d1, d2] => { results := [.lit (.bool false)], args := [d1, d2] }
  | _ => none }
def WheelTellsWrongFalsely : Prop := wheelTellsRow.holds Try.pinned (OpenSpec.ofChange wheelTellsWrong)

/-- 'pinfoldlaw32.WheelPlays': WHATEVER THE INPUT: true; the input reads as it did. -/
def wheelPlaysSpec : ChangeSpec := { name := "wheelPlays", fn := fun _ => fun
  | [d1, d2] => { results := [.lit (.bool true)], args := [d1, d2] }
  | _ => none }
def wheelPlaysRow : OpenClaim := { program := "ytidhcdifmcffcaa", sum := "a4c2b2e54b41fadb48e3ff24226e44c93980309e6e95b2a9bc1b644c48b7e811", func := "pinfold/pinfoldlaw32.WheelPlays", spec := "wheelPlays", unfollowed := true, recurses := true, apart := false }
def WheelPlaysSaid : Prop := wheelPlaysRow.holds Try.pinned (OpenSpec.ofChange wheelPlaysSpec)

/-- ITS FALSE NEIGHBOUR: 'it returns false'. Refute it at one input. -/
def wheelPlaysWrong : ChangeSpec := { name := "wheelPlays", fn := fun _ => fun
  | [d1, d2] => { results := [.lit (.bool false)], args := [d1, d2] }
  | _ => none }
def WheelPlaysWrongFalsely : Prop := wheelPlaysRow.holds Try.pinned (OpenSpec.ofChange wheelPlaysWrong)

/-- 'pinfoldlaw32.WheelSkips': WHATEVER THE INPUT: true; the input reads as it did. -/
def wheelSkipsSpec : ChangeSpec := { name := "wheelSkips", fn := fun _ => fun
  | [d1, d2, d3] => { results := [.lit (.bool true)], args := [d1, d2, d3] }
  | _ => none }
def wheelSkipsRow : OpenClaim := { program := "ytidhcdifmcffcaa", sum := "a4c2b2e54b41fadb48e3ff24226e44c93980309e6e95b2a9bc1b644c48b7e811", func := "pinfold/pinfoldlaw32.WheelSkips", spec := "wheelSkips", unfollowed := true, recurses := true, apart := false }
def WheelSkipsSaid : Prop := wheelSkipsRow.holds Try.pinned (OpenSpec.ofChange wheelSkipsSpec)

/-- ITS FALSE NEIGHBOUR: 'it returns false'. Refute it at one input. -/
def wheelSkipsWrong : ChangeSpec := { name := "wheelSkips", fn := fun _ => fun
  | [d1, d2, d3] => { results := [.lit (.bool false)], args := [d1, d2, d3] }
  | _ => none }
def WheelSkipsWrongFalsely : Prop := wheelSkipsRow.holds Try.pinned (OpenSpec.ofChange wheelSkipsWrong)

/-- 'pinfoldlaw27.StuckRows': WHATEVER THE INPUT: true; the input reads as it did. -/
def stuckRowsSpec : ChangeSpec := { name := "stuckRows", fn := fun _ => fun
  | [d1, d2] => { results := [.lit (.bool true)], args := [d1, d2] }
  | _ => none }
def stuckRowsRow : OpenClaim := { program := "ytidhcdifmcffcaa", sum := "a4c2b2e54b41fadb48e3ff24226e44c93980309e6e95b2a9bc1b644c48b7e811", func := "pinfold/pinfoldlaw27.StuckRows", spec := "stuckRows", unfollowed := true, recurses := true, apart := false }
def StuckRowsSaid : Prop := stuckRowsRow.holds Try.pinned (OpenSpec.ofChange stuckRowsSpec)

/-- ITS FALSE NEIGHBOUR: 'it returns false'. Refute it at one input. -/
def stuckRowsWrong : ChangeSpec := { name := "stuckRows", fn := fun _ => fun
  | [d1, d2] => { results := [.lit (.bool false)], args := [d1, d2] }
  | _ => none }
def StuckRowsWrongFalsely : Prop := stuckRowsRow.holds Try.pinned (OpenSpec.ofChange stuckRowsWrong)

/-- 'pinfoldlaw35.CensusNumbers': WHATEVER THE INPUT: true; the input reads as it did. -/
def censusNumbersSpec : ChangeSpec := { name := "censusNumbers", fn := fun _ => fun
  | [d1, d2, d3] => { results := [.lit (.bool true)], args := [d1, d2, d3] }
  | _ => none }
def censusNumbersRow : OpenClaim := { program := "ytidhcdifmcffcaa", sum := "a4c2b2e54b41fadb48e3ff24226e44c93980309e6e95b2a9bc1b644c48b7e811", func := "pinfold/pinfoldlaw35.CensusNumbers", spec := "censusNumbers", unfollowed := true, recurses := true, apart := false }
def CensusNumbersSaid : Prop := censusNumbersRow.holds Try.pinned (OpenSpec.ofChange censusNumbersSpec)

/-- ITS FALSE NEIGHBOUR: 'it returns false'. Refute it at one input. -/
def censusNumbersWrong : ChangeSpec := { name := "censusNumbers", fn := fun _ => fun
  | [d1, d2, d3] => { results := [.lit (.bool false)], args := [d1, d2, d3] }
  | _ => none }
def CensusNumbersWrongFalsely : Prop := censusNumbersRow.holds Try.pinned (OpenSpec.ofChange censusNumbersWrong)

/-- 'pinfoldlaw35.CensusRises': WHATEVER THE INPUT: true; the input reads as it did. -/
def censusRisesSpec : ChangeSpec := { name := "censusRises", fn := fun _ => fun
  | [d1, d2, d3] => { results := [.lit (.bool true)], args := [d1, d2, d3] }
  | _ => none }
def censusRisesRow : OpenClaim := { program := "ytidhcdifmcffcaa", sum := "a4c2b2e54b41fadb48e3ff24226e44c93980309e6e95b2a9bc1b644c48b7e811", func := "pinfold/pinfoldlaw35.CensusRises", spec := "censusRises", unfollowed := true, recurses := true, apart := false }
def CensusRisesSaid : Prop := censusRisesRow.holds Try.pinned (OpenSpec.ofChange censusRisesSpec)

/-- ITS FALSE NEIGHBOUR: 'it returns false'. Refute it at one input. -/
def censusRisesWrong : ChangeSpec := { name := "censusRises", fn := fun _ => fun
  | [d1, d2, d3] => { results := [.lit (.bool false)], args := [d1, d2, d3] }
  | _ => none }
def CensusRisesWrongFalsely : Prop := censusRisesRow.holds Try.pinned (OpenSpec.ofChange censusRisesWrong)

/-- 'pinfoldlaw35.CensusStates': WHATEVER THE INPUT: true; the input reads as it did. -/
def censusStatesSpec : ChangeSpec := { name := "censusStates", fn := fun _ => fun
  | [d] => { results := [.lit (.bool true)], args := [d] }
  | _ => none }
def censusStatesRow : OpenClaim := { program := "ytidhcdifmcffcaa", sum := "a4c2b2e54b41fadb48e3ff24226e44c93980309e6e95b2a9bc1b644c48b7e811", func := "pinfold/pinfoldlaw35.CensusStates", spec := "censusStates", unfollowed := true, recurses := true, apart := false }
def CensusStatesSaid : Prop := censusStatesRow.holds Try.pinned (OpenSpec.ofChange censusStatesSpec)

/-- ITS FALSE NEIGHBOUR: 'it returns false'. Refute it at one input. -/
def censusStatesWrong : ChangeSpec := { name := "censusStates", fn := fun _ => fun
  | [d] => { results := [.lit (.bool false)], args := [d] }
  | _ => none }
def CensusStatesWrongFalsely : Prop := censusStatesRow.holds Try.pinned (OpenSpec.ofChange censusStatesWrong)

/-- 'pinfoldlaw35.CensusEvents': WHATEVER THE INPUT: true; the input reads as it did. -/
def censusEventsSpec : ChangeSpec := { name := "censusEvents", fn := fun _ => fun
  | [d1, d2, d3] => { results := [.lit (.bool true)], args := [d1, d2, d3] }
  | _ => none }
def censusEventsRow : OpenClaim := { program := "ytidhcdifmcffcaa", sum := "a4c2b2e54b41fadb48e3ff24226e44c93980309e6e95b2a9bc1b644c48b7e811", func := "pinfold/pinfoldlaw35.CensusEvents", spec := "censusEvents", inPlace := ["internal/abi.NoEscape", "internal/bytealg.MakeNoZero"], unfollowed := true, recurses := true, apart := false }
def CensusEventsSaid : Prop := censusEventsRow.holds Try.pinned (OpenSpec.ofChange censusEventsSpec)

/-- ITS FALSE NEIGHBOUR: 'it returns false'. Refute it at one input. -/
def censusEventsWrong : ChangeSpec := { name := "censusEvents", fn := fun _ => fun
  | [d1, d2, d3] => { results := [.lit (.bool false)], args := [d1, d2, d3] }
  | _ => none }
def CensusEventsWrongFalsely : Prop := censusEventsRow.holds Try.pinned (OpenSpec.ofChange censusEventsWrong)

/-- 'pinfoldlaw35.CensusRanks': WHATEVER THE INPUT: true; the input reads as it did. -/
def censusRanksSpec : ChangeSpec := { name := "censusRanks", fn := fun _ => fun
  | [d1, d2] => { results := [.lit (.bool true)], args := [d1, d2] }
  | _ => none }
def censusRanksRow : OpenClaim := { program := "ytidhcdifmcffcaa", sum := "a4c2b2e54b41fadb48e3ff24226e44c93980309e6e95b2a9bc1b644c48b7e811", func := "pinfold/pinfoldlaw35.CensusRanks", spec := "censusRanks", inPlace := ["internal/abi.NoEscape", "internal/bytealg.MakeNoZero"], unfollowed := true, recurses := true, apart := false }
def CensusRanksSaid : Prop := censusRanksRow.holds Try.pinned (OpenSpec.ofChange censusRanksSpec)

/-- ITS FALSE NEIGHBOUR: 'it returns false'. Refute it at one input. -/
def censusRanksWrong : ChangeSpec := { name := "censusRanks", fn := fun _ => fun
  | [d1, d2] => { results := [.lit (.bool false)], args := [d1, d2] }
  | _ => none }
def CensusRanksWrongFalsely : Prop := censusRanksRow.holds Try.pinned (OpenSpec.ofChange censusRanksWrong)

/- THE SECOND FORM. 'bulk': how many values and letters a reading holds, each counted each time it is reached (what is shared counts as often as it is met; a slice's spare places count too). A statement '..UptoSaid' is the law's where the arguments, and the package variables that the reading takes, are together of bulk at most 1048576: NARROWER than '..Said'. Prove '..Said' where nothing that the law and all that it calls make is longer than what came in: it says more and counts as full. Else prove '..UptoSaid'. A law counts once. -/
mutual
def uptoBulk {H : Type} : DataW H → Nat
  | .lit (.string bytes) => bytes.length + 1
  | .lit _ => 1
  | .nil => 1
  | .ptr d => uptoBulk d + 1
  | .slice elems spare => uptoBulkAll elems + uptoBulkAll spare + 1
  | .agg parts => uptoBulkAll parts + 1
  | .iface _ d => uptoBulk d + 1
  | .map entries => uptoBulkEntries entries + 1
  | .held _ => 1
def uptoBulkAll {H : Type} : List (DataW H) → Nat
  | [] => 0
  | d :: r => uptoBulk d + uptoBulkAll r
def uptoBulkEntries {H : Type} : List (Lit × DataW H) → Nat
  | [] => 0
  | x :: r => uptoBulkEntry x + uptoBulkEntries r
def uptoBulkEntry {H : Type} : Lit × DataW H → Nat
  | (.string bytes, d) => bytes.length + uptoBulk d + 1
  | (_, d) => uptoBulk d + 1
 end
def uptoSmall : (H : Type) → List (DataW H) → Bool := fun _ ds => decide (uptoBulkAll ds ≤ 1048576)
def OpenSpec.upto (s : _root_.Go.ChangeSpec) : _root_.Go.OpenSpec := { _root_.Go.OpenSpec.ofChange s with cond := some uptoSmall }

/-- 'pinfoldlaw32.WheelTells', WHERE WHAT IT READS IS OF BULK AT MOST 1048576: true; the input reads as it did. -/
def wheelTellsUptoRow : OpenClaim := { program := "ytidhcdifmcffcaa", sum := "a4c2b2e54b41fadb48e3ff24226e44c93980309e6e95b2a9bc1b644c48b7e811", func := "pinfold/pinfoldlaw32.WheelTells", spec := "wheelTells", unfollowed := true, recurses := true, apart := false, narrowed := true }
def WheelTellsUptoSaid : Prop := wheelTellsUptoRow.holds Try.pinned (OpenSpec.upto wheelTellsSpec)

/-- 'pinfoldlaw32.WheelPlays', WHERE WHAT IT READS IS OF BULK AT MOST 1048576: true; the input reads as it did. -/
def wheelPlaysUptoRow : OpenClaim := { program := "ytidhcdifmcffcaa", sum := "a4c2b2e54b41fadb48e3ff24226e44c93980309e6e95b2a9bc1b644c48b7e811", func := "pinfold/pinfoldlaw32.WheelPlays", spec := "wheelPlays", unfollowed := true, recurses := true, apart := false, narrowed := true }
def WheelPlaysUptoSaid : Prop := wheelPlaysUptoRow.holds Try.pinned (OpenSpec.upto wheelPlaysSpec)

/-- 'pinfoldlaw32.WheelSkips', WHERE WHAT IT READS IS OF BULK AT MOST 1048576: true; the input reads as it did. -/
def wheelSkipsUptoRow : OpenClaim := { program := "ytidhcdifmcffcaa", sum := "a4c2b2e54b41fadb48e3ff24226e44c93980309e6e95b2a9bc1b644c48b7e811", func := "pinfold/pinfoldlaw32.WheelSkips", spec := "wheelSkips", unfollowed := true, recurses := true, apart := false, narrowed := true }
def WheelSkipsUptoSaid : Prop := wheelSkipsUptoRow.holds Try.pinned (OpenSpec.upto wheelSkipsSpec)

/-- 'pinfoldlaw27.StuckRows', WHERE WHAT IT READS IS OF BULK AT MOST 1048576: true; the input reads as it did. -/
def stuckRowsUptoRow : OpenClaim := { program := "ytidhcdifmcffcaa", sum := "a4c2b2e54b41fadb48e3ff24226e44c93980309e6e95b2a9bc1b644c48b7e811", func := "pinfold/pinfoldlaw27.StuckRows", spec := "stuckRows", unfollowed := true, recurses := true, apart := false, narrowed := true }
def StuckRowsUptoSaid : Prop := stuckRowsUptoRow.holds Try.pinned (OpenSpec.upto stuckRowsSpec)

/-- 'pinfoldlaw35.CensusNumbers', WHERE WHAT IT READS IS OF BULK AT MOST 1048576: true; the input reads as it did. -/
def censusNumbersUptoRow : OpenClaim := { program := "ytidhcdifmcffcaa", sum := "a4c2b2e54b41fadb48e3ff24226e44c93980309e6e95b2a9bc1b644c48b7e811", func := "pinfold/pinfoldlaw35.CensusNumbers", spec := "censusNumbers", unfollowed := true, recurses := true, apart := false, narrowed := true }
def CensusNumbersUptoSaid : Prop := censusNumbersUptoRow.holds Try.pinned (OpenSpec.upto censusNumbersSpec)

/-- 'pinfoldlaw35.CensusRises', WHERE WHAT IT READS IS OF BULK AT MOST 1048576: true; the input reads as it did. -/
def censusRisesUptoRow : OpenClaim := { program := "ytidhcdifmcffcaa", sum := "a4c2b2e54b41fadb48e3ff24226e44c93980309e6e95b2a9bc1b644c48b7e811", func := "pinfold/pinfoldlaw35.CensusRises", spec := "censusRises", unfollowed := true, recurses := true, apart := false, narrowed := true }
def CensusRisesUptoSaid : Prop := censusRisesUptoRow.holds Try.pinned (OpenSpec.upto censusRisesSpec)

/-- 'pinfoldlaw35.CensusStates', WHERE WHAT IT READS IS OF BULK AT MOST 1048576: true; the input reads as it did. -/
def censusStatesUptoRow : OpenClaim := { program := "ytidhcdifmcffcaa", sum := "a4c2b2e54b41fadb48e3ff24226e44c93980309e6e95b2a9bc1b644c48b7e811", func := "pinfold/pinfoldlaw35.CensusStates", spec := "censusStates", unfollowed := true, recurses := true, apart := false, narrowed := true }
def CensusStatesUptoSaid : Prop := censusStatesUptoRow.holds Try.pinned (OpenSpec.upto censusStatesSpec)

/-- 'pinfoldlaw35.CensusEvents', WHERE WHAT IT READS IS OF BULK AT MOST 1048576: true; the input reads as it did. -/
def censusEventsUptoRow : OpenClaim := { program := "ytidhcdifmcffcaa", sum := "a4c2b2e54b41fadb48e3ff24226e44c93980309e6e95b2a9bc1b644c48b7e811", func := "pinfold/pinfoldlaw35.CensusEvents", spec := "censusEvents", inPlace := ["internal/abi.NoEscape", "internal/bytealg.MakeNoZero"], unfollowed := true, recurses := true, apart := false, narrowed := true }
def CensusEventsUptoSaid : Prop := censusEventsUptoRow.holds Try.pinned (OpenSpec.upto censusEventsSpec)

/-- 'pinfoldlaw35.CensusRanks', WHERE WHAT IT READS IS OF BULK AT MOST 1048576: true; the input reads as it did. -/
def censusRanksUptoRow : OpenClaim := { program := "ytidhcdifmcffcaa", sum := "a4c2b2e54b41fadb48e3ff24226e44c93980309e6e95b2a9bc1b644c48b7e811", func := "pinfold/pinfoldlaw35.CensusRanks", spec := "censusRanks", inPlace := ["internal/abi.NoEscape", "internal/bytealg.MakeNoZero"], unfollowed := true, recurses := true, apart := false, narrowed := true }
def CensusRanksUptoSaid : Prop := censusRanksUptoRow.holds Try.pinned (OpenSpec.upto censusRanksSpec)

end Rows
end Go.Proofs.Ytidhcdifmcffcaa
