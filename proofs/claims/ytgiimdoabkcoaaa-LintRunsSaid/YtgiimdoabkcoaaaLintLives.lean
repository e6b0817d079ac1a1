/-
Lint, plain: the document's example; the places that come next, one by one.
-/
import Derived.Test.YtgiimdoabkcoaaaLintReach
import Derived.Test.YtgiimdoabkcoaaaPLintx7
namespace Go.Proofs.Ytgiimdoabkcoaaa.PLint
set_option linter.unusedVariables false
set_option linter.unusedSimpArgs false
open Go.RowKit Go.Proofs.YtgiimdoabkcoaaaW.PrintWords Go.Proofs.YtgiimdoabkcoaaaW.PrintLast Go.Proofs.YtgiimdoabkcoaaaW.PrintMore
theorem lives_f : EvP (fun k => pinfoldlaw26_lives.f k) (· = true) := by
  refine EvP.ev (Ev.of (fun k => pinfoldlaw26_lives.mono k) (k := 60) ?_) rfl
  decide +kernel
def nextP (l : List S41) (pc : Int) (i : Nat) : List Int := ((List.range i).filter fun b : Nat => goesZ l pc (b : Int)).map Int.ofNat
theorem nextP_succ (l : List S41) (pc : Int) (i : Nat) : nextP l pc (i + 1) = nextP l pc i ++ (if goesZ l pc (i : Int) = true then [(i : Int)] else []) := by
  unfold nextP
  rw [List.range_succ, List.filter_append, List.map_append]
  congr 1
  by_cases h : goesZ l pc (i : Int) = true
  · rw [if_pos h]; simp [List.filter, h]
  · rw [if_neg h]; simp [List.filter, h]
theorem nextP_len (l : List S41) (pc : Int) (i : Nat) : (nextP l pc i).length ≤ i := by
  unfold nextP
  rw [List.length_map]
  exact Nat.le_trans (List.length_filter_le _ _) (by simp)
theorem lives_tail : EvP (fun k => (pinfoldlaw26_lives.f k).bind fun t => some t) (· = true) := EvP.bind lives_f (fun b hb => EvP.now hb)
end Go.Proofs.Ytgiimdoabkcoaaa.PLint
