/-
Where any program may go on, and which places can be come to, plain: the printed law answers true.
-/
import Derived.Test.YtgiimdoabkcoaaaLintReach2
import Derived.Test.YtgiimdoabkcoaaaPLintx9
namespace Go.Proofs.Ytgiimdoabkcoaaa.PLint
set_option linter.unusedVariables false
set_option linter.unusedSimpArgs false
open Go.RowKit Go.Proofs.YtgiimdoabkcoaaaW.PrintWords Go.Proofs.YtgiimdoabkcoaaaW.PrintLast Go.Proofs.YtgiimdoabkcoaaaW.PrintMore
section
variable {prio : Int} {l : List S41}
def nextP (l : List S41) (pc : Int) (i : Nat) : List Int := ((List.range i).filter fun b : Nat => goesZ l pc (b : Int)).map Int.ofNat
theorem nextP_succ (l : List S41) (pc : Int) (i : Nat) : nextP l pc (i + 1) = nextP l pc i ++ (if goesZ l pc (i : Int) = true then [(i : Int)] else []) := by
  unfold nextP
  rw [List.range_succ, List.filter_append, List.map_append]
  congr 1
  by_cases h : goesZ l pc (i : Int) = true
  · rw [if_pos h]; simp [List.filter, h]
  · rw [if_neg h]; simp [List.filter, h]
theorem nextP_len (l : List S41) (pc : Int) (i : Nat) : (nextP l pc i).length ≤ i := by
  unfold nextP
  rw [List.length_map]
  exact Nat.le_trans (List.length_filter_le _ _) (by simp)
theorem lives_tail : EvP (fun k => (pinfoldlaw26_lives.f k).bind fun t => some t) (· = true) := EvP.bind lives_f (fun b hb => EvP.now hb)
theorem ways_l1 (hw : W32 l) (hN : l.length ≤ 1000) (hv : Valid l) : ∀ (d i : Nat), l.length - i = d → i ≤ l.length →
    EvP (fun k => pinfoldlaw26_LintWays.l1 k (idleL (reachL l) i) (reachL l) (reachL l) ((reachL l).length : Int) (i : Int) prio l) (· = true) := by
  have hr := reachL_len l
  intro d
  induction d with
  | zero =>
    intro i hd hi
    obtain rfl : i = l.length := by omega
    refine EvP.succ ?_
    simp only [pinfoldlaw26_LintWays.l1]
    refine EvP.neg (by omega) (EvP.bind (idle_f hw hN hv) ?_)
    rintro t rfl
    refine EvP.bind (same_self _ (by have := idleL_len (reachL l) l.length; omega)) ?_
    rintro t rfl
    exact EvP.pos rfl lives_tail
  | succ d ih =>
    intro i hd hi
    have h1 := ih (i + 1) (by omega) (by omega)
    have hs := idleL_succ (reachL l) i
    have hl := idleL_len (reachL l) i
    refine EvP.succ ?_
    simp only [pinfoldlaw26_LintWays.l1]
    rw [wrap_up (by omega), rdOf_nat]
    refine EvP.pos (by omega) (EvP.pos (by omega) (EvP.pos (by omega) (EvP.pos (by omega) (EvP.neg (by simp) (EvP.ite (fun h => ?_) (fun h => EvP.pos (by omega) ?_))))))
    · rw [if_pos h, List.append_nil] at hs; rw [← hs]; exact h1
    · rw [if_neg h] at hs; rw [← hs]; exact h1
theorem ways_l0 (hw : W32 l) (hN : l.length ≤ 1000) (hv : Valid l) (pc : Int) : ∀ (d i : Nat), l.length - i = d → i ≤ l.length →
    EvP (fun k => pinfoldlaw26_LintWays.l0 k pc (nextP l pc i) (l.length : Int) (i : Int) prio l) (· = true) := by
  intro d
  induction d with
  | zero =>
    intro i hd hi
    obtain rfl : i = l.length := by omega
    refine EvP.succ ?_
    simp only [pinfoldlaw26_LintWays.l0]
    refine EvP.neg (by omega) (EvP.bind (refreach_f hw hN hv) ?_)
    rintro t rfl
    refine EvP.bind (reach_f hw hN hv) ?_
    rintro t rfl
    refine EvP.pos rfl (EvP.bind (next_f hw hN hv pc) ?_)
    rintro t rfl
    refine EvP.bind (same_self (nextL l pc) (by have := nextL_len l pc; omega)) ?_
    rintro t rfl
    refine EvP.succ ?_
    simp only [pinfoldlaw26_LintWays.j1]
    exact EvP.neg (by simp) (ways_l1 hw hN hv _ 0 rfl (by omega))
  | succ d ih =>
    intro i hd hi
    have h1 := ih (i + 1) (by omega) (by omega)
    have hs := nextP_succ l pc i
    have hl := nextP_len l pc i
    refine EvP.succ ?_
    simp only [pinfoldlaw26_LintWays.l0]
    rw [wrap_up (by omega)]
    refine EvP.pos (by omega) (EvP.bindS (goes_f hw hN _ _) (EvP.ite (fun h => EvP.pos (by omega) ?_) (fun h => ?_)))
    · rw [if_pos h] at hs; rw [← hs]; exact h1
    · rw [if_neg h, List.append_nil] at hs; rw [← hs]; exact h1
theorem ways_f (hw : W32 l) (pc : Int) : EvP (fun k => pinfoldlaw26_LintWays.f k prio l pc) (· = true) := by
  simp only [pinfoldlaw26_LintWays.f]
  obtain ⟨b, hb, hbv⟩ := fine_f (prio := prio) hw
  refine EvP.bindS hb (EvP.ite (fun h => ?_) (fun _ => lives_tail))
  obtain ⟨hv, h30⟩ := hbv h
  exact ways_l0 hw (by omega) hv pc _ 0 rfl (by omega)
end
end Go.Proofs.Ytgiimdoabkcoaaa.PLint
