/-
How many tasks are in each state, plain: the printed law answers true.
-/
import Derived.Test.YtidhcdifmcffcaaCensusPure
import Derived.Test.YtidhcdifmcffcaaPCenx4
namespace Go.Proofs.Ytidhcdifmcffcaa.PCen
set_option linter.unusedVariables false
set_option linter.unusedSimpArgs false
open Go.RowKit Go.Proofs.YtidhcdifmcffcaaW.PrintWords Go.Proofs.YtidhcdifmcffcaaW.PrintLast Go.Proofs.YtidhcdifmcffcaaW.PrintMore
section
variable (L : List S74) (b1 b2 b3 b4 b5 b6 b7 b8 b9 b10 b11 b12 b13 b14 b15 b16 : Int) (O : List Int) (b18 : Int)
theorem nine_cnt (q : Nat) (hq : q < 9) : census_Kinds.f (cntS L 0) (cntS L 1) (cntS L 2) (cntS L 3) (cntS L 4) (cntS L 5) (cntS L 6) (cntS L 7) (cntS L 8) (q : Int) = some (cntS L q) := by
  unfold census_Kinds.f
  rw [if_pos ⟨by omega, by omega⟩, rd_at (by simpa using hq)]
  match q, hq with
  | 0, _ => rfl
  | 1, _ => rfl
  | 2, _ => rfl
  | 3, _ => rfl
  | 4, _ => rfl
  | 5, _ => rfl
  | 6, _ => rfl
  | 7, _ => rfl
  | 8, _ => rfl
theorem states_l1 (hL : L.length ≤ 60) (q : Nat) (hq : q < 9) (next : EvP (fun k => pinfoldlaw35_CensusStates.l0 k ((q + 1 : Nat) : Int) L b1 b2 b3 b4 b5 b6 b7 b8 b9 b10 b11 b12 b13 b14 b15 b16 O b18 (cntS L 0) (cntS L 1) (cntS L 2) (cntS L 3) (cntS L 4) (cntS L 5) (cntS L 6) (cntS L 7) (cntS L 8)) (· = true)) :
    ∀ (d i : Nat), L.length - i = d → i ≤ L.length → EvP (fun k => pinfoldlaw35_CensusStates.l1 k (q : Int) (cntS (L.take i) q) (q : Int) L (L.length : Int) (i : Int) L b1 b2 b3 b4 b5 b6 b7 b8 b9 b10 b11 b12 b13 b14 b15 b16 O b18 (cntS L 0) (cntS L 1) (cntS L 2) (cntS L 3) (cntS L 4) (cntS L 5) (cntS L 6) (cntS L 7) (cntS L 8)) (· = true) := by
  intro d
  induction d with
  | zero =>
    intro i hd hi
    obtain rfl : i = L.length := by omega
    refine EvP.succ ?_
    simp only [pinfoldlaw35_CensusStates.l1]
    rw [List.take_length]
    refine EvP.neg (by omega) (EvP.bindS (nine_cnt L q hq) (EvP.pos rfl ?_))
    rw [wrap_up (by omega)]
    exact next
  | succ d ih =>
    intro i hd hi
    have hil : i < L.length := by omega
    have st := ih (i + 1) (by omega) (by omega)
    rw [List.take_succ_eq_append_getElem hil, cntS_snoc] at st
    have hx : rd_T74 L (i : Int) = L[i] := by simp [rd_T74, hil]
    have hb := cntS_up L i q (by omega)
    refine EvP.succ ?_
    simp only [pinfoldlaw35_CensusStates.l1]
    rw [hx, wrap_up (by omega), wrap_nat (n := cntS (L.take i) q + 1) (by omega) (by omega)]
    refine EvP.pos (by omega) (EvP.pos (by omega) (EvP.pos (by omega) (EvP.ite (fun h => ?_) (fun h => ?_))))
    · rw [if_pos h] at st; exact st
    · rw [if_neg h, Int.add_zero] at st; exact st
theorem states_l0 (hL : L.length ≤ 60) : ∀ (d q : Nat), 9 - q = d → q ≤ 9 → EvP (fun k => pinfoldlaw35_CensusStates.l0 k (q : Int) L b1 b2 b3 b4 b5 b6 b7 b8 b9 b10 b11 b12 b13 b14 b15 b16 O b18 (cntS L 0) (cntS L 1) (cntS L 2) (cntS L 3) (cntS L 4) (cntS L 5) (cntS L 6) (cntS L 7) (cntS L 8)) (· = true) := by
  intro d
  induction d with
  | zero =>
    intro q hd hq
    refine EvP.succ ?_
    simp only [pinfoldlaw35_CensusStates.l0]
    exact EvP.neg (by omega) lives_tail
  | succ d ih =>
    intro q hd hq
    refine EvP.succ ?_
    simp only [pinfoldlaw35_CensusStates.l0]
    refine EvP.pos (by omega) ?_
    have h := states_l1 L b1 b2 b3 b4 b5 b6 b7 b8 b9 b10 b11 b12 b13 b14 b15 b16 O b18 hL q (by omega) (ih (q + 1) (by omega) (by omega)) _ 0 rfl (by omega)
    exact h
theorem censusStates_f : EvP (fun k => pinfoldlaw35_CensusStates.f k L b1 b2 b3 b4 b5 b6 b7 b8 b9 b10 b11 b12 b13 b14 b15 b16 O b18) (· = true) := by
  simp only [pinfoldlaw35_CensusStates.f]
  refine EvP.ite (fun _ => lives_tail) (fun h => ?_)
  refine EvP.bindS (b := (cntS L 0, cntS L 1, cntS L 2, cntS L 3, cntS L 4, cntS L 5, cntS L 6, cntS L 7, cntS L 8)) (by unfold census_States.f; rw [if_pos (by omega)]) ?_
  exact states_l0 L b1 b2 b3 b4 b5 b6 b7 b8 b9 b10 b11 b12 b13 b14 b15 b16 O b18 (by omega) _ 0 rfl (by omega)
end
end Go.Proofs.Ytidhcdifmcffcaa.PCen
