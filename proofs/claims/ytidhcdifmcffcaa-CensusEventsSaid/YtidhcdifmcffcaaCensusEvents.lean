/-
The table of any row of events, how many are of each kind, and any task's delays, plain: the printed law answers true.
-/
import Derived.Test.YtidhcdifmcffcaaCensusPureE
import Derived.Test.YtidhcdifmcffcaaEventsB
import Derived.Test.YtidhcdifmcffcaaPCenx5
namespace Go.Proofs.Ytidhcdifmcffcaa.PCen
set_option linter.unusedVariables false
set_option linter.unusedSimpArgs false
open Go.RowKit Go.Proofs.YtidhcdifmcffcaaW.PrintWords Go.Proofs.YtidhcdifmcffcaaW.PrintLast Go.Proofs.YtidhcdifmcffcaaW.PrintMore
section
variable (L : List S84)
theorem kinds_cnt (q : Nat) (hq : q < 22) : census_States.f (kn L 0) (kn L 1) (kn L 2) (kn L 3) (kn L 4) (kn L 5) (kn L 6) (kn L 7) (kn L 8) (kn L 9) (kn L 10) (kn L 11) (kn L 12) (kn L 13) (kn L 14) (kn L 15) (kn L 16) (kn L 17) (kn L 18) (kn L 19) (kn L 20) (kn L 21) (q : Int) = some (kn L q) := by
  unfold census_States.f
  rw [if_pos ⟨by omega, by omega⟩, rd_at (by simpa using hq)]
  match q, hq with
  | 0, _ => rfl
  | 1, _ => rfl
  | 2, _ => rfl
  | 3, _ => rfl
  | 4, _ => rfl
  | 5, _ => rfl
  | 6, _ => rfl
  | 7, _ => rfl
  | 8, _ => rfl
  | 9, _ => rfl
  | 10, _ => rfl
  | 11, _ => rfl
  | 12, _ => rfl
  | 13, _ => rfl
  | 14, _ => rfl
  | 15, _ => rfl
  | 16, _ => rfl
  | 17, _ => rfl
  | 18, _ => rfl
  | 19, _ => rfl
  | 20, _ => rfl
  | 21, _ => rfl
  | m + 22, h => exact absurd h (by omega)
theorem kinds_l2 (hL : L.length ≤ 60) (q : Nat) (h1 : 1 ≤ q) (hq : q < 22) (next : EvP (fun k => pinfoldlaw35_CensusEvents.l1 k L ((q + 1 : Nat) : Int) (kn L 0) (kn L 1) (kn L 2) (kn L 3) (kn L 4) (kn L 5) (kn L 6) (kn L 7) (kn L 8) (kn L 9) (kn L 10) (kn L 11) (kn L 12) (kn L 13) (kn L 14) (kn L 15) (kn L 16) (kn L 17) (kn L 18) (kn L 19) (kn L 20) (kn L 21)) (· = true)) :
    ∀ (d i : Nat), L.length - i = d → i ≤ L.length → EvP (fun k => pinfoldlaw35_CensusEvents.l2 k L (q : Int) (cntK (L.take i) q) L (L.length : Int) (i : Int) (kn L 0) (kn L 1) (kn L 2) (kn L 3) (kn L 4) (kn L 5) (kn L 6) (kn L 7) (kn L 8) (kn L 9) (kn L 10) (kn L 11) (kn L 12) (kn L 13) (kn L 14) (kn L 15) (kn L 16) (kn L 17) (kn L 18) (kn L 19) (kn L 20) (kn L 21)) (· = true) := by
  intro d
  induction d with
  | zero =>
    intro i hd hi
    obtain rfl : i = L.length := by omega
    refine EvP.succ ?_
    simp only [pinfoldlaw35_CensusEvents.l2]
    rw [List.take_length]
    have e : kn L q = cntK L q := by unfold kn; rw [if_neg (by omega)]
    refine EvP.neg (by omega) (EvP.bindS (kinds_cnt L q hq) (EvP.pos e ?_))
    rw [wrap_up (by omega)]
    exact next
  | succ d ih =>
    intro i hd hi
    have hil : i < L.length := by omega
    have st := ih (i + 1) (by omega) (by omega)
    rw [List.take_succ_eq_append_getElem hil, cntK_snoc] at st
    have hb := cntK_up L i q (by omega)
    refine EvP.succ ?_
    simp only [pinfoldlaw35_CensusEvents.l2]
    rw [rdE hil, wrap_up (by omega), wrap_nat (n := cntK (L.take i) q + 1) (by omega) (by omega)]
    refine EvP.pos (by omega) (EvP.pos (by omega) (EvP.pos (by omega) (EvP.ite (fun h => ?_) (fun h => ?_))))
    · rw [if_pos h] at st; exact st
    · rw [if_neg h, Int.add_zero] at st; exact st
theorem kinds_l1 (hL : L.length ≤ 60) : ∀ (d q : Nat), 22 - q = d → 1 ≤ q → q ≤ 22 → EvP (fun k => pinfoldlaw35_CensusEvents.l1 k L (q : Int) (kn L 0) (kn L 1) (kn L 2) (kn L 3) (kn L 4) (kn L 5) (kn L 6) (kn L 7) (kn L 8) (kn L 9) (kn L 10) (kn L 11) (kn L 12) (kn L 13) (kn L 14) (kn L 15) (kn L 16) (kn L 17) (kn L 18) (kn L 19) (kn L 20) (kn L 21)) (· = true) := by
  intro d
  induction d with
  | zero =>
    intro q hd h1 hq
    refine EvP.succ ?_
    simp only [pinfoldlaw35_CensusEvents.l1]
    exact EvP.neg (by omega) (EvP.pos rfl lives_tail)
  | succ d ih =>
    intro q hd h1 hq
    refine EvP.succ ?_
    simp only [pinfoldlaw35_CensusEvents.l1]
    refine EvP.pos (by omega) ?_
    exact kinds_l2 L hL q h1 (by omega) (ih (q + 1) (by omega) (by omega) (by omega)) _ 0 rfl (by omega)
theorem kinds_tail (hL : L.length ≤ 60) : EvP (fun k => pinfoldlaw35_CensusEvents.l1 k L 1 (kn L 0) (kn L 1) (kn L 2) (kn L 3) (kn L 4) (kn L 5) (kn L 6) (kn L 7) (kn L 8) (kn L 9) (kn L 10) (kn L 11) (kn L 12) (kn L 13) (kn L 14) (kn L 15) (kn L 16) (kn L 17) (kn L 18) (kn L 19) (kn L 20) (kn L 21)) (· = true) := kinds_l1 L hL _ 1 rfl (by omega) (by omega)
theorem lines_l0 (hL : L.length ≤ 60) (n : Nat) (hn : n ≤ 20) (T : List ByteArray) (hT : T = (List.range' 0 n).map (lineB L)) : ∀ (d i : Nat), T.length - i = d → i ≤ T.length →
    EvP (fun k => pinfoldlaw35_CensusEvents.l0 k L T (T.length : Int) (i : Int)) (· = true) := by
  have hlen : T.length = n := by rw [hT]; simp
  intro d
  induction d with
  | zero =>
    intro i hd hi
    refine EvP.succ ?_
    simp only [pinfoldlaw35_CensusEvents.l0]
    refine EvP.neg (by omega) (EvP.bindS (b := (kn L 0, kn L 1, kn L 2, kn L 3, kn L 4, kn L 5, kn L 6, kn L 7, kn L 8, kn L 9, kn L 10, kn L 11, kn L 12, kn L 13, kn L 14, kn L 15, kn L 16, kn L 17, kn L 18, kn L 19, kn L 20, kn L 21)) (by unfold census_Kinds.f; rw [if_pos (by omega)]) ?_)
    exact kinds_tail L hL
  | succ d ih =>
    intro i hd hi
    have hil : i < T.length := by omega
    refine EvP.succ ?_
    simp only [pinfoldlaw35_CensusEvents.l0]
    rw [rdOf_at hil, wrap_up (by omega)]
    have e : T[i] = lineB L i := by subst hT; simp
    refine EvP.pos (by omega) (EvP.pos (by omega) (EvP.pos (by omega) (EvP.bind (line_f L hL i (by omega)) ?_)))
    rintro s rfl
    rw [e]
    exact EvP.pos rfl (ih (i + 1) (by omega) (by omega))
theorem censusEvents_f (tasks task : Int) : EvP (fun k => pinfoldlaw35_CensusEvents.f k L tasks task) (· = true) := by
  simp only [pinfoldlaw35_CensusEvents.f]
  have e1 : 0 ≤ mn (L.length : Int) 60 ∧ mn (L.length : Int) 60 ≤ L.length ∧ mn (L.length : Int) 60 ≤ 60 := by unfold mn; split <;> omega
  have l1 : (L.take (mn (L.length : Int) 60).toNat).length ≤ 60 := by simp only [List.length_take]; omega
  generalize L.take (mn (L.length : Int) 60).toNat = l' at l1 ⊢
  have e2 : ∃ n : Nat, n ≤ 20 ∧ mx 0 (mn (mn tasks 20) 256) = (n : Int) ∧ mx (mn tasks 20) 0 = (n : Int) := by
    refine ⟨(mx (mn tasks 20) 0).toNat, ?_, ?_, ?_⟩ <;> unfold mx mn <;> (repeat' split) <;> omega
  obtain ⟨n, hn, h3, h4⟩ := e2
  refine EvP.pos e1.1 (EvP.pos e1.2.1 (EvP.bindS rfl ?_))
  have ht : EvP (fun k => census_Table.f k l' (mn tasks 20)) (· = (List.range' 0 n).map (lineB l')) := by
    simp only [census_Table.f]
    rw [h3]
    have h := table_l0 l' l1 n hn _ 0 [] rfl (by omega) rfl
    simpa [KS] using h
  refine EvP.bind ht ?_
  rintro T hT
  have hlen : T.length = n := by rw [hT]; simp
  refine EvP.pos (by rw [hlen, h4]) (EvP.bind (delays_f l' l1 task) ?_)
  rintro a rfl
  refine EvP.bind (refDelays_f l' l1 task) ?_
  rintro b rfl
  refine EvP.bind (same_self _ (by have := refD_len task l' 0; omega)) ?_
  rintro c rfl
  refine EvP.succ ?_
  simp only [pinfoldlaw35_CensusEvents.j0]
  exact EvP.neg (by simp) (lines_l0 l' l1 n hn T hT _ 0 rfl (by omega))
end
end Go.Proofs.Ytidhcdifmcffcaa.PCen
