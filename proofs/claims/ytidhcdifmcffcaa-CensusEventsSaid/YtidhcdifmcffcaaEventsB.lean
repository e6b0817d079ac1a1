/-
A task's delays in any row of events, plain: the program's one pass tells what the document's search tells.
-/
import Derived.Test.YtidhcdifmcffcaaEventsA
import Derived.Test.YtidhcdifmcffcaaPCenx3
namespace Go.Proofs.Ytidhcdifmcffcaa.PCen
set_option linter.unusedVariables false
set_option linter.unusedSimpArgs false
open Go.RowKit Go.Proofs.YtidhcdifmcffcaaW.PrintWords Go.Proofs.YtidhcdifmcffcaaW.PrintLast Go.Proofs.YtidhcdifmcffcaaW.PrintMore
/-- the search: the first event behind place k that ends the waiting since i. -/
def scanD (t : Int) (i : Int) : Nat → List S84 → List Int
  | _, [] => []
  | k, e :: l => if e.f1 = t then (if e.f0 = 2 then [(k : Int) - i - 1] else if e.f0 = 5 then [] else if e.f0 = 7 then [] else if e.f0 = 6 then [] else if e.f0 = 13 then [] else scanD t i (k + 1) l) else scanD t i (k + 1) l
/-- the document's answer from place i on. -/
def refD (t : Int) : Nat → List S84 → List Int
  | _, [] => []
  | i, e :: l => (if e.f0 = 5 ∧ e.f1 = t then scanD t i (i + 1) l else []) ++ refD t (i + 1) l
/-- the program's pass from place i on. -/
def passD (t : Int) : Nat → Int → List S84 → List Int
  | _, _, [] => []
  | i, s, e :: l => if e.f1 = t then (if e.f0 = 5 then passD t (i + 1) i l else if e.f0 = 2 then (if s ≥ 0 then [(i : Int) - s - 1] else []) ++ passD t (i + 1) (-1) l
      else if e.f0 = 7 then passD t (i + 1) (-1) l else if e.f0 = 6 then passD t (i + 1) (-1) l else if e.f0 = 13 then passD t (i + 1) (-1) l else passD t (i + 1) s l) else passD t (i + 1) s l
theorem pass_ref (t : Int) : ∀ (l : List S84) (i : Nat) (s : Int), passD t i s l = (if s ≥ 0 then scanD t s i l else []) ++ refD t i l
  | [], i, s => by simp [passD, scanD, refD]
  | e :: l, i, s => by
    have hn : ¬ ((-1 : Int) ≥ 0) := by omega
    simp only [passD, scanD, refD]
    have ih1 := pass_ref t l (i + 1) (-1)
    rw [if_neg hn, List.nil_append] at ih1
    have ihs := pass_ref t l (i + 1) s
    have ihi := pass_ref t l (i + 1) i
    rw [if_pos (show (i : Int) ≥ 0 by omega)] at ihi
    by_cases ht : e.f1 = t
    · by_cases h5 : e.f0 = 5
      · simp [ht, h5, ihi]
      · by_cases h2 : e.f0 = 2
        · simp [ht, h2, ih1]
        · by_cases h7 : e.f0 = 7
          · simp [ht, h7, ih1]
          · by_cases h6 : e.f0 = 6
            · simp [ht, h6, ih1]
            · by_cases h13 : e.f0 = 13
              · simp [ht, h13, ih1]
              · simp [ht, h5, h2, h7, h6, h13, ihs]
    · simp [ht, ihs]
theorem wrapD (j i : Nat) (s : Int) (hj : j ≤ 60) (h0 : -1 ≤ s) (h1 : s ≤ 60) : wrap64 (wrap64 ((j : Int) - s) - 1) = (j : Int) - s - 1 := by
  rw [wrap_nat (n := (j : Int) - s) (by omega) (by omega), wrap_nat (by omega) (by omega)]
theorem drop_pass {L : List S84} {i : Nat} (h : i < L.length) (t s : Int) : passD t i s (L.drop i) = passD t i s (L[i] :: L.drop (i + 1)) := by rw [List.drop_eq_getElem_cons h]
theorem drop_scan {L : List S84} {j : Nat} (h : j < L.length) (t i : Int) : scanD t i j (L.drop j) = scanD t i j (L[j] :: L.drop (j + 1)) := by rw [List.drop_eq_getElem_cons h]
theorem drop_ref {L : List S84} {i : Nat} (h : i < L.length) (t : Int) : refD t i (L.drop i) = refD t i (L[i] :: L.drop (i + 1)) := by rw [List.drop_eq_getElem_cons h]
theorem delays_l0 (L : List S84) (hL : L.length ≤ 60) (t : Int) : ∀ (d i : Nat) (acc : List Int) (s : Int), L.length - i = d → i ≤ L.length → acc.length ≤ i → -1 ≤ s → s ≤ 60 →
    EvP (fun k => census_Delays.l0 k t acc s L (L.length : Int) (i : Int)) (· = acc ++ passD t i s (L.drop i)) := by
  intro d
  induction d with
  | zero =>
    intro i acc s hd hi ha h0 h1
    obtain rfl : i = L.length := by omega
    refine EvP.succ ?_
    simp only [census_Delays.l0]
    exact EvP.neg (by omega) (EvP.now (by simp [passD]))
  | succ d ih =>
    intro i acc s hd hi ha h0 h1
    have hil : i < L.length := by omega
    refine EvP.succ ?_
    simp only [census_Delays.l0]
    rw [rdE hil, wrap_up (i := i) (by omega), wrapD i i s (by omega) h0 h1, drop_pass hil]
    simp only [passD]
    refine EvP.pos (by omega) (EvP.pos (by omega) (EvP.pos (by omega) (EvP.ite (fun ht => ?_) (fun ht => ?_))))
    · rw [if_pos ht]
      refine EvP.ite (fun h => ?_) (fun h => ?_)
      · rw [if_pos h]; exact ih (i + 1) acc i (by omega) (by omega) (by omega) (by omega) (by omega)
      rw [if_neg h]
      refine EvP.ite (fun h => ?_) (fun h => ?_)
      · rw [if_pos h]
        refine EvP.ite (fun hs => EvP.pos (by omega) ?_) (fun hs => ?_)
        · rw [if_pos hs]
          refine (ih (i + 1) (acc ++ [(i : Int) - s - 1]) (-1) (by omega) (by omega) (by simp; omega) (by omega) (by omega)).mono ?_
          rintro r rfl
          simp
        · rw [if_neg hs, List.nil_append]
          exact ih (i + 1) acc (-1) (by omega) (by omega) (by omega) (by omega) (by omega)
      rw [if_neg h]
      refine EvP.ite (fun h => ?_) (fun h => ?_)
      · rw [if_pos h]; exact ih (i + 1) acc (-1) (by omega) (by omega) (by omega) (by omega) (by omega)
      rw [if_neg h]
      refine EvP.ite (fun h => ?_) (fun h => ?_)
      · rw [if_pos h]; exact ih (i + 1) acc (-1) (by omega) (by omega) (by omega) (by omega) (by omega)
      rw [if_neg h]
      refine EvP.ite (fun h => ?_) (fun h => ?_)
      · rw [if_pos h]; exact ih (i + 1) acc (-1) (by omega) (by omega) (by omega) (by omega) (by omega)
      rw [if_neg h]
      exact ih (i + 1) acc s (by omega) (by omega) (by omega) h0 h1
    · rw [if_neg ht]
      exact ih (i + 1) acc s (by omega) (by omega) (by omega) h0 h1
theorem delays_f (L : List S84) (hL : L.length ≤ 60) (t : Int) : EvP (fun k => census_Delays.f k L t) (· = refD t 0 L) := by
  simp only [census_Delays.f]
  refine (delays_l0 L hL t _ 0 [] (-1) rfl (by omega) (by simp) (by omega) (by omega)).mono ?_
  rintro r rfl
  rw [List.drop_zero, pass_ref, if_neg (by omega)]
  rfl
theorem refDelays_l1 (L : List S84) (hL : L.length ≤ 60) (t : Int) (i : Nat) (hi : i < L.length) (acc : List Int) (ha : acc.length ≤ i) (R : List Int)
    (next : ∀ acc' : List Int, acc'.length ≤ i + 1 → EvP (fun k => pinfoldref35_Delays.l0 k L t acc' L (L.length : Int) ((i + 1 : Nat) : Int)) (· = acc' ++ R)) :
    ∀ (d j : Nat), L.length - j = d → j ≤ L.length → i < j → EvP (fun k => pinfoldref35_Delays.l1 k L t acc (i : Int) (j : Int) L (L.length : Int) (i : Int)) (· = acc ++ (scanD t i j (L.drop j) ++ R)) := by
  intro d
  induction d with
  | zero =>
    intro j hd hj hij
    obtain rfl : j = L.length := by omega
    refine EvP.succ ?_
    simp only [pinfoldref35_Delays.l1]
    rw [wrap_up (i := i) (by omega)]
    refine EvP.neg (by omega) ((next acc (by omega)).mono ?_)
    rintro r rfl
    simp [scanD]
  | succ d ih =>
    intro j hd hj hij
    have hjl : j < L.length := by omega
    refine EvP.succ ?_
    simp only [pinfoldref35_Delays.l1]
    rw [rdE hjl, wrap_up (i := i) (by omega), wrap_up (i := j) (by omega), wrapD j i i (by omega) (by omega) (by omega), drop_scan hjl]
    simp only [scanD]
    refine EvP.pos (by omega) (EvP.pos (by omega) (EvP.ite (fun ht => ?_) (fun ht => ?_)))
    · rw [if_pos ht]
      refine EvP.ite (fun h => EvP.pos (by omega) ?_) (fun h => ?_)
      · rw [if_pos h]
        refine (next (acc ++ [(j : Int) - i - 1]) (by simp; omega)).mono ?_
        rintro r rfl
        simp
      rw [if_neg h]
      refine EvP.ite (fun h => ?_) (fun h => ?_)
      · rw [if_pos h]; exact next acc (by omega)
      rw [if_neg h]
      refine EvP.ite (fun h => ?_) (fun h => ?_)
      · rw [if_pos h]; exact next acc (by omega)
      rw [if_neg h]
      refine EvP.ite (fun h => ?_) (fun h => ?_)
      · rw [if_pos h]; exact next acc (by omega)
      rw [if_neg h]
      refine EvP.ite (fun h => ?_) (fun h => ?_)
      · rw [if_pos h]; exact next acc (by omega)
      rw [if_neg h]
      exact ih (j + 1) (by omega) (by omega) (by omega)
    · rw [if_neg ht]
      exact ih (j + 1) (by omega) (by omega) (by omega)
theorem refDelays_l0 (L : List S84) (hL : L.length ≤ 60) (t : Int) : ∀ (d i : Nat) (acc : List Int), L.length - i = d → i ≤ L.length → acc.length ≤ i →
    EvP (fun k => pinfoldref35_Delays.l0 k L t acc L (L.length : Int) (i : Int)) (· = acc ++ refD t i (L.drop i)) := by
  intro d
  induction d with
  | zero =>
    intro i acc hd hi ha
    obtain rfl : i = L.length := by omega
    refine EvP.succ ?_
    simp only [pinfoldref35_Delays.l0]
    exact EvP.neg (by omega) (EvP.now (by simp [refD]))
  | succ d ih =>
    intro i acc hd hi ha
    have hil : i < L.length := by omega
    have nx : ∀ acc' : List Int, acc'.length ≤ i + 1 → EvP (fun k => pinfoldref35_Delays.l0 k L t acc' L (L.length : Int) ((i + 1 : Nat) : Int)) (· = acc' ++ refD t (i + 1) (L.drop (i + 1))) := fun acc' h => ih (i + 1) acc' (by omega) (by omega) h
    refine EvP.succ ?_
    simp only [pinfoldref35_Delays.l0]
    rw [rdE hil, drop_ref hil]
    simp only [refD]
    refine EvP.pos (by omega) (EvP.pos (by omega) (EvP.pos (by omega) (EvP.ite (fun h => EvP.succ ?_) (fun h => EvP.succ ?_))))
    · simp only [pinfoldref35_Delays.j1]
      rw [wrap_up (i := i) (by omega)]
      refine EvP.ite (fun h2 => ?_) (fun h2 => ?_)
      · have h3 : L[i].f1 ≠ t := by simpa using h2
        rw [if_neg (fun q => h3 q.2), List.nil_append]
        exact nx acc (by omega)
      · have h3 : L[i].f1 = t := by simpa using h2
        rw [if_pos ⟨h, h3⟩]
        exact refDelays_l1 L hL t i hil acc ha _ nx _ (i + 1) rfl (by omega) (by omega)
    · simp only [pinfoldref35_Delays.j1]
      rw [wrap_up (i := i) (by omega)]
      refine EvP.pos trivial ?_
      rw [if_neg (fun q => h q.1), List.nil_append]
      exact nx acc (by omega)
theorem refDelays_f (L : List S84) (hL : L.length ≤ 60) (t : Int) : EvP (fun k => pinfoldref35_Delays.f k L t) (· = refD t 0 L) := by
  simp only [pinfoldref35_Delays.f]
  exact refDelays_l0 L hL t _ 0 [] rfl (by omega) (by simp)
theorem scanD_len (t i : Int) : ∀ (l : List S84) (k : Nat), (scanD t i k l).length ≤ 1
  | [], k => by simp [scanD]
  | e :: l, k => by
    have h := scanD_len t i l (k + 1)
    simp only [scanD]
    repeat' split
    all_goals first | exact h | simp
theorem refD_len (t : Int) : ∀ (l : List S84) (i : Nat), (refD t i l).length ≤ l.length
  | [], i => by simp [refD]
  | e :: l, i => by
    have h := refD_len t l (i + 1)
    have h1 := scanD_len t i l (i + 1)
    simp only [refD, List.length_append, List.length_cons]
    split
    · omega
    · simp; omega
end Go.Proofs.Ytidhcdifmcffcaa.PCen
