/-
Census, plain: histograms, quantiles, the document's example.
-/
import Derived.Test.YtidhcdifmcffcaaPureKit
import Derived.Test.YtidhcdifmcffcaaPCenx1
namespace Go.Proofs.Ytidhcdifmcffcaa.PCen
set_option linter.unusedVariables false
set_option linter.unusedSimpArgs false
open Go.RowKit Go.Proofs.YtidhcdifmcffcaaW.PrintWords Go.Proofs.YtidhcdifmcffcaaW.PrintLast Go.Proofs.YtidhcdifmcffcaaW.PrintMore

theorem same_l0 (a : List Int) (hn : a.length ≤ 1000000) : ∀ (d i : Nat), a.length - i = d → EvP (fun k => pinfoldref04_Same.l0 k a a (a.length : Int) (i : Int)) (· = true) := by
  intro d
  induction d with
  | zero =>
    intro i hd
    refine EvP.succ ?_
    simp only [pinfoldref04_Same.l0]
    exact EvP.neg (by omega) (EvP.now rfl)
  | succ d ih =>
    intro i hd
    refine EvP.succ ?_
    simp only [pinfoldref04_Same.l0]
    refine EvP.pos (by omega) (EvP.pos (by omega) (EvP.pos (by omega) (EvP.pos (by omega) (EvP.pos trivial ?_))))
    rw [wrap_up (by omega)]
    exact ih (i + 1) (by omega)
theorem same_self (a : List Int) (hn : a.length ≤ 1000000) : EvP (fun k => pinfoldref04_Same.f k a a) (· = true) := by
  simp only [pinfoldref04_Same.f]
  exact EvP.pos trivial (same_l0 a hn _ 0 rfl)

/-- in which part of a histogram a number is. -/
def slotFrom (n : Int) : List Int → Nat → Nat
  | [], i => i
  | b :: bs, i => if n < b then i else slotFrom n bs (i + 1)
theorem slotFrom_le (n : Int) : ∀ (bs : List Int) (i : Nat), i ≤ slotFrom n bs i ∧ slotFrom n bs i ≤ i + bs.length
  | [], i => by simp [slotFrom]
  | b :: bs, i => by
    have := slotFrom_le n bs (i + 1)
    unfold slotFrom
    split
    · simp
    · simp only [List.length_cons]; omega
theorem slotFrom_drop {n : Int} {b : List Int} {i : Nat} (h : i < b.length) : slotFrom n (b.drop i) i = if n < b[i] then i else slotFrom n (b.drop (i + 1)) (i + 1) := by
  rw [List.drop_eq_getElem_cons h]; rfl
theorem index_l0 (n : Int) (b : List Int) (hb : b.length ≤ 1000000) : ∀ (d i : Nat), b.length - i = d → i ≤ b.length → EvP (fun k => slices_IndexFunc_int_int.l0 k b n (b.length : Int) (i : Int)) (· = if slotFrom n (b.drop i) i < b.length then (slotFrom n (b.drop i) i : Int) else -1) := by
  intro d
  induction d with
  | zero =>
    intro i hd hi
    obtain rfl : i = b.length := by omega
    refine EvP.succ ?_
    simp only [slices_IndexFunc_int_int.l0]
    refine EvP.neg (by omega) (EvP.now ?_)
    simp [slotFrom]
  | succ d ih =>
    intro i hd hi
    have hl : i < b.length := by omega
    refine EvP.succ ?_
    simp only [slices_IndexFunc_int_int.l0]
    rw [rd_at hl, wrap_up (by omega), slotFrom_drop hl]
    refine EvP.pos (by omega) (EvP.pos (by omega) (EvP.pos (by omega) (EvP.bindS (b := decide (n < b[i])) rfl (EvP.ite (fun h => EvP.now ?_) (fun h => ?_)))))
    · have h' := of_decide_eq_true h
      rw [if_pos h', if_pos hl]
    · have h' : ¬ n < b[i] := by simpa using h
      rw [if_neg h']; exact ih (i + 1) (by omega) (by omega)
theorem index_f (n : Int) (b : List Int) (hb : b.length ≤ 1000000) : EvP (fun k => slices_IndexFunc_int_int.f k b n) (· = if slotFrom n b 0 < b.length then (slotFrom n b 0 : Int) else -1) := by
  simp only [slices_IndexFunc_int_int.f]
  exact index_l0 n b hb _ 0 rfl (by omega)

/-- the counts, number by number. -/
def histL (b : List Int) : List Int → List Int → List Int
  | acc, [] => acc
  | acc, n :: l => histL b (acc.set (slotFrom n b 0) (wrap64 (rd acc (slotFrom n b 0 : Int) + 1))) l
theorem histL_len (b : List Int) : ∀ (l acc : List Int), (histL b acc l).length = acc.length
  | [], acc => rfl
  | n :: l, acc => by rw [histL, histL_len b l]; simp
theorem histL_drop {b acc l : List Int} {i : Nat} (h : i < l.length) : histL b acc (l.drop i) = histL b (acc.set (slotFrom l[i] b 0) (wrap64 (rd acc (slotFrom l[i] b 0 : Int) + 1))) (l.drop (i + 1)) := by
  rw [List.drop_eq_getElem_cons h]; rfl
theorem hist_l0 (b l : List Int) (hb : b.length ≤ 1000000) (hl : l.length ≤ 1000000) : ∀ (d i : Nat) (acc : List Int), l.length - i = d → i ≤ l.length → acc.length = b.length + 1 →
    EvP (fun k => census_Histogram.l0 k b acc l (l.length : Int) (i : Int)) (· = histL b acc (l.drop i)) := by
  intro d
  induction d with
  | zero =>
    intro i acc hd hi ha
    obtain rfl : i = l.length := by omega
    refine EvP.succ ?_
    simp only [census_Histogram.l0]
    refine EvP.neg (by omega) (EvP.now ?_)
    simp [histL]
  | succ d ih =>
    intro i acc hd hi ha
    have hil : i < l.length := by omega
    have hs := slotFrom_le l[i] b 0
    refine EvP.succ ?_
    simp only [census_Histogram.l0]
    rw [rd_at hil, wrap_up (by omega), histL_drop hil]
    refine EvP.pos (by omega) (EvP.pos (by omega) (EvP.pos (by omega) (EvP.bind (index_f l[i] b hb) ?_)))
    rintro t rfl
    have step := ih (i + 1) (acc.set (slotFrom l[i] b 0) (wrap64 (rd acc (slotFrom l[i] b 0 : Int) + 1))) (by omega) (by omega) (by simp [ha])
    by_cases h : slotFrom l[i] b 0 < b.length
    · rw [if_pos h]
      refine EvP.neg (by omega) (EvP.pos (by omega) (EvP.pos (by omega) ?_))
      rw [Int.toNat_natCast]; exact step
    · rw [if_neg h]
      have he : slotFrom l[i] b 0 = b.length := by omega
      rw [he] at step ⊢
      refine EvP.pos (by omega) (EvP.pos (by omega) (EvP.pos (by omega) ?_))
      rw [Int.toNat_natCast]; exact step
theorem hist_f (b l : List Int) (hb : b.length ≤ 1000000) (hl : l.length ≤ 1000000) : EvP (fun k => census_Histogram.f k l b) (· = histL b (List.replicate (b.length + 1) 0) l) := by
  simp only [census_Histogram.f]
  rw [wrap_up (by omega), Int.toNat_natCast]
  exact EvP.pos (by omega) (EvP.pos (by omega) (hist_l0 b l hb hl _ 0 _ rfl (by omega) (by simp)))
theorem sort3 : ([9, 1, 5] : List Int).mergeSort (fun x y => decide (x ≤ y)) = [1, 5, 9] := by
  simp [List.mergeSort, List.MergeSort.Internal.splitInTwo, List.merge]
theorem quant3 : census_Quantile.f [9, 1, 5] 50 = some (5, true) := by
  unfold census_Quantile.f
  rw [if_neg (by simp), if_pos (by simp), sort3]
  rfl
theorem lives_f : EvP (fun k => pinfoldlaw35_lives.f k) (· = true) := by
  simp only [pinfoldlaw35_lives.f]
  refine EvP.bindS quant3 (EvP.bind (hist_f [2, 6] [1, 5, 9] (by simp) (by simp)) ?_)
  rintro t rfl
  have e : histL [2, 6] (List.replicate (([2, 6] : List Int).length + 1) 0) [1, 5, 9] = [1, 1, 1] := by decide +kernel
  rw [e]
  refine EvP.bind (same_self _ (by simp)) ?_
  rintro t rfl
  exact EvP.pos rfl (EvP.pos rfl (EvP.now rfl))
theorem lives_tail : EvP (fun k => (pinfoldlaw35_lives.f k).bind fun t => some t) (· = true) := EvP.bind lives_f (fun b hb => EvP.now hb)
end Go.Proofs.Ytidhcdifmcffcaa.PCen
