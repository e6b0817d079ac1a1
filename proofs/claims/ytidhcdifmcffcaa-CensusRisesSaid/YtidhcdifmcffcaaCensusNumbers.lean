/-
The histogram of any numbers, and any quantile, plain: the printed law answers true.
-/
import Derived.Test.YtidhcdifmcffcaaCensusPure
import Derived.Test.YtidhcdifmcffcaaPCenx2
namespace Go.Proofs.Ytidhcdifmcffcaa.PCen
set_option linter.unusedVariables false
set_option linter.unusedSimpArgs false
open Go.RowKit Go.Proofs.YtidhcdifmcffcaaW.PrintWords Go.Proofs.YtidhcdifmcffcaaW.PrintLast Go.Proofs.YtidhcdifmcffcaaW.PrintMore

def srt (l : List Int) : List Int := l.mergeSort fun x y => decide (x ≤ y)
theorem srt_perm (l : List Int) : (srt l).Perm l := List.mergeSort_perm _ _
theorem srt_len (l : List Int) : (srt l).length = l.length := (srt_perm l).length_eq
theorem srt_rises (l : List Int) : (srt l).Pairwise (· ≤ ·) := by
  have := List.pairwise_mergeSort (le := fun (x y : Int) => decide (x ≤ y)) (fun a b c h1 h2 => by simp at *; omega) (fun a b => by simp; omega) l
  unfold srt
  simpa using this
/-- in a rising row, fewer than j are less than the one at j, and more than j are no greater. -/
theorem rises_count : ∀ (s : List Int), s.Pairwise (· ≤ ·) → ∀ (j : Nat) (h : j < s.length), s.countP (fun y => decide (y < s[j])) ≤ j ∧ j < s.countP (fun y => decide (y ≤ s[j]))
  | [], _, j, h => absurd h (by simp)
  | a :: s, hs, 0, h => by
    rw [List.pairwise_cons] at hs
    refine ⟨?_, ?_⟩
    · have : (a :: s).countP (fun y => decide (y < a)) = 0 := by
        rw [List.countP_eq_zero]
        intro y hy
        rcases List.mem_cons.1 hy with rfl | hy
        · simp
        · have := hs.1 y hy; simp; omega
      simpa using Nat.le_of_eq this
    · simp [List.countP_cons]
  | a :: s, hs, j + 1, h => by
    rw [List.pairwise_cons] at hs
    have hj : j < s.length := by simpa using h
    have := rises_count s hs.2 j hj
    have ha := hs.1 s[j] (List.getElem_mem hj)
    simp only [List.getElem_cons_succ, List.countP_cons]
    refine ⟨?_, ?_⟩
    · split <;> omega
    · rw [if_pos (by simpa using ha)]; omega
theorem count_split (l : List Int) (x : Int) : l.countP (fun y => decide (y ≤ x)) = l.countP (fun y => decide (y < x)) + l.countP (fun y => decide (y = x)) := by
  induction l with
  | nil => simp
  | cons a l ih =>
    simp only [List.countP_cons]
    rw [ih]
    by_cases h1 : a < x
    · have h2 : a ≤ x := by omega
      have h3 : ¬ a = x := by omega
      simp [h1, h2, h3]; omega
    · by_cases h3 : a = x
      · subst h3; simp; omega
      · have h2 : ¬ a ≤ x := by omega
        simp [h1, h2, h3]
/-- the m-th of its kind. -/
theorem nth_of (x : Int) : ∀ (l : List Int) (m : Nat), m < l.countP (fun y => decide (y = x)) → ∃ i, ∃ h : i < l.length, l[i] = x ∧ (l.take i).countP (fun y => decide (y = x)) = m
  | [], m, h => by simp at h
  | a :: l, m, h => by
    by_cases ha : a = x
    · cases m with
      | zero => exact ⟨0, by simp, by simpa using ha, by simp⟩
      | succ m =>
        obtain ⟨i, h1, h2, h3⟩ := nth_of x l m (by simpa [List.countP_cons, ha] using h)
        exact ⟨i + 1, by simpa using h1, by simpa using h2, by simp [List.countP_cons, ha, h3]⟩
    · obtain ⟨i, h1, h2, h3⟩ := nth_of x l m (by simpa [List.countP_cons, ha] using h)
      exact ⟨i + 1, by simpa using h1, by simpa using h2, by simp [List.countP_cons, ha, h3]⟩
/-- how many are less, or alike and ahead, among the first j. -/
def rankTo (l : List Int) (i j : Nat) (x : Int) : Nat := (l.take j).countP (fun y => decide (y < x)) + (l.take (min i j)).countP (fun y => decide (y = x))
theorem rankTo_le (l : List Int) (i j : Nat) (x : Int) : rankTo l i j x ≤ 2 * l.length := by
  unfold rankTo
  have h1 := List.countP_le_length (p := fun y => decide (y < x)) (l := l.take j)
  have h2 := List.countP_le_length (p := fun y => decide (y = x)) (l := l.take (min i j))
  simp only [List.length_take] at h1 h2
  omega
theorem rankTo_succ (l : List Int) (i j : Nat) (x : Int) (hj : j < l.length) : rankTo l i (j + 1) x = rankTo l i j x + if l[j] < x ∨ l[j] = x ∧ j < i then 1 else 0 := by
  unfold rankTo
  rw [List.take_succ_eq_append_getElem hj, List.countP_append]
  by_cases h : j < i
  · rw [show min i (j + 1) = j + 1 by omega, show min i j = j by omega, List.take_succ_eq_append_getElem hj, List.countP_append]
    by_cases h1 : l[j] < x
    · have : ¬ l[j] = x := by omega
      simp [h1, this]; omega
    · by_cases h2 : l[j] = x
      · simp [h2, h]; omega
      · simp [h1, h2]
  · rw [show min i (j + 1) = i by omega, show min i j = i by omega]
    by_cases h1 : l[j] < x
    · simp [h1]; omega
    · simp [h1, h]
/-- where the rank of the i-th number is p, it is the p-th of the sorted row. -/
theorem rank_sorted {l : List Int} {i p : Nat} (hi : i < l.length) (hp : p < l.length) (h : rankTo l i l.length l[i] = p) : (srt l)[p]'(by rw [srt_len]; exact hp) = l[i] := by
  have hps : p < (srt l).length := by rw [srt_len]; exact hp
  obtain ⟨c1, c2⟩ := rises_count _ (srt_rises l) p hps
  rw [(srt_perm l).countP_eq] at c1 c2
  generalize (srt l)[p] = s at c1 c2 ⊢
  unfold rankTo at h
  rw [show min i l.length = i by omega, List.take_length] at h
  have hlt : (l.take i).countP (fun y => decide (y = l[i])) < l.countP (fun y => decide (y = l[i])) := by
    have hsp : ∀ x, l.countP (fun y => decide (y = x)) = (l.take i).countP (fun y => decide (y = x)) + (l.drop i).countP (fun y => decide (y = x)) := fun x => by rw [← List.countP_append, List.take_append_drop]
    rw [hsp, List.drop_eq_getElem_cons hi, List.countP_cons]; simp
  have hsp := count_split l l[i]
  rcases Int.lt_trichotomy s l[i] with hs | hs | hs
  · have : l.countP (fun y => decide (y ≤ s)) ≤ l.countP (fun y => decide (y < l[i])) := List.countP_mono_left (fun y _ hy => by simp at *; omega)
    omega
  · exact hs
  · have : l.countP (fun y => decide (y ≤ l[i])) ≤ l.countP (fun y => decide (y < s)) := List.countP_mono_left (fun y _ hy => by simp at *; omega)
    omega
theorem rank_exists {l : List Int} {p : Nat} (hp : p < l.length) : ∃ i, ∃ h : i < l.length, rankTo l i l.length l[i] = p := by
  have hps : p < (srt l).length := by rw [srt_len]; exact hp
  obtain ⟨c1, c2⟩ := rises_count _ (srt_rises l) p hps
  rw [(srt_perm l).countP_eq] at c1 c2
  generalize (srt l)[p] = s at c1 c2
  rw [count_split] at c2
  obtain ⟨i, h1, h2, h3⟩ := nth_of s l (p - l.countP (fun y => decide (y < s))) (by omega)
  refine ⟨i, h1, ?_⟩
  unfold rankTo
  rw [h2, show min i l.length = i by omega, List.take_length, h3]
  omega
theorem at_l1 (l : List Int) (hl : l.length ≤ 1000) (p : Nat) (hp : p < l.length) (i : Nat) (hi : i < l.length) (hnext : rankTo l i l.length l[i] ≠ p → EvP (fun k => pinfoldref35_At.l0 k l (p : Int) l (l.length : Int) ((i + 1 : Nat) : Int)) (· = rd (srt l) (p : Int))) :
    ∀ (d j : Nat), l.length - j = d → j ≤ l.length → EvP (fun k => pinfoldref35_At.l1 k l (p : Int) (i : Int) l[i] (rankTo l i j l[i] : Int) l (l.length : Int) (i : Int) l (l.length : Int) (j : Int)) (· = rd (srt l) (p : Int)) := by
  intro d
  induction d with
  | zero =>
    intro j hd hj
    obtain rfl : j = l.length := by omega
    refine EvP.succ ?_
    simp only [pinfoldref35_At.l1]
    rw [wrap_up (i := i) (by omega)]
    refine EvP.neg (by omega) (EvP.ite (fun h => EvP.now ?_) (fun h => hnext (by omega)))
    have := rank_sorted hi hp (by omega)
    rw [rd_at (by rw [srt_len]; exact hp), this]
  | succ d ih =>
    intro j hd hj
    have hjl : j < l.length := by omega
    have hs := rankTo_succ l i j l[i] hjl
    have hle := rankTo_le l i j l[i]
    have step := ih (j + 1) (by omega) (by omega)
    refine EvP.succ ?_
    simp only [pinfoldref35_At.l1]
    rw [rd_at hjl, wrap_up (i := j) (by omega)]
    rw [wrap_up (i := rankTo l i j l[i]) (by omega)]
    refine EvP.pos (by omega) (EvP.pos (by omega) (EvP.pos (by omega) (EvP.ite (fun h1 => ?_) (fun h1 => EvP.ite (fun h2 => EvP.ite (fun h3 => ?_) (fun h3 => ?_)) (fun h2 => ?_)))))
    · rw [if_pos (.inl h1)] at hs; rw [← hs]; exact step
    · rw [if_pos (.inr ⟨h2, by omega⟩)] at hs; rw [← hs]; exact step
    · rw [if_neg (by omega)] at hs; rw [hs] at step; exact step
    · rw [if_neg (by omega)] at hs; rw [hs] at step; exact step
theorem at_l0 (l : List Int) (hl : l.length ≤ 1000) (p : Nat) (hp : p < l.length) : ∀ (d i : Nat), l.length - i = d → i ≤ l.length → (∃ i', ∃ h : i' < l.length, i ≤ i' ∧ rankTo l i' l.length l[i'] = p) →
    EvP (fun k => pinfoldref35_At.l0 k l (p : Int) l (l.length : Int) (i : Int)) (· = rd (srt l) (p : Int)) := by
  intro d
  induction d with
  | zero =>
    intro i hd hi hex
    obtain ⟨i', h1, h2, _⟩ := hex
    omega
  | succ d ih =>
    intro i hd hi hex
    have hil : i < l.length := by omega
    refine EvP.succ ?_
    simp only [pinfoldref35_At.l0]
    rw [rd_at hil]
    refine EvP.pos (by omega) (EvP.pos (by omega) (EvP.pos (by omega) ?_))
    have := at_l1 l hl p hp i hil (fun hne => ih (i + 1) (by omega) (by omega) (by
      obtain ⟨i', h1, h2, h3⟩ := hex
      refine ⟨i', h1, ?_, h3⟩
      by_cases e : i' = i
      · subst e; exact absurd h3 hne
      · omega)) _ 0 rfl (by omega)
    simpa [rankTo] using this
theorem at_f (l : List Int) (hl : l.length ≤ 1000) (p : Nat) (hp : p < l.length) : EvP (fun k => pinfoldref35_At.f k l (p : Int)) (· = rd (srt l) (p : Int)) := by
  simp only [pinfoldref35_At.f]
  obtain ⟨i, h1, h2⟩ := rank_exists hp
  exact at_l0 l hl p hp _ 0 rfl (by omega) ⟨i, h1, by omega, h2⟩

theorem numbers_end (l b : List Int) (hl : l.length ≤ 60) (hb : b.length ≤ 20) (want : List Int) (hw : want = histL b (List.replicate (b.length + 1) 0) l) :
    EvP (fun k => (census_Histogram.f k l b).bind fun t152 => ((pinfoldref04_Same.f k t152 want).bind fun t155 => (if t155 = true then ((pinfoldlaw35_lives.f k).bind fun t156 => (some t156)) else (some false)))) (· = true) := by
  refine EvP.bind (hist_f b l (by omega) (by omega)) ?_
  rintro t rfl
  rw [hw]
  refine EvP.bind (same_self _ (by rw [histL_len]; simp; omega)) ?_
  rintro t rfl
  exact EvP.pos rfl lives_tail
theorem numbers_l0 (l b : List Int) (p : Int) (hl : l.length ≤ 60) (hb : b.length ≤ 20) : ∀ (d i : Nat) (acc : List Int), l.length - i = d → i ≤ l.length → acc.length = b.length + 1 → histL b acc (l.drop i) = histL b (List.replicate (b.length + 1) 0) l →
    EvP (fun k => pinfoldlaw35_CensusNumbers.l0 k l b p acc l (l.length : Int) (i : Int)) (· = true) := by
  intro d
  induction d with
  | zero =>
    intro i acc hd hi ha hh
    obtain rfl : i = l.length := by omega
    have hw : acc = histL b (List.replicate (b.length + 1) 0) l := by rw [← hh]; simp [histL]
    have en := numbers_end l b hl hb acc hw
    refine EvP.succ ?_
    simp only [pinfoldlaw35_CensusNumbers.l0]
    refine EvP.neg (by omega) ?_
    by_cases h0 : l.length = 0
    · refine EvP.bindS (b := (0, false)) (by unfold census_Quantile.f; rw [if_pos h0]) ?_
      exact EvP.pos (by omega) (EvP.neg (by simp) (EvP.pos rfl en))
    · refine EvP.bindS (b := (rd (srt l) (quantAt l p), true)) (by unfold census_Quantile.f; rw [if_neg h0, if_pos (by omega)]; rfl) ?_
      refine EvP.neg (by omega) (EvP.pos rfl ?_)
      obtain ⟨q0, q1⟩ := quant_range l p (by omega)
      have hq : wrap64 (Int.tdiv (wrap64 ((mx 0 (mn p 100)) * (wrap64 ((l.length : Int) - 1)))) 100) = quantAt l p := by
        have em : mx 0 (mn p 100) = max 0 (min p 100) := by unfold mx mn; (repeat' split) <;> omega
        have hm0 : 0 ≤ max 0 (min p 100) := by omega
        have hm1 : max 0 (min p 100) ≤ 100 := by omega
        have hp0 : 0 ≤ max 0 (min p 100) * ((l.length : Int) - 1) := Int.mul_nonneg hm0 (by omega)
        have hp1 : max 0 (min p 100) * ((l.length : Int) - 1) ≤ 100 * ((l.length : Int) - 1) := Int.mul_le_mul_of_nonneg_right hm1 (by omega)
        unfold quantAt at q0 q1 ⊢
        rw [em, wrap_nat (n := (l.length : Int) - 1) (by omega) (by omega), wrap_nat (n := max 0 (min p 100) * ((l.length : Int) - 1)) (by omega) (by omega), wrap_nat (by omega) (by omega)]
      rw [hq]
      obtain ⟨q, hqq⟩ := Int.eq_ofNat_of_zero_le q0
      rw [hqq] at q1 ⊢
      refine EvP.bind (at_f l (by omega) q (by omega)) ?_
      rintro t rfl
      exact EvP.pos rfl en
  | succ d ih =>
    intro i acc hd hi ha hh
    have hil : i < l.length := by omega
    have hs := slotFrom_le l[i] b 0
    refine EvP.succ ?_
    simp only [pinfoldlaw35_CensusNumbers.l0]
    rw [rd_at hil, wrap_up (by omega)]
    refine EvP.pos (by omega) (EvP.pos (by omega) (EvP.pos (by omega) (EvP.bind (slot_f l[i] b (by omega)) ?_)))
    rintro t rfl
    refine EvP.pos (by omega) (EvP.pos (by omega) ?_)
    rw [Int.toNat_natCast]
    exact ih (i + 1) _ (by omega) (by omega) (by simp [ha]) (by rw [← histL_drop hil]; exact hh)
theorem numbers_f (l b : List Int) (p : Int) (hl : l.length ≤ 4611686018427387904) (hb : b.length ≤ 4611686018427387904) : EvP (fun k => pinfoldlaw35_CensusNumbers.f k l b p) (· = true) := by
  simp only [pinfoldlaw35_CensusNumbers.f]
  have e1 : 0 ≤ mn (l.length : Int) 60 ∧ mn (l.length : Int) 60 ≤ l.length ∧ mn (l.length : Int) 60 ≤ 60 := by unfold mn; split <;> omega
  have e2 : 0 ≤ mn (b.length : Int) 20 ∧ mn (b.length : Int) 20 ≤ b.length ∧ mn (b.length : Int) 20 ≤ 20 := by unfold mn; split <;> omega
  have l1 : (l.take (mn (l.length : Int) 60).toNat).length ≤ 60 := by simp only [List.length_take]; omega
  have l2 : (b.take (mn (b.length : Int) 20).toNat).length ≤ 20 := by simp only [List.length_take]; omega
  generalize l.take (mn (l.length : Int) 60).toNat = l' at l1 ⊢
  generalize b.take (mn (b.length : Int) 20).toNat = b' at l2 ⊢
  rw [wrap_up (by omega), Int.toNat_natCast]
  exact EvP.pos e1.1 (EvP.pos e1.2.1 (EvP.pos e2.1 (EvP.pos e2.2.1 (EvP.pos (by omega) (EvP.pos (by omega) (numbers_l0 l' b' p l1 l2 _ 0 _ rfl (by omega) (by simp) (by simp)))))))
end Go.Proofs.Ytidhcdifmcffcaa.PCen
