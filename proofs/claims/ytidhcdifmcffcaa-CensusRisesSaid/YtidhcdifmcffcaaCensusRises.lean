/-
Quantiles rise, plain: the printed rises answers true.
-/
import Derived.Test.YtidhcdifmcffcaaCensusNumbers
import Derived.Test.YtidhcdifmcffcaaPCenx3
namespace Go.Proofs.Ytidhcdifmcffcaa.PCen
set_option linter.unusedVariables false
set_option linter.unusedSimpArgs false
open Go.RowKit Go.Proofs.YtidhcdifmcffcaaW.PrintWords Go.Proofs.YtidhcdifmcffcaaW.PrintLast Go.Proofs.YtidhcdifmcffcaaW.PrintMore

theorem sum_put : ∀ (x : List Int) (n : Nat) (r : Int) (h : n < x.length), (x.set n r).sum = x.sum - x[n] + r
  | a :: x, 0, r, _ => by simp; omega
  | a :: x, n + 1, r, h => by
    have := sum_put x n r (by simpa using h)
    simp at this ⊢
    omega
theorem histL_sum (b : List Int) : ∀ (l acc : List Int) (m : Nat), acc.length = b.length + 1 → m + l.length ≤ 1000000 → (∀ x ∈ acc, 0 ≤ x ∧ x ≤ (m : Int)) → (histL b acc l).sum = acc.sum + l.length ∧ ∀ x ∈ histL b acc l, 0 ≤ x
  | [], acc, m, _, _, hx => ⟨by simp [histL], fun x h => (hx x h).1⟩
  | n :: l, acc, m, ha, hm, hx => by
    have hs := slotFrom_le n b 0
    have hsl : slotFrom n b 0 < acc.length := by omega
    have hv := hx acc[slotFrom n b 0] (List.getElem_mem hsl)
    simp only [List.length_cons] at hm
    have hw : wrap64 (rd acc (slotFrom n b 0 : Int) + 1) = acc[slotFrom n b 0] + 1 := by rw [rd_at hsl, wrap_nat (by omega) (by omega)]
    rw [histL, hw]
    obtain ⟨h1, h2⟩ := histL_sum b l (acc.set (slotFrom n b 0) (acc[slotFrom n b 0] + 1)) (m + 1) (by simp [ha]) (by omega) (fun x h => by
      rcases List.mem_or_eq_of_mem_set h with h | rfl
      · have := hx x h; push_cast; omega
      · push_cast; omega)
    refine ⟨?_, h2⟩
    rw [h1, sum_put _ _ _ hsl]
    simp only [List.length_cons]; push_cast; omega
theorem take_sum (h : List Int) (hx : ∀ x ∈ h, 0 ≤ x) (i : Nat) : 0 ≤ (h.take i).sum ∧ (h.take i).sum ≤ h.sum := by
  have nn : ∀ (l : List Int), (∀ x ∈ l, 0 ≤ x) → 0 ≤ l.sum := by
    intro l
    induction l with
    | nil => simp
    | cons a l ih => intro h; have h1 := h a (by simp); have h2 := ih (fun x hx => h x (by simp [hx])); simp; omega
  have h1 := nn (h.take i) (fun x m => hx x (List.mem_of_mem_take m))
  have h2 := nn (h.drop i) (fun x m => hx x (List.mem_of_mem_drop m))
  have h3 : (h.take i).sum + (h.drop i).sum = h.sum := by rw [← List.sum_append, List.take_append_drop]
  omega
theorem srt_mono (l : List Int) {p q : Nat} (h : p ≤ q) (hq : q < l.length) : rd (srt l) (p : Int) ≤ rd (srt l) (q : Int) := by
  have e := srt_len l
  rw [rd_at (by omega), rd_at (by omega)]
  by_cases hpq : p = q
  · subst hpq; exact Int.le_refl _
  · exact List.pairwise_iff_getElem.1 (srt_rises l) p q (by omega) (by omega) (by omega)
theorem quant_mono (l : List Int) (a b : Int) (hl : 0 < l.length) (h : a ≤ b) : rd (srt l) (quantAt l a) ≤ rd (srt l) (quantAt l b) := by
  obtain ⟨a0, a1⟩ := quant_range l a hl
  obtain ⟨b0, b1⟩ := quant_range l b hl
  have hle : quantAt l a ≤ quantAt l b := by
    have ha0 : 0 ≤ max 0 (min a 100) := by omega
    have hb0 : 0 ≤ max 0 (min b 100) := by omega
    have hab : max 0 (min a 100) ≤ max 0 (min b 100) := by omega
    have hn : 0 ≤ (l.length : Int) - 1 := by omega
    have h1 := Int.mul_nonneg ha0 hn
    have h2 := Int.mul_nonneg hb0 hn
    have h3 : max 0 (min a 100) * ((l.length : Int) - 1) ≤ max 0 (min b 100) * ((l.length : Int) - 1) := Int.mul_le_mul_of_nonneg_right hab hn
    unfold quantAt
    rw [Int.tdiv_eq_ediv_of_nonneg h1, Int.tdiv_eq_ediv_of_nonneg h2]
    omega
  obtain ⟨p, hp⟩ := Int.eq_ofNat_of_zero_le a0
  obtain ⟨q, hq⟩ := Int.eq_ofNat_of_zero_le b0
  rw [hp] at a1 hle ⊢
  rw [hq] at b1 hle ⊢
  exact srt_mono l (by omega) (by omega)
theorem quant_0 (l : List Int) : quantAt l 0 = 0 := by unfold quantAt; rw [show max (0 : Int) (min 0 100) = 0 by decide, Int.zero_mul]; rfl
theorem quant_100 (l : List Int) (hl : 0 < l.length) : quantAt l 100 = ((l.length - 1 : Nat) : Int) := by
  have h : (0 : Int) ≤ 100 * ((l.length : Int) - 1) := by omega
  unfold quantAt
  rw [show max (0 : Int) (min 100 100) = 100 by decide, Int.tdiv_eq_ediv_of_nonneg h]
  omega
theorem quant_some (l : List Int) (hl : 0 < l.length) (h60 : l.length ≤ 60) (p : Int) : census_Quantile.f l p = some (rd (srt l) (quantAt l p), true) := by
  unfold census_Quantile.f
  rw [if_neg (by omega), if_pos (by omega)]; rfl
theorem rises_l1 (l : List Int) (hl : l.length ≤ 60) (hpos : 0 < l.length) (x y : Int) (hxy : x ≤ y) (hx : rd (srt l) 0 ≤ x) (hy : y ≤ rd (srt l) ((l.length - 1 : Nat) : Int)) : ∀ (d i : Nat), l.length - i = d → i ≤ l.length →
    EvP (fun k => pinfoldlaw35_rises.l1 k x y (rd (srt l) 0) (rd (srt l) ((l.length - 1 : Nat) : Int)) l (l.length : Int) (i : Int)) (· = true) := by
  intro d
  induction d with
  | zero =>
    intro i hd hi
    refine EvP.succ ?_
    simp only [pinfoldlaw35_rises.l1]
    exact EvP.neg (by omega) (EvP.pos hxy (EvP.pos hx (EvP.now (by simpa using hy))))
  | succ d ih =>
    intro i hd hi
    have hil : i < l.length := by omega
    obtain ⟨j, hj, he⟩ := List.getElem_of_mem ((srt_perm l).mem_iff.2 (List.getElem_mem hil))
    have hjl : j < l.length := by rw [← srt_len]; exact hj
    have g0 := srt_mono l (Nat.zero_le j) hjl
    have g1 := srt_mono l (show j ≤ l.length - 1 by omega) (by omega)
    rw [rd_at (i := j) hj, he] at g0 g1
    refine EvP.succ ?_
    simp only [pinfoldlaw35_rises.l1]
    rw [rd_at hil, wrap_up (by omega)]
    refine EvP.pos (by omega) (EvP.pos (by omega) (EvP.pos (by omega) (EvP.neg (by push_cast at g0; omega) (EvP.neg (by omega) (ih (i + 1) (by omega) (by omega))))))
theorem rises_f (l b : List Int) (p q : Int) (hl : l.length ≤ 60) (hb : b.length ≤ 20) : EvP (fun k => pinfoldlaw35_rises.f k l b p q) (· = true) := by
  simp only [pinfoldlaw35_rises.f]
  refine EvP.bind (hist_f b l (by omega) (by omega)) ?_
  rintro t rfl
  obtain ⟨hs, hn⟩ := histL_sum b l (List.replicate (b.length + 1) 0) 0 (by simp) (by omega) (fun x h => by simp [List.mem_replicate] at h; omega)
  have hsum : (histL b (List.replicate (b.length + 1) 0) l).sum = l.length := by rw [hs]; simp
  have hlen := histL_len b l (List.replicate (b.length + 1) 0)
  rw [List.length_replicate] at hlen
  generalize histL b (List.replicate (b.length + 1) 0) l = h at hsum hn hlen
  have loop : ∀ (d i : Nat), h.length - i = d → i ≤ h.length → EvP (fun k => pinfoldlaw35_rises.l0 k l p q (h.take i).sum h (h.length : Int) (i : Int)) (· = true) := by
    intro d
    induction d with
    | zero =>
      intro i hd hi
      obtain rfl : i = h.length := by omega
      refine EvP.succ ?_
      simp only [pinfoldlaw35_rises.l0]
      rw [List.take_length, hsum]
      refine EvP.neg (by omega) (EvP.pos rfl (EvP.succ ?_))
      simp only [pinfoldlaw35_rises.j1]
      by_cases h0 : l.length = 0
      · exact EvP.pos (by simp [h0]) (EvP.now (by simp))
      · refine EvP.neg (by simpa using h0) ?_
        have hpos : 0 < l.length := by omega
        have e1 : mn p q ≤ mx p q := by unfold mn mx; (repeat' split) <;> omega
        refine EvP.bindS (quant_some l hpos hl _) (EvP.bindS (quant_some l hpos hl _) (EvP.bindS (quant_some l hpos hl _) (EvP.bindS (quant_some l hpos hl _) ?_)))
        dsimp only
        have m1 := quant_mono l _ _ hpos e1
        obtain ⟨a0, a1⟩ := quant_range l (mn p q) hpos
        obtain ⟨b0, b1⟩ := quant_range l (mx p q) hpos
        obtain ⟨u, hu⟩ := Int.eq_ofNat_of_zero_le a0
        obtain ⟨v, hv⟩ := Int.eq_ofNat_of_zero_le b0
        rw [hu] at a1 m1 ⊢
        rw [hv] at b1 m1 ⊢
        rw [quant_0, quant_100 l hpos]
        exact rises_l1 l hl hpos _ _ m1 (srt_mono l (Nat.zero_le u) (by omega)) (srt_mono l (by omega) (by omega)) _ 0 rfl (by omega)
    | succ d ih =>
      intro i hd hi
      have hil : i < h.length := by omega
      have st := ih (i + 1) (by omega) (by omega)
      have b1 := take_sum h hn i
      have b2 := take_sum h hn (i + 1)
      have es : (h.take (i + 1)).sum = (h.take i).sum + h[i] := by rw [List.take_succ_eq_append_getElem hil, List.sum_append]; simp
      refine EvP.succ ?_
      simp only [pinfoldlaw35_rises.l0]
      rw [rd_at hil, wrap_up (by omega), wrap_nat (n := (h.take i).sum + h[i]) (by omega) (by omega), ← es]
      exact EvP.pos (by omega) (EvP.pos (by omega) (EvP.pos (by omega) st))
  simpa using loop _ 0 rfl (by omega)
theorem censusRises_f (l b : List Int) (p q : Int) : EvP (fun k => pinfoldlaw35_CensusRises.f k l b p q) (· = true) := by
  simp only [pinfoldlaw35_CensusRises.f]
  have e1 : 0 ≤ mn (l.length : Int) 60 ∧ mn (l.length : Int) 60 ≤ l.length ∧ mn (l.length : Int) 60 ≤ 60 := by unfold mn; split <;> omega
  have e2 : 0 ≤ mn (b.length : Int) 20 ∧ mn (b.length : Int) 20 ≤ b.length ∧ mn (b.length : Int) 20 ≤ 20 := by unfold mn; split <;> omega
  have l1 : (l.take (mn (l.length : Int) 60).toNat).length ≤ 60 := by simp only [List.length_take]; omega
  have l2 : (b.take (mn (b.length : Int) 20).toNat).length ≤ 20 := by simp only [List.length_take]; omega
  generalize l.take (mn (l.length : Int) 60).toNat = l' at l1 ⊢
  generalize b.take (mn (b.length : Int) 20).toNat = b' at l2 ⊢
  refine EvP.bind lives_f ?_
  rintro t rfl
  refine EvP.pos rfl (EvP.pos e1.1 (EvP.pos e1.2.1 (EvP.pos e2.1 (EvP.pos e2.2.1 (EvP.bind (rises_f l' b' _ _ l1 l2) (fun b hb => EvP.now hb))))))
end Go.Proofs.Ytidhcdifmcffcaa.PCen
