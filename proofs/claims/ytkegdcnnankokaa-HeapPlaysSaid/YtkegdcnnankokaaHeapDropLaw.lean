/-
heap: what is taken out of any place, as a law.
-/
import Derived.Test.YtkegdcnnankokaaHeapLaw
namespace Go.Proofs.Ytkegdcnnankokaa.Hp
set_option linter.unusedVariables false
set_option linter.unusedSimpArgs false
theorem srt_ne {α : Type} {s1 s2 : List (It α)} {a : It α} (h : Srt (s1 ++ a :: s2)) : ∀ e, e ∈ s1 ++ s2 → e ≠ a := by
  obtain ⟨_, h2, h3⟩ := List.pairwise_append.1 h
  intro e he q
  rcases List.mem_append.1 he with he | he
  · exact lt_asymm (q ▸ h3 e he a List.mem_cons_self) (q ▸ h3 e he a List.mem_cons_self)
  · have := (List.pairwise_cons.1 h2).1 e he
    exact lt_asymm (q ▸ this) (q ▸ this)
section
variable {α : Type} [Inhabited α]
theorem down_of_heap {l : List (It α)} (h : IsHeap l) (i : Nat) : DownOk l i :=
  ⟨fun j h0 hj _ => h j h0 hj, fun j h0 hj hp hi => by
    have h1 := h j h0 hj
    rw [hp] at h1
    exact nlt_trans h1 (h i hi (by omega))⟩
/-- l, whose thing at i is another now. -/
theorem cut_up {l L : List (It α)} (h : IsHeap l) {i : Nat} (hLl : L.length ≤ l.length) (hiL : i < L.length) (hg : ∀ k, k < L.length → k ≠ i → gd L k = gd l k) (h0 : 0 < i) (hy : lt (gd L i) (gd L ((i - 1) / 2))) : UpOk L i := by
  have hp : gd L ((i - 1) / 2) = gd l ((i - 1) / 2) := hg _ (by omega) (by omega)
  have hi := h i h0 (by omega)
  refine ⟨fun j j0 hj hne => ?_, fun j j0 hj hpj _ => ?_⟩
  · by_cases hpj : (j - 1) / 2 = i
    · have h1 := h j j0 (by omega)
      rw [hpj] at h1
      rw [hpj, hg j hj hne]
      have h2 := nlt_trans h1 hi
      rw [hp] at hy
      exact fun q => h2 (lt_trans q hy)
    · rw [hg j hj hne, hg _ (by omega) hpj]
      exact h j j0 (by omega)
  · have h1 := h j j0 (by omega)
    rw [hpj] at h1
    rw [hp, hg j hj (by omega)]
    exact nlt_trans h1 hi
theorem cut_down {l L : List (It α)} (h : IsHeap l) {i : Nat} (hLl : L.length ≤ l.length) (hiL : i < L.length) (hg : ∀ k, k < L.length → k ≠ i → gd L k = gd l k) (hy : ¬ (0 < i ∧ lt (gd L i) (gd L ((i - 1) / 2)))) : DownOk L i := by
  refine ⟨fun j j0 hj hne => ?_, fun j j0 hj hpj hi0 => ?_⟩
  · by_cases hji : j = i
    · subst hji; exact fun q => hy ⟨j0, q⟩
    · rw [hg j hj hji, hg _ (by omega) hne]
      exact h j j0 (by omega)
  · have h1 := h j j0 (by omega)
    rw [hpj] at h1
    rw [hg j hj (by omega), hg ((i - 1) / 2) (by omega) (by omega)]
    exact nlt_trans h1 (h i hi0 (by omega))
end
section
variable {α : Type} [Inhabited α] [DecidableEq α]
theorem rep_remove {l s1 s2 : List (It α)} {a : It α} (h : Rep l (s1 ++ a :: s2)) (hA : Apart l) {i : Nat} (hi : i < l.length) (ha : gd l i = a) : Rep (removeP l i) (s1 ++ s2) := by
  have hsr : Srt (s1 ++ s2) := h.srt.sublist (List.Sublist.append (List.Sublist.refl _) (List.sublist_cons_self _ _))
  have hne := srt_ne h.srt
  have hmem : ∀ e, e ∈ s1 ++ s2 ↔ InL l e ∧ e ≠ a := fun e => by
    rw [h.mem e]
    constructor
    · exact fun q => ⟨by rcases List.mem_append.1 q with q | q <;> simp [q], hne e q⟩
    · rintro ⟨q, r⟩
      rcases List.mem_append.1 q with q | q
      · exact List.mem_append.2 (.inl q)
      · rcases List.mem_cons.1 q with q | q
        · exact absurd q r
        · exact List.mem_append.2 (.inr q)
  have hlen := removeP_len hA hi
  have hls : l.length = (s1 ++ s2).length + 1 := by rw [h.len]; simp; omega
  obtain ⟨la, hla⟩ : ∃ la, l.length - 1 = la := ⟨_, rfl⟩
  rw [hla] at hlen
  have hlen2 : (removeP l i).length = (s1 ++ s2).length := by omega
  by_cases h1 : i < la
  · have h1' : i < l.length - 1 := by omega
    obtain ⟨L, hL⟩ : ∃ L, (l.take (l.length - 1)).set i (gd l (l.length - 1)) = L := ⟨_, rfl⟩
    have hLl : L.length = la := by rw [← hL, cut_len, hla]
    have hg : ∀ k, gd L k = if k = i then gd l la else if k < la then gd l k else default := fun k => by rw [← hL, ← hla]; exact gd_cut h1' k
    have hg2 : ∀ k, k < L.length → k ≠ i → gd L k = gd l k := fun k hk hki => by rw [hg, if_neg hki, if_pos (by omega)]
    have hLA : Apart L := hL ▸ apart_cut hA h1'
    have hiL : i < L.length := by omega
    obtain ⟨p, hp⟩ : ∃ p, posN (upP L i) (gd l la).f2 = p := ⟨_, rfl⟩
    have hr : removeP l i = downP (upP L i) p := by unfold removeP; rw [if_pos h1', hL, hla, hp]
    have hpL : p < (upP L i).length := by
      obtain ⟨k, hk, hky⟩ := upP_has hiL (z := (gd l la).f2) ⟨i, hiL, by rw [hg, if_pos rfl]⟩
      rw [← hp, pos_in (upP_apart hiL hLA) hk hky]
      exact hk
    have hheap : IsHeap (downP (upP L i) p) := by
      refine down_heap _ p _ rfl hpL ?_
      by_cases hy : 0 < i ∧ lt (gd L i) (gd L ((i - 1) / 2))
      · exact down_of_heap (up_heap i L hiL (cut_up h.heap (by omega) hiL hg2 hy.1 hy.2)) p
      · have hu := upP_stop hy
        have hpi : p = i := by rw [← hp, hu]; exact pos_in hLA hiL (by rw [hg, if_pos rfl])
        rw [hu, hpi]
        exact cut_down h.heap (by omega) hiL hg2 hy
    rw [hr] at hlen2 ⊢
    refine ⟨hheap, hsr, fun e => ?_, hlen2⟩
    rw [in_down hpL, in_up hiL, hmem]
    constructor
    · rintro ⟨k, hk, rfl⟩
      by_cases hki : k = i
      · rw [hg, if_pos hki]
        refine ⟨⟨la, by omega, rfl⟩, fun q => ?_⟩
        have := hA la i (by omega) hi (by rw [q, ha])
        omega
      · rw [hg2 k hk hki]
        exact ⟨⟨k, by omega, rfl⟩, fun q => hki (hA k i (by omega) hi (by rw [q, ha]))⟩
    · rintro ⟨⟨k, hk, rfl⟩, r⟩
      have hki : k ≠ i := fun q => r (by rw [q, ha])
      by_cases hkl : k = la
      · exact ⟨i, hiL, by rw [hg, if_pos rfl, hkl]⟩
      · exact ⟨k, by omega, hg2 k (by omega) hki⟩
  · have hr : removeP l i = l.take la := by unfold removeP; rw [if_neg (by omega), hla]
    have hgt : ∀ k, k < la → gd (l.take la) k = gd l k := fun k hk => by rw [gd_take, if_pos hk]
    have htl : (l.take la).length = la := by rw [List.length_take]; omega
    rw [hr] at hlen2 ⊢
    refine ⟨fun j j0 hj => ?_, hsr, fun e => ?_, hlen2⟩
    · rw [htl] at hj
      rw [hgt j hj, hgt _ (by omega)]
      exact h.heap j j0 (by omega)
    · rw [hmem]
      constructor
      · rintro ⟨k, hk, rfl⟩
        rw [htl] at hk
        rw [hgt k hk]
        refine ⟨⟨k, by omega, rfl⟩, fun q => ?_⟩
        have := hA k i (by omega) hi (by rw [q, ha])
        omega
      · rintro ⟨⟨k, hk, rfl⟩, r⟩
        have hki : k ≠ i := fun q => r (by rw [q, ha])
        exact ⟨k, by omega, hgt k (by omega)⟩
end
end Go.Proofs.Ytkegdcnnankokaa.Hp
