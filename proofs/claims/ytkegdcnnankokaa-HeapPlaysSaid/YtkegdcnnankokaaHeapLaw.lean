/-
Heaps, plain: what a heap's list holds comes out in its order.
-/
import Derived.Test.YtkegdcnnankokaaHeapSpec
namespace Go.Proofs.Ytkegdcnnankokaa.Hp
set_option linter.unusedVariables false
set_option linter.unusedSimpArgs false
section
variable {α : Type}
theorem lt_asymm {a b : It α} (h : lt a b) : ¬ lt b a := by unfold lt at *; omega
theorem lt_trans {a b c : It α} (h : lt a b) (h2 : lt b c) : lt a c := by unfold lt at *; omega
theorem nlt_trans {a b c : It α} (h : ¬ lt a b) (h2 : ¬ lt b c) : ¬ lt a c := by unfold lt at *; omega
theorem lt_total {a b : It α} (h : a.f1 ≠ b.f1) : lt a b ∨ lt b a := by unfold lt; omega
/-- a thing goes where it belongs. -/
def ins (p : It α) : List (It α) → List (It α)
  | [] => [p]
  | a :: s => if lt p a then p :: a :: s else a :: ins p s
theorem mem_ins (p e : It α) : ∀ s : List (It α), e ∈ ins p s ↔ e ∈ s ∨ e = p
  | [] => by simp [ins]
  | a :: s => by
    have ih := mem_ins p e s
    unfold ins
    split
    · simp only [List.mem_cons]; exact ⟨fun q => q.elim .inr .inl, fun q => q.elim .inr .inl⟩
    · simp only [List.mem_cons, ih]; exact or_assoc.symm
theorem len_ins (p : It α) : ∀ s : List (It α), (ins p s).length = s.length + 1
  | [] => rfl
  | a :: s => by
    unfold ins
    split
    · rfl
    · simp [len_ins p s]
def Srt (s : List (It α)) : Prop := s.Pairwise lt
theorem srt_ins {p : It α} : ∀ {s : List (It α)}, Srt s → (∀ a ∈ s, a.f1 ≠ p.f1) → Srt (ins p s)
  | [], _, _ => by simp [ins, Srt]
  | a :: s, h, hp => by
    obtain ⟨h1, h2⟩ := List.pairwise_cons.1 h
    unfold ins
    split
    · rename_i hl
      refine List.pairwise_cons.2 ⟨fun b hb => ?_, h⟩
      rcases List.mem_cons.1 hb with rfl | hb
      · exact hl
      · exact lt_trans hl (h1 b hb)
    · rename_i hl
      refine List.pairwise_cons.2 ⟨fun b hb => ?_, srt_ins h2 (fun b hb => hp b (List.mem_cons_of_mem _ hb))⟩
      rcases (mem_ins p b s).1 hb with hb | rfl
      · exact h1 b hb
      · exact (lt_total (hp a List.mem_cons_self)).resolve_right hl
end
section
variable {α : Type} [Inhabited α]
def IsHeap (l : List (It α)) : Prop := ∀ j, 0 < j → j < l.length → ¬ lt (gd l j) (gd l ((j - 1) / 2))
def UpOk (l : List (It α)) (i : Nat) : Prop :=
  (∀ j, 0 < j → j < l.length → j ≠ i → ¬ lt (gd l j) (gd l ((j - 1) / 2))) ∧ ∀ j, 0 < j → j < l.length → (j - 1) / 2 = i → 0 < i → ¬ lt (gd l j) (gd l ((i - 1) / 2))
def DownOk (l : List (It α)) (i : Nat) : Prop :=
  (∀ j, 0 < j → j < l.length → (j - 1) / 2 ≠ i → ¬ lt (gd l j) (gd l ((j - 1) / 2))) ∧ ∀ j, 0 < j → j < l.length → (j - 1) / 2 = i → 0 < i → ¬ lt (gd l j) (gd l ((i - 1) / 2))
theorem up_heap : ∀ (i : Nat) (l : List (It α)), i < l.length → UpOk l i → IsHeap (upP l i) := by
  intro i
  induction i using Nat.strongRecOn with
  | _ i ih =>
    intro l hi h
    by_cases hc : 0 < i ∧ lt (gd l i) (gd l ((i - 1) / 2))
    · rw [upP_go hc.1 hc.2]
      obtain ⟨p, hp⟩ : ∃ p, (i - 1) / 2 = p := ⟨_, rfl⟩
      have hpi : p < i := by omega
      have hpl : p < l.length := by omega
      rw [hp] at hc ⊢
      refine ih p hpi _ (by rw [sw_len]; exact hpl) ⟨fun j h0 hj hne => ?_, fun j h0 hj hpj hp0 => ?_⟩
      · rw [sw_len] at hj
        rw [gd_sw hi hpl, gd_sw hi hpl, if_neg hne]
        by_cases e : j = i
        · subst e
          rw [if_pos rfl, hp, if_pos rfl]
          exact lt_asymm hc.2
        · rw [if_neg e]
          have h1 := h.1 j h0 hj e
          by_cases e1 : (j - 1) / 2 = p
          · rw [if_pos e1]
            rw [e1] at h1
            exact fun q => h1 (lt_trans q hc.2)
          · rw [if_neg e1]
            by_cases e2 : (j - 1) / 2 = i
            · rw [if_pos e2]
              have := h.2 j h0 hj e2 hc.1
              rw [hp] at this
              exact this
            · rw [if_neg e2]; exact h1
      · rw [sw_len] at hj
        have hpp : (p - 1) / 2 ≠ p := by omega
        have hpi2 : (p - 1) / 2 ≠ i := by omega
        rw [gd_sw hi hpl, gd_sw hi hpl, if_neg hpp, if_neg hpi2, if_neg (by omega)]
        have h1 := h.1 p hp0 hpl (by omega)
        by_cases e : j = i
        · rw [if_pos e]; exact h1
        · rw [if_neg e]
          have h2 := h.1 j h0 hj e
          rw [hpj] at h2
          exact nlt_trans h2 h1
    · rw [upP_stop hc]
      intro j h0 hj
      by_cases e : j = i
      · subst e
        exact fun q => hc ⟨h0, q⟩
      · exact h.1 j h0 hj e
theorem kid_least {l : List (It α)} {i j : Nat} (h1 : 2 * i + 1 < l.length) (hj : j < l.length) (h0 : 0 < j) (hp : (j - 1) / 2 = i) : ¬ lt (gd l j) (gd l (kid l i)) := by
  have hj2 : j = 2 * i + 1 ∨ j = 2 * i + 2 := by omega
  unfold kid
  split
  · rename_i h
    rcases hj2 with rfl | rfl
    · exact lt_asymm h.2
    · exact fun q => lt_asymm q q
  · rename_i h
    rcases hj2 with rfl | rfl
    · exact fun q => lt_asymm q q
    · exact fun q => h ⟨hj, q⟩
theorem down_heap : ∀ (d i : Nat) (l : List (It α)), l.length - i = d → i < l.length → DownOk l i → IsHeap (downP l i) := by
  intro d
  induction d using Nat.strongRecOn with
  | _ d ih =>
    intro i l hd hi h
    by_cases hc : 2 * i + 1 < l.length ∧ ¬ lt (gd l i) (gd l (kid l i))
    · have hkb := kid_b l i hc.1
      have hkl := fun j (h1 : j < l.length) (h2 : 0 < j) (h3 : (j - 1) / 2 = i) => kid_least hc.1 h1 h2 h3
      have hkp : (kid l i - 1) / 2 = i := by unfold kid; split <;> omega
      rw [downP_go hc.1 hc.2]
      obtain ⟨k, hk⟩ : ∃ k, kid l i = k := ⟨_, rfl⟩
      rw [hk] at hkb hkl hkp hc ⊢
      refine ih (l.length - k) (by omega) k _ (by rw [sw_len]) (by rw [sw_len]; exact hkb.2) ⟨fun j h0 hj hne => ?_, fun j h0 hj hpj hp0 => ?_⟩
      · rw [sw_len] at hj
        rw [gd_sw hi hkb.2, gd_sw hi hkb.2, if_neg hne]
        by_cases e : j = k
        · subst e
          rw [if_pos rfl, if_pos hkp]
          exact hc.2
        · rw [if_neg e]
          by_cases e1 : j = i
          · subst e1
            rw [if_pos rfl, if_neg (by omega)]
            exact h.2 k (by omega) hkb.2 hkp h0
          · rw [if_neg e1]
            by_cases e2 : (j - 1) / 2 = i
            · rw [if_pos e2]; exact hkl j hj h0 e2
            · rw [if_neg e2]; exact h.1 j h0 hj e2
      · rw [sw_len] at hj
        rw [gd_sw hi hkb.2, gd_sw hi hkb.2, hkp, if_neg (by omega), if_pos rfl, if_neg (by omega), if_neg (by omega)]
        have := h.1 j h0 hj (by omega)
        rw [hpj] at this
        exact this
    · rw [downP_stop hc]
      intro j h0 hj
      by_cases e : (j - 1) / 2 = i
      · rw [e]
        have h1 : 2 * i + 1 < l.length := by omega
        have h2 : lt (gd l i) (gd l (kid l i)) := Decidable.not_not.1 (fun q => hc ⟨h1, q⟩)
        exact fun q => kid_least h1 hj h0 e (lt_trans q h2)
      · exact h.1 j h0 hj e
theorem root_least {l : List (It α)} (h : IsHeap l) : ∀ k, k < l.length → ¬ lt (gd l k) (gd l 0) := by
  intro k
  induction k using Nat.strongRecOn with
  | _ k ih =>
    intro hk
    by_cases h0 : k = 0
    · subst h0; exact fun q => lt_asymm q q
    · exact nlt_trans (h k (by omega) hk) (ih ((k - 1) / 2) (by omega) (by omega))
def InL (l : List (It α)) (e : It α) : Prop := ∃ k, k < l.length ∧ gd l k = e
theorem in_sw {l : List (It α)} {i j : Nat} (hi : i < l.length) (hj : j < l.length) (e : It α) : InL (sw l i j) e ↔ InL l e := by
  have one : ∀ (l : List (It α)), i < l.length → j < l.length → InL l e → InL (sw l i j) e := by
    rintro l hi hj ⟨k, hk, rfl⟩
    by_cases h1 : k = i
    · exact ⟨j, by rw [sw_len]; exact hj, by rw [gd_sw hi hj, if_pos rfl, h1]⟩
    · by_cases h2 : k = j
      · refine ⟨i, by rw [sw_len]; exact hi, ?_⟩
        rw [gd_sw hi hj]
        by_cases h3 : i = j
        · omega
        · rw [if_neg h3, if_pos rfl, h2]
      · exact ⟨k, by rw [sw_len]; exact hk, by rw [gd_sw hi hj, if_neg h2, if_neg h1]⟩
  refine ⟨fun h => ?_, one l hi hj⟩
  obtain ⟨k, hk, hke⟩ := h
  rw [sw_len] at hk
  rw [gd_sw hi hj] at hke
  split at hke
  · exact ⟨i, hi, hke⟩
  · split at hke
    · exact ⟨j, hj, hke⟩
    · exact ⟨k, hk, hke⟩
theorem in_up {l : List (It α)} {i : Nat} (hi : i < l.length) (e : It α) : InL (upP l i) e ↔ InL l e := upP_keep (fun q => InL q e ↔ InL l e) (fun _ _ _ ha hb h => (in_sw ha hb e).trans h) i l hi Iff.rfl
theorem in_down {l : List (It α)} {i : Nat} (hi : i < l.length) (e : It α) : InL (downP l i) e ↔ InL l e := downP_keep (fun q => InL q e ↔ InL l e) (fun _ _ _ ha hb h => (in_sw ha hb e).trans h) _ i l rfl hi Iff.rfl
theorem in_snoc (l : List (It α)) (p e : It α) : InL (l ++ [p]) e ↔ InL l e ∨ e = p := by
  constructor
  · rintro ⟨k, hk, hke⟩
    rw [List.length_append, List.length_singleton] at hk
    rw [gd_snoc] at hke
    split at hke
    · exact .inl ⟨k, by assumption, hke⟩
    · rw [if_pos (by omega)] at hke
      exact .inr hke.symm
  · rintro (⟨k, hk, rfl⟩ | rfl)
    · exact ⟨k, by simp; omega, by rw [gd_snoc, if_pos hk]⟩
    · exact ⟨l.length, by simp, by rw [gd_snoc, if_neg (Nat.lt_irrefl _), if_pos rfl]⟩
/-- the heap l holds what stands in s, in its order. -/
structure Rep (l s : List (It α)) : Prop where
  heap : IsHeap l
  srt : Srt s
  mem : ∀ e, InL l e ↔ e ∈ s
  len : l.length = s.length
theorem rep_nil : Rep ([] : List (It α)) [] := ⟨fun j _ h => absurd h (by simp), List.Pairwise.nil, fun e => ⟨fun ⟨k, hk, _⟩ => absurd hk (by simp), fun h => absurd h (by simp)⟩, rfl⟩
theorem rep_put {l s : List (It α)} (h : Rep l s) {p : It α} (hp : ∀ a ∈ s, a.f1 ≠ p.f1) : Rep (upP (l ++ [p]) l.length) (ins p s) := by
  have hl : l.length < (l ++ [p]).length := by simp
  refine ⟨up_heap _ _ hl ⟨fun j h0 hj hne => ?_, fun j h0 hj hpj _ => ?_⟩, srt_ins h.srt hp, fun e => ?_, ?_⟩
  · rw [List.length_append, List.length_singleton] at hj
    rw [gd_snoc, gd_snoc, if_pos (by omega), if_pos (by omega)]
    exact h.heap j h0 (by omega)
  · rw [List.length_append, List.length_singleton] at hj
    omega
  · rw [in_up hl, in_snoc, mem_ins, h.mem e]
  · rw [upP_len _ _ hl, len_ins, List.length_append, List.length_singleton, h.len]
theorem rep_first {l s : List (It α)} {a : It α} (h : Rep l (a :: s)) : 0 < l.length ∧ gd l 0 = a := by
  have hl : 0 < l.length := by rw [h.len]; simp
  refine ⟨hl, ?_⟩
  obtain ⟨k, hk, hka⟩ := (h.mem a).2 List.mem_cons_self
  have h1 := root_least h.heap k hk
  rw [hka] at h1
  rcases List.mem_cons.1 ((h.mem (gd l 0)).1 ⟨0, hl, rfl⟩) with e | e
  · exact e
  · exact absurd ((List.pairwise_cons.1 h.srt).1 _ e) h1
end
section
variable {α : Type} [Inhabited α] [DecidableEq α]
theorem rep_pop {l s : List (It α)} {a : It α} (h : Rep l (a :: s)) (hA : Apart l) : Rep (removeP l 0) s := by
  obtain ⟨hl, ha⟩ := rep_first h
  obtain ⟨hs1, hs2⟩ := List.pairwise_cons.1 h.srt
  have hne : ∀ e, e ∈ s → e ≠ a := fun e he q => lt_asymm (q ▸ hs1 e he) (q ▸ hs1 e he)
  have hmem : ∀ e, e ∈ s ↔ InL l e ∧ e ≠ a := fun e => by
    rw [h.mem e, List.mem_cons]
    constructor
    · exact fun q => ⟨.inr q, hne e q⟩
    · rintro ⟨q | q, r⟩
      · exact absurd q r
      · exact q
  have hlen := removeP_len hA hl
  have hls : l.length = s.length + 1 := by rw [h.len]; rfl
  by_cases h1 : 0 < l.length - 1
  · obtain ⟨L, hL⟩ : ∃ L, (l.take (l.length - 1)).set 0 (gd l (l.length - 1)) = L := ⟨_, rfl⟩
    have hLl : L.length = l.length - 1 := by rw [← hL, cut_len]
    have hg : ∀ k, gd L k = if k = 0 then gd l (l.length - 1) else if k < l.length - 1 then gd l k else default := fun k => by rw [← hL]; exact gd_cut h1 k
    have hLA : Apart L := hL ▸ apart_cut hA h1
    have hup : upP L 0 = L := upP_stop (fun q => absurd q.1 (Nat.lt_irrefl 0))
    have hpos : posN L (gd l (l.length - 1)).f2 = 0 := pos_in hLA (by omega) (by rw [hg, if_pos rfl])
    have hr : removeP l 0 = downP L 0 := by unfold removeP; rw [if_pos h1, hL, hup, hpos]
    have h0L : 0 < L.length := by omega
    rw [hr] at hlen ⊢
    refine ⟨down_heap _ 0 L rfl h0L ⟨fun j h0 hj hne => ?_, fun _ _ _ _ q => absurd q (Nat.lt_irrefl 0)⟩, hs2, fun e => ?_, by rw [hlen]; omega⟩
    · rw [hLl] at hj
      rw [hg, hg, if_neg (by omega), if_pos hj, if_neg hne, if_pos (by omega)]
      exact h.heap j h0 (by omega)
    · rw [in_down h0L, hmem]
      constructor
      · rintro ⟨k, hk, rfl⟩
        rw [hLl] at hk
        rw [hg]
        split
        · refine ⟨⟨_, by omega, rfl⟩, fun q => ?_⟩
          have := hA (l.length - 1) 0 (by omega) hl (by rw [q, ha])
          omega
        · rename_i hk0
          refine ⟨⟨k, by omega, rfl⟩, fun q => ?_⟩
          exact hk0 (hA k 0 (by omega) hl (by rw [q, ha]))
      · rintro ⟨⟨k, hk, rfl⟩, r⟩
        have hk0 : k ≠ 0 := fun q => r (by rw [q, ha])
        by_cases hkl : k = l.length - 1
        · exact ⟨0, h0L, by rw [hg, if_pos rfl, hkl]⟩
        · exact ⟨k, by omega, by rw [hg, if_neg hk0, if_pos (by omega)]⟩
  · have hl1 : l.length = 1 := by omega
    have hs : s = [] := List.eq_nil_of_length_eq_zero (by omega)
    have hr : removeP l 0 = [] := List.eq_nil_of_length_eq_zero (by rw [hlen, hl1])
    rw [hr, hs]
    exact rep_nil
theorem rep_pop_nil {l : List (It α)} (h : Rep l []) : popP l = l ∧ l.length = 0 := by
  have : l.length = 0 := h.len
  exact ⟨by unfold popP; rw [if_pos this], this⟩
theorem rep_due {now : Int} : ∀ {s l : List (It α)}, Rep l s → Apart l → (dueP now l).1 = (s.takeWhile (fun e => decide (e.f0 ≤ now))).map (·.f2) ∧ Rep (dueP now l).2 (s.dropWhile (fun e => decide (e.f0 ≤ now))) ∧ Apart (dueP now l).2
  | [], l, h, hA => by
    have hl : l.length = 0 := h.len
    rw [dueP_stop (.inl hl)]
    exact ⟨rfl, h, hA⟩
  | a :: s, l, h, hA => by
    obtain ⟨hl, ha⟩ := rep_first h
    by_cases hn : a.f0 ≤ now
    · have hrA : Apart (removeP l 0) := by
        have hr := rep_pop h hA
        by_cases h1 : 0 < l.length - 1
        · have hc : 0 < ((l.take (l.length - 1)).set 0 (gd l (l.length - 1))).length := by rw [cut_len]; exact h1
          unfold removeP
          rw [if_pos h1]
          obtain ⟨k, hk, hky⟩ := upP_has hc (z := (gd l (l.length - 1)).f2) ⟨0, hc, by rw [gd_cut h1, if_pos rfl]⟩
          rw [pos_in (upP_apart hc (apart_cut hA h1)) hk hky]
          exact downP_apart hk (upP_apart hc (apart_cut hA h1))
        · unfold removeP
          rw [if_neg h1]
          exact apart_take hA _
      obtain ⟨i1, i2, i3⟩ := rep_due (now := now) (rep_pop h hA) hrA
      rw [dueP_go hA hl (by rw [ha]; omega)]
      rw [List.takeWhile_cons_of_pos (by simpa using hn), List.dropWhile_cons_of_pos (by simpa using hn)]
      exact ⟨by rw [ha]; simp [i1], i2, i3⟩
    · rw [dueP_stop (.inr (by rw [ha]; omega))]
      rw [List.takeWhile_cons_of_neg (by simpa using hn), List.dropWhile_cons_of_neg (by simpa using hn)]
      exact ⟨rfl, h, hA⟩
end
end Go.Proofs.Ytkegdcnnankokaa.Hp
namespace Go.Proofs.Ytkegdcnnankokaa.Hp
section
variable {α : Type} [Inhabited α] [DecidableEq α]
theorem rep_has {l s : List (It α)} (h : Rep l s) (x : α) : hasX l x = s.any (fun e => decide (e.f2 = x)) := by
  cases hx : hasX l x with
  | false =>
    rw [hasX_false] at hx
    symm
    rw [List.any_eq_false]
    intro e he q
    obtain ⟨k, hk, rfl⟩ := (h.mem e).2 he
    exact hx k hk (by simpa using q)
  | true =>
    symm
    rw [List.any_eq_true]
    have : ¬ ∀ i, i < l.length → (gd l i).f2 ≠ x := fun q => by rw [← hasX_false] at q; rw [q] at hx; cases hx
    obtain ⟨i, hi⟩ := Classical.not_forall.1 this
    have hil : i < l.length := Decidable.byContradiction (fun q => hi (fun r => absurd r q))
    have hie : (gd l i).f2 = x := Decidable.byContradiction (fun q => hi (fun _ => q))
    exact ⟨gd l i, (h.mem _).1 ⟨i, hil, rfl⟩, by simpa using hie⟩
end
end Go.Proofs.Ytkegdcnnankokaa.Hp
