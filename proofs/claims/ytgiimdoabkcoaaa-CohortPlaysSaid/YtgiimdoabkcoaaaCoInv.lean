/-
What Take and Give leave, plain: all is in order behind them; who is given a lock, and out of which row.
-/
import Derived.Test.YtgiimdoabkcoaaaCoAway
namespace Go.Proofs.Ytgiimdoabkcoaaa.Co
set_option linter.unusedVariables false
set_option linter.unusedSimpArgs false
theorem Sm.more {M N : Nat} {x : LS} (h : Sm M x) (hm : M ≤ N) : Sm N x := ⟨Nat.le_trans h.1 hm, fun p hp => Nat.le_trans (h.2 p hp) hm⟩
theorem nodup_inj {α : Type} {l : List α} (h : l.Nodup) {i j : Nat} (hi : i < l.length) (hj : j < l.length) (e : l[i] = l[j]) : i = j := by
  rcases Nat.lt_trichotomy i j with q | q | q
  · exact absurd e (List.pairwise_iff_getElem.1 h i j hi hj q)
  · exact q
  · exact absurd e.symm (List.pairwise_iff_getElem.1 h j i hj hi q)
section
variable {r : List Rw} {s t : Int} {k : Nat} {x : LS} {M : Nat}
theorem mem_moveR {p : Rw} : p ∈ moveR r s ↔ p ∈ r := by
  unfold moveR
  cases h : rowI r s with
  | none => exact Iff.rfl
  | some k =>
    obtain ⟨hk, _⟩ := rowI_some h
    constructor
    · intro h
      rcases List.mem_append.1 h with h | h
      · exact List.mem_of_mem_eraseIdx h
      · rw [List.mem_singleton.1 h]; exact rg_mem hk
    · intro h
      obtain ⟨i, hi, rfl⟩ := List.getElem_of_mem h
      by_cases e : i = k
      · subst e
        exact List.mem_append_right _ (by rw [rg_at hk]; exact List.mem_singleton.2 rfl)
      · exact List.mem_append_left _ (List.mem_eraseIdx_iff_getElem?.2 ⟨i, e, List.getElem?_eq_getElem hi⟩)
theorem moveR_len : (moveR r s).length = r.length := by
  unfold moveR
  cases h : rowI r s with
  | none => rfl
  | some k =>
    obtain ⟨hk, _⟩ := rowI_some h
    show (r.eraseIdx k ++ [rg r k]).length = r.length
    rw [List.length_append, List.length_eraseIdx, if_pos hk, List.length_singleton]
    omega
theorem map_eraseIdx {α β : Type} (f : α → β) : ∀ (l : List α) (k : Nat), (l.eraseIdx k).map f = (l.map f).eraseIdx k
  | [], _ => rfl
  | _ :: _, 0 => rfl
  | a :: l, k + 1 => by simp [map_eraseIdx f l k]
theorem firstR_sub : List.Sublist ((firstR r k).map (·.1)) (r.map (·.1)) := by
  unfold firstR
  split
  · rw [map_eraseIdx]; exact List.eraseIdx_sublist _ _
  · rcases Nat.lt_or_ge k r.length with hk | hk
    · have : (r.set k ((rg r k).1, (rg r k).2.tail)).map (·.1) = r.map (·.1) := by
        apply List.ext_getElem?
        intro i
        simp only [List.getElem?_map, List.getElem?_set]
        by_cases e : k = i
        · subst e
          simp [hk, rg_at hk]
        · simp [e]
      rw [this]; exact List.Sublist.refl _
    · rw [List.set_eq_of_length_le hk]; exact List.Sublist.refl _
theorem moveR_nodup (h : (r.map (·.1)).Nodup) : ((moveR r s).map (·.1)).Nodup := by
  unfold moveR
  cases hr : rowI r s with
  | none => exact h
  | some k =>
    obtain ⟨hk, _⟩ := rowI_some hr
    show ((r.eraseIdx k ++ [rg r k]).map (·.1)).Nodup
    rw [List.map_append, map_eraseIdx]
    rw [List.nodup_append]
    refine ⟨(List.eraseIdx_sublist _ _).nodup h, by simp, ?_⟩
    intro a ha b hb
    have hb' : b = (r.map (·.1))[k]'(by simpa using hk) := by simp at hb; rw [hb, rg_at hk]; simp
    rintro rfl
    obtain ⟨i, hi, hia⟩ := List.mem_eraseIdx_iff_getElem?.1 ha
    obtain ⟨hil, hie⟩ := List.getElem?_eq_some_iff.1 hia
    exact hi (nodup_inj h hil (by simpa using hk) (hie.trans hb'))
theorem addP_mem {p : Rw} (hp : p ∈ addP r s t) : p ∈ r ∨ (∃ k, rowI r s = some k ∧ p = (s, (rg r k).2 ++ [t])) ∨ (rowI r s = none ∧ p = (s, [t])) := by
  unfold addP at hp
  cases h : rowI r s with
  | none =>
    rw [h] at hp
    rcases List.mem_append.1 hp with q | q
    · exact .inl q
    · exact .inr (.inr ⟨rfl, List.mem_singleton.1 q⟩)
  | some k =>
    rw [h] at hp
    rcases List.mem_or_eq_of_mem_set hp with q | q
    · exact .inl q
    · obtain ⟨_, hs⟩ := rowI_some h
      exact .inr (.inl ⟨k, rfl, by rw [q, hs]⟩)
theorem addP_nodup (h : (r.map (·.1)).Nodup) : ((addP r s t).map (·.1)).Nodup := by
  unfold addP
  cases hr : rowI r s with
  | none =>
    show ((r ++ [(s, [t])]).map (·.1)).Nodup
    rw [List.map_append, List.nodup_append]
    refine ⟨h, by simp, ?_⟩
    intro a ha b hb
    simp at hb
    obtain ⟨p, hp, rfl⟩ := List.mem_map.1 ha
    rw [hb]
    exact rowI_none hr p hp
  | some k =>
    obtain ⟨hk, _⟩ := rowI_some hr
    have : (addAt r k t).map (·.1) = r.map (·.1) := by
      unfold addAt
      apply List.ext_getElem?
      intro i
      simp only [List.getElem?_map, List.getElem?_set]
      by_cases e : k = i
      · subst e
        simp [hk, rg_at hk]
      · simp [e]
    show ((addAt r k t).map (·.1)).Nodup
    rw [this]; exact h
theorem addP_len : (addP r s t).length ≤ r.length + 1 := by
  unfold addP
  cases h : rowI r s with
  | none => simp
  | some k => simp [addAt]
theorem take_ok (h : Ok x) : Ok (takeP x t s).1 := by
  unfold takeP
  split
  · exact h
  · split
    · exact h
    · split
      · exact h
      · split
        · rename_i hh
          have hr := h.none hh
          exact ⟨by simp [hr], by simp [hr], by simp, by simp⟩
        · rename_i hh
          refine ⟨fun p hp => ?_, addP_nodup h.nodup, fun q => absurd q hh, h.pass⟩
          rcases addP_mem hp with q | ⟨k, _, rfl⟩ | ⟨_, rfl⟩
          · exact h.full p q
          · simp
          · simp
theorem take_sm (h : Sm M x) : Sm (M + 1) (takeP x t s).1 := by
  unfold takeP
  split
  · exact h.more (Nat.le_succ _)
  · split
    · exact h.more (Nat.le_succ _)
    · split
      · exact h.more (Nat.le_succ _)
      · split
        · exact ⟨Nat.le_succ_of_le h.1, fun p hp => Nat.le_succ_of_le (h.2 p hp)⟩
        · refine ⟨Nat.le_trans addP_len (Nat.succ_le_succ h.1), fun p hp => ?_⟩
          rcases addP_mem hp with q | ⟨k, hk, rfl⟩ | ⟨_, rfl⟩
          · exact Nat.le_succ_of_le (h.2 p q)
          · have := h.2 _ (rg_mem (rowI_some hk).1)
            simp only [List.length_append, List.length_singleton]
            omega
          · simp
theorem take_pass (h : x.passes ≤ M) : (takeP x t s).1.passes ≤ M := by
  unfold takeP
  split
  · exact h
  · split
    · exact h
    · split
      · exact h
      · split
        · show (0 : Int) ≤ M; omega
        · exact h
/-- who is given the lock, out of which row. -/
def NextCase (x : LS) (i : Nat) : Prop := i < x.round.length ∧ (nextP x).owner = firstT x.round i ∧ (nextP x).held = x.held ∧
    (((rg x.round i).1 = x.socket ∧ (x.passes < 3 ∨ x.round.length = 1) ∧ (nextP x).socket = x.socket ∧ (nextP x).passes = x.passes + 1 ∧ (nextP x).round = firstR x.round i) ∨
     ((rg x.round i).1 ≠ x.socket ∧ offI x.round x.socket = some i ∧ (rowI x.round x.socket = none ∨ ¬ (x.passes < 3 ∨ x.round.length = 1)) ∧ (nextP x).socket = (rg x.round i).1 ∧ (nextP x).passes = 0 ∧ (nextP x).round = moveR (firstR x.round i) x.socket))
theorem next_away {j : Nat} (hj : offI x.round x.socket = some j) (hn : nextP x = awayP x) (hw : rowI x.round x.socket = none ∨ ¬ (x.passes < 3 ∨ x.round.length = 1)) : NextCase x j := by
  obtain ⟨h1, h2⟩ := offI_some hj
  have haw : awayP x = ⟨x.held, firstT x.round j, (rg x.round j).1, 0, moveR (firstR x.round j) x.socket⟩ := by unfold awayP; rw [hj]; rfl
  unfold NextCase
  rw [hn, haw]
  exact ⟨h1, rfl, rfl, .inr ⟨h2, hj, hw, rfl, rfl, rfl⟩⟩
theorem next_cases (h : Ok x) (hr : x.round ≠ []) : ∃ i, NextCase x i := by
  cases hrw : rowI x.round x.socket with
  | none =>
    obtain ⟨j, hj⟩ := off_exists (s := x.socket) h.nodup hr (.inl hrw)
    exact ⟨j, next_away hj (by unfold nextP; rw [hrw]) (.inl hrw)⟩
  | some k =>
    by_cases hc : x.passes < 3 ∨ x.round.length = 1
    · obtain ⟨h1, h2⟩ := rowI_some hrw
      have hn : nextP x = stayP x k := by unfold nextP; rw [hrw]; exact if_pos hc
      refine ⟨k, ?_⟩
      unfold NextCase
      rw [hn]
      exact ⟨h1, rfl, rfl, .inl ⟨h2, hc, rfl, rfl, rfl⟩⟩
    · have hl : 2 ≤ x.round.length := by
        have h1 : x.round.length ≠ 1 := fun e => hc (.inr e)
        have h2 := List.length_pos_iff.2 hr
        omega
      obtain ⟨j, hj⟩ := off_exists (s := x.socket) h.nodup hr (.inr hl)
      exact ⟨j, next_away hj (by unfold nextP; rw [hrw]; exact if_neg hc) (.inr hc)⟩
theorem next_mem (h : Ok x) (hr : x.round ≠ []) {i : Nat} (hi : i < x.round.length) (hc : (nextP x).round = firstR x.round i ∨ (nextP x).round = moveR (firstR x.round i) x.socket) {p : Rw} (hp : p ∈ (nextP x).round) : p ∈ x.round ∨ (p = ((rg x.round i).1, (rg x.round i).2.tail) ∧ (rg x.round i).2.tail ≠ []) := by
  rcases hc with q | q <;> rw [q] at hp
  · exact mem_firstR hi hp
  · exact mem_firstR hi (mem_moveR.1 hp)
theorem give_ok (h : Ok x) : Ok (giveP x t).1 := by
  unfold giveP
  split
  · exact h
  · rename_i hh
    split
    · exact ⟨by simp [ls0], by simp [ls0], by simp [ls0], by simp [ls0]⟩
    · rename_i hr
      obtain ⟨i, hi, _, hh2, hc⟩ := next_cases h hr
      have hm : ∀ p ∈ (nextP x).round, p.2 ≠ [] := fun p hp => by
        rcases next_mem h hr hi (hc.imp (fun q => q.2.2.2.2) (fun q => q.2.2.2.2.2)) hp with q | ⟨rfl, q⟩
        · exact h.full p q
        · exact q
      refine ⟨hm, ?_, fun q => absurd (.inl (hh2.symm.trans q)) hh, ?_⟩
      · rcases hc with ⟨_, _, _, _, q⟩ | ⟨_, _, _, _, _, q⟩ <;> rw [q]
        · exact firstR_sub.nodup h.nodup
        · exact moveR_nodup (firstR_sub.nodup h.nodup)
      · have := h.pass
        rcases hc with ⟨_, _, _, q, _⟩ | ⟨_, _, _, _, q, _⟩ <;> rw [q] <;> omega
theorem give_sm (ho : Ok x) (h : Sm M x) : Sm M (giveP x t).1 := by
  unfold giveP
  split
  · exact h
  · split
    · exact ⟨by simp [ls0], by simp [ls0]⟩
    · rename_i hr
      obtain ⟨i, hi, _, _, hc⟩ := next_cases ho hr
      refine ⟨?_, fun p hp => ?_⟩
      · rcases hc with ⟨_, _, _, _, q⟩ | ⟨_, _, _, _, _, q⟩ <;> rw [q]
        · exact Nat.le_trans firstR_len h.1
        · rw [moveR_len]; exact Nat.le_trans firstR_len h.1
      · rcases next_mem ho hr hi (hc.imp (fun q => q.2.2.2.2) (fun q => q.2.2.2.2.2)) hp with q | ⟨rfl, q⟩
        · exact h.2 p q
        · have := h.2 _ (rg_mem hi)
          simp only [List.length_tail]
          omega
theorem give_pass (ho : Ok x) (h : x.passes ≤ M) : (giveP x t).1.passes ≤ ((M + 1 : Nat) : Int) := by
  unfold giveP
  split
  · show x.passes ≤ _; omega
  · split
    · simp [ls0]; omega
    · rename_i hr
      obtain ⟨i, hi, _, _, hc⟩ := next_cases ho hr
      rcases hc with ⟨_, _, _, q, _⟩ | ⟨_, _, _, _, q, _⟩ <;> rw [q] <;> omega
end
end Go.Proofs.Ytgiimdoabkcoaaa.Co
