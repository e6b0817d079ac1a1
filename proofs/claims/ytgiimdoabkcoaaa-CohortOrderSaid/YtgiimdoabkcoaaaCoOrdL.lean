/-
Rounds of sockets, plain: how many are served ahead of one, and how long it takes at most.
-/
import Derived.Test.YtgiimdoabkcoaaaCoInv
namespace Go.Proofs.Ytgiimdoabkcoaaa.Co
set_option linter.unusedVariables false
set_option linter.unusedSimpArgs false
section
variable {L M : List Int} {c s a : Int}
theorem nodup_small : ∀ (n : Nat) (l : List Int), l.Nodup → (∀ x ∈ l, 0 ≤ x ∧ x < (n : Int)) → l.length ≤ n
  | 0, l, _, h => by
    match l with
    | [] => simp
    | a :: _ => have := h a (by simp); omega
  | n + 1, l, hn, h => by
    have h1 := nodup_small n (l.erase (n : Int)) (List.Nodup.erase _ hn) (fun x hx => by
      have h2 := h x (List.mem_of_mem_erase hx)
      have h3 : x ≠ (n : Int) := (List.Nodup.mem_erase_iff hn).1 hx |>.1
      omega)
    have h2 : l.length ≤ (l.erase (n : Int)).length + 1 := by rw [List.length_erase]; split <;> omega
    omega
def ne (s : Int) : Int → Bool := fun a => decide (a ≠ s)
theorem ne_iff : ne s a = true ↔ a ≠ s := by simp [ne]
theorem tw_filter (p : Int → Bool) (hs : p s = true) : ∀ (L : List Int), (L.filter p).takeWhile (ne s) = (L.takeWhile (ne s)).filter p
  | [] => rfl
  | a :: L => by
    by_cases ha : a = s
    · subst ha
      rw [List.filter_cons_of_pos hs, List.takeWhile_cons_of_neg (by simp [ne]), List.takeWhile_cons_of_neg (by simp [ne])]
      rfl
    · have h1 : ne s a = true := ne_iff.2 ha
      rw [List.takeWhile_cons_of_pos h1]
      cases hp : p a with
      | true => rw [List.filter_cons_of_pos hp, List.filter_cons_of_pos hp, List.takeWhile_cons_of_pos h1, tw_filter p hs L]
      | false => rw [List.filter_cons_of_neg (by simp [hp]), List.filter_cons_of_neg (by simp [hp]), tw_filter p hs L]
theorem tw_append : ∀ (L M : List Int), s ∈ L → (L ++ M).takeWhile (ne s) = L.takeWhile (ne s)
  | [], _, h => by simp at h
  | a :: L, M, h => by
    by_cases ha : a = s
    · rw [List.cons_append, List.takeWhile_cons_of_neg (by simp [ne, ha]), List.takeWhile_cons_of_neg (by simp [ne, ha])]
    · have h1 : ne s a = true := ne_iff.2 ha
      rw [List.cons_append, List.takeWhile_cons_of_pos h1, List.takeWhile_cons_of_pos h1, tw_append L M ((List.mem_cons.1 h).resolve_left (fun e => ha e.symm))]
theorem tw_not_mem : ∀ (L : List Int), s ∉ L.takeWhile (ne s)
  | [] => by simp
  | a :: L => by
    by_cases ha : a = s
    · rw [List.takeWhile_cons_of_neg (by simp [ne, ha])]; simp
    · rw [List.takeWhile_cons_of_pos (ne_iff.2 ha)]
      intro h
      rcases List.mem_cons.1 h with e | h
      · exact ha e.symm
      · exact tw_not_mem L h
theorem find_tw (hc : s ≠ c) (ha : s ≠ a) (L : List Int) (h : L.find? (ne c) = some a) : a ∈ L.takeWhile (ne s) := by
  induction L with
  | nil => simp at h
  | cons b L ih =>
    by_cases hb : b = c
    · subst hb
      rw [List.find?_cons_of_neg (by simp [ne])] at h
      rw [List.takeWhile_cons_of_pos (ne_iff.2 (fun e => hc e.symm))]
      exact List.mem_cons_of_mem _ (ih h)
    · rw [List.find?_cons_of_pos (ne_iff.2 hb)] at h
      injection h with h
      subst h
      rw [List.takeWhile_cons_of_pos (ne_iff.2 (fun e => ha e.symm))]
      exact List.mem_cons_self
/-- how many sockets stand ahead of one, but for the lock's own. -/
def before (L : List Int) (c s : Int) : Nat := ((L.takeWhile (ne s)).filter (ne c)).length
theorem before_le (hn : L.Nodup) (hb : ∀ x ∈ L, 0 ≤ x ∧ x ≤ 5) (hs : 0 ≤ s ∧ s ≤ 5) (hc : 0 ≤ c ∧ c ≤ 5) (hsc : s ≠ c) : before L c s ≤ 4 := by
  unfold before
  have h0 : ((L.takeWhile (ne s)).filter (ne c)).Nodup := List.Sublist.nodup List.filter_sublist (List.Sublist.nodup (List.takeWhile_sublist _) hn)
  have h1 : (s :: c :: (L.takeWhile (ne s)).filter (ne c)).Nodup := by
    refine List.nodup_cons.2 ⟨?_, List.nodup_cons.2 ⟨?_, h0⟩⟩
    · intro h
      rcases List.mem_cons.1 h with e | h
      · exact hsc e
      · exact tw_not_mem L (List.mem_filter.1 h).1
    · intro h
      exact ne_iff.1 (List.mem_filter.1 h).2 rfl
  have h2 := nodup_small 6 _ h1 (fun x hx => by
    rcases List.mem_cons.1 hx with rfl | hx
    · omega
    · rcases List.mem_cons.1 hx with rfl | hx
      · omega
      · have := hb x ((List.takeWhile_sublist _).subset (List.mem_filter.1 hx).1)
        omega)
  simp only [List.length_cons] at h2
  omega
theorem len_ne {l : List Int} (hn : l.Nodup) (ha : a ∈ l) : (l.filter (ne a)).length + 1 = l.length := by
  have : l.filter (ne a) = l.erase a := by
    rw [List.Nodup.erase_eq_filter hn a]
    congr 1
    funext x
    by_cases e : x = a <;> simp [ne, e]
  rw [this, List.length_erase_of_mem ha]
  have := List.length_pos_of_mem ha
  omega
/-- the sockets behind a hand-off to another socket. -/
def moveL (M : List Int) (c : Int) : List Int := if c ∈ M then M.filter (ne c) ++ [c] else M
theorem before_move (hn : L.Nodup) (hf : L.find? (ne c) = some a) (hs : s ∈ L) (hsc : s ≠ c) (hsa : s ≠ a) (hM : M = L ∨ M = L.filter (ne a)) : before (moveL M c) a s + 1 = before L c s := by
  have hsM : s ∈ M := by
    rcases hM with rfl | rfl
    · exact hs
    · exact List.mem_filter.2 ⟨hs, ne_iff.2 hsa⟩
  have hmv : (moveL M c).takeWhile (ne s) = (M.takeWhile (ne s)).filter (ne c) := by
    unfold moveL
    split
    · rw [tw_append _ _ (List.mem_filter.2 ⟨hsM, ne_iff.2 hsc⟩), tw_filter _ (ne_iff.2 hsc)]
    · rename_i hc
      have : M.filter (ne c) = M := List.filter_eq_self.2 (fun x hx => ne_iff.2 (fun e => hc (e ▸ hx)))
      rw [← tw_filter _ (ne_iff.2 hsc), this]
  have hac : a ≠ c := ne_iff.1 (List.find?_some hf)
  have ham : a ∈ (L.takeWhile (ne s)).filter (ne c) := List.mem_filter.2 ⟨find_tw hsc hsa L hf, ne_iff.2 hac⟩
  have hnd : ((L.takeWhile (ne s)).filter (ne c)).Nodup := List.Sublist.nodup List.filter_sublist (List.Sublist.nodup (List.takeWhile_sublist _) hn)
  have hlen := len_ne hnd ham
  unfold before
  rw [hmv]
  rcases hM with rfl | rfl
  · exact hlen
  · rw [tw_filter _ (ne_iff.2 hsa), ← hlen]
    congr 2
    rw [List.filter_filter, List.filter_filter, List.filter_filter]
    congr 1
    funext x
    cases ne a x <;> cases ne c x <;> rfl
theorem before_stay (hs : s ≠ c) (hM : M = L ∨ M = L.filter (ne c)) : before M c s = before L c s := by
  rcases hM with rfl | rfl
  · rfl
  · unfold before
    rw [tw_filter _ (ne_iff.2 hs), List.filter_filter]
    congr 2
    funext x
    cases ne c x <;> rfl
/-- how many hand-offs at most, till one is given to a socket. -/
def turns (L : List Int) (c p s : Int) : Nat := if s = c then (if p < 3 then 1 else 21) else (3 - min p 3).toNat + 4 * before L c s + 1
theorem turns_pos (L : List Int) (c p s : Int) : 1 ≤ turns L c p s := by unfold turns; split <;> first | (split <;> omega) | omega
theorem turns_le {p : Int} (hn : L.Nodup) (hb : ∀ x ∈ L, 0 ≤ x ∧ x ≤ 5) (hs : 0 ≤ s ∧ s ≤ 5) (hc : 0 ≤ c ∧ c ≤ 5) (hp : 0 ≤ p) : turns L c p s ≤ 21 := by
  unfold turns
  split
  · split <;> omega
  · rename_i h
    have := before_le hn hb hs hc h
    omega
theorem turns_append {p : Int} {t : Int} (hs : s ∈ L) : turns (L ++ [t]) c p s = turns L c p s := by
  unfold turns before
  rw [tw_append _ _ hs]
end
end Go.Proofs.Ytgiimdoabkcoaaa.Co
