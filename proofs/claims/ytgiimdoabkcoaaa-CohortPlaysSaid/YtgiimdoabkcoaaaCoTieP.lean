import Derived.Test.YtgiimdoabkcoaaaCoInv
/-
Rounds of sockets, plain: how many are served ahead of one, and how long it takes at most.
-/
namespace Go.Proofs.Ytgiimdoabkcoaaa.Co
set_option linter.unusedVariables false
set_option linter.unusedSimpArgs false
section
variable {L M : List Int} {c s a : Int}
theorem nodup_small : ∀ (n : Nat) (l : List Int), l.Nodup → (∀ x ∈ l, 0 ≤ x ∧ x < (n : Int)) → l.length ≤ n
  | 0, l, _, h => by
    match l with
    | [] => simp
    | a :: _ => have := h a (by simp); omega
  | n + 1, l, hn, h => by
    have h1 := nodup_small n (l.erase (n : Int)) (List.Nodup.erase _ hn) (fun x hx => by
      have h2 := h x (List.mem_of_mem_erase hx)
      have h3 : x ≠ (n : Int) := (List.Nodup.mem_erase_iff hn).1 hx |>.1
      omega)
    have h2 : l.length ≤ (l.erase (n : Int)).length + 1 := by rw [List.length_erase]; split <;> omega
    omega
def ne (s : Int) : Int → Bool := fun a => decide (a ≠ s)
theorem ne_iff : ne s a = true ↔ a ≠ s := by simp [ne]
theorem tw_filter (p : Int → Bool) (hs : p s = true) : ∀ (L : List Int), (L.filter p).takeWhile (ne s) = (L.takeWhile (ne s)).filter p
  | [] => rfl
  | a :: L => by
    by_cases ha : a = s
    · subst ha
      rw [List.filter_cons_of_pos hs, List.takeWhile_cons_of_neg (by simp [ne]), List.takeWhile_cons_of_neg (by simp [ne])]
      rfl
    · have h1 : ne s a = true := ne_iff.2 ha
      rw [List.takeWhile_cons_of_pos h1]
      cases hp : p a with
      | true => rw [List.filter_cons_of_pos hp, List.filter_cons_of_pos hp, List.takeWhile_cons_of_pos h1, tw_filter p hs L]
      | false => rw [List.filter_cons_of_neg (by simp [hp]), List.filter_cons_of_neg (by simp [hp]), tw_filter p hs L]
theorem tw_append : ∀ (L M : List Int), s ∈ L → (L ++ M).takeWhile (ne s) = L.takeWhile (ne s)
  | [], _, h => by simp at h
  | a :: L, M, h => by
    by_cases ha : a = s
    · rw [List.cons_append, List.takeWhile_cons_of_neg (by simp [ne, ha]), List.takeWhile_cons_of_neg (by simp [ne, ha])]
    · have h1 : ne s a = true := ne_iff.2 ha
      rw [List.cons_append, List.takeWhile_cons_of_pos h1, List.takeWhile_cons_of_pos h1, tw_append L M ((List.mem_cons.1 h).resolve_left (fun e => ha e.symm))]
theorem tw_not_mem : ∀ (L : List Int), s ∉ L.takeWhile (ne s)
  | [] => by simp
  | a :: L => by
    by_cases ha : a = s
    · rw [List.takeWhile_cons_of_neg (by simp [ne, ha])]; simp
    · rw [List.takeWhile_cons_of_pos (ne_iff.2 ha)]
      intro h
      rcases List.mem_cons.1 h with e | h
      · exact ha e.symm
      · exact tw_not_mem L h
theorem find_tw (hc : s ≠ c) (ha : s ≠ a) (L : List Int) (h : L.find? (ne c) = some a) : a ∈ L.takeWhile (ne s) := by
  induction L with
  | nil => simp at h
  | cons b L ih =>
    by_cases hb : b = c
    · subst hb
      rw [List.find?_cons_of_neg (by simp [ne])] at h
      rw [List.takeWhile_cons_of_pos (ne_iff.2 (fun e => hc e.symm))]
      exact List.mem_cons_of_mem _ (ih h)
    · rw [List.find?_cons_of_pos (ne_iff.2 hb)] at h
      injection h with h
      subst h
      rw [List.takeWhile_cons_of_pos (ne_iff.2 (fun e => ha e.symm))]
      exact List.mem_cons_self
/-- how many sockets stand ahead of one, but for the lock's own. -/
def before (L : List Int) (c s : Int) : Nat := ((L.takeWhile (ne s)).filter (ne c)).length
theorem before_le (hn : L.Nodup) (hb : ∀ x ∈ L, 0 ≤ x ∧ x ≤ 5) (hs : 0 ≤ s ∧ s ≤ 5) (hc : 0 ≤ c ∧ c ≤ 5) (hsc : s ≠ c) : before L c s ≤ 4 := by
  unfold before
  have h0 : ((L.takeWhile (ne s)).filter (ne c)).Nodup := List.Sublist.nodup List.filter_sublist (List.Sublist.nodup (List.takeWhile_sublist _) hn)
  have h1 : (s :: c :: (L.takeWhile (ne s)).filter (ne c)).Nodup := by
    refine List.nodup_cons.2 ⟨?_, List.nodup_cons.2 ⟨?_, h0⟩⟩
    · intro h
      rcases List.mem_cons.1 h with e | h
      · exact hsc e
      · exact tw_not_mem L (List.mem_filter.1 h).1
    · intro h
      exact ne_iff.1 (List.mem_filter.1 h).2 rfl
  have h2 := nodup_small 6 _ h1 (fun x hx => by
    rcases List.mem_cons.1 hx with rfl | hx
    · omega
    · rcases List.mem_cons.1 hx with rfl | hx
      · omega
      · have := hb x ((List.takeWhile_sublist _).subset (List.mem_filter.1 hx).1)
        omega)
  simp only [List.length_cons] at h2
  omega
theorem len_ne {l : List Int} (hn : l.Nodup) (ha : a ∈ l) : (l.filter (ne a)).length + 1 = l.length := by
  have : l.filter (ne a) = l.erase a := by
    rw [List.Nodup.erase_eq_filter hn a]
    congr 1
    funext x
    by_cases e : x = a <;> simp [ne, e]
  rw [this, List.length_erase_of_mem ha]
  have := List.length_pos_of_mem ha
  omega
/-- the sockets behind a hand-off to another socket. -/
def moveL (M : List Int) (c : Int) : List Int := if c ∈ M then M.filter (ne c) ++ [c] else M
theorem before_move (hn : L.Nodup) (hf : L.find? (ne c) = some a) (hs : s ∈ L) (hsc : s ≠ c) (hsa : s ≠ a) (hM : M = L ∨ M = L.filter (ne a)) : before (moveL M c) a s + 1 = before L c s := by
  have hsM : s ∈ M := by
    rcases hM with rfl | rfl
    · exact hs
    · exact List.mem_filter.2 ⟨hs, ne_iff.2 hsa⟩
  have hmv : (moveL M c).takeWhile (ne s) = (M.takeWhile (ne s)).filter (ne c) := by
    unfold moveL
    split
    · rw [tw_append _ _ (List.mem_filter.2 ⟨hsM, ne_iff.2 hsc⟩), tw_filter _ (ne_iff.2 hsc)]
    · rename_i hc
      have : M.filter (ne c) = M := List.filter_eq_self.2 (fun x hx => ne_iff.2 (fun e => hc (e ▸ hx)))
      rw [← tw_filter _ (ne_iff.2 hsc), this]
  have hac : a ≠ c := ne_iff.1 (List.find?_some hf)
  have ham : a ∈ (L.takeWhile (ne s)).filter (ne c) := List.mem_filter.2 ⟨find_tw hsc hsa L hf, ne_iff.2 hac⟩
  have hnd : ((L.takeWhile (ne s)).filter (ne c)).Nodup := List.Sublist.nodup List.filter_sublist (List.Sublist.nodup (List.takeWhile_sublist _) hn)
  have hlen := len_ne hnd ham
  unfold before
  rw [hmv]
  rcases hM with rfl | rfl
  · exact hlen
  · rw [tw_filter _ (ne_iff.2 hsa), ← hlen]
    congr 2
    rw [List.filter_filter, List.filter_filter, List.filter_filter]
    congr 1
    funext x
    cases ne a x <;> cases ne c x <;> rfl
theorem before_stay (hs : s ≠ c) (hM : M = L ∨ M = L.filter (ne c)) : before M c s = before L c s := by
  rcases hM with rfl | rfl
  · rfl
  · unfold before
    rw [tw_filter _ (ne_iff.2 hs), List.filter_filter]
    congr 2
    funext x
    cases ne c x <;> rfl
/-- how many hand-offs at most, till one is given to a socket. -/
def turns (L : List Int) (c p s : Int) : Nat := if s = c then (if p < 3 then 1 else 21) else (3 - min p 3).toNat + 4 * before L c s + 1
theorem turns_pos (L : List Int) (c p s : Int) : 1 ≤ turns L c p s := by unfold turns; split <;> first | (split <;> omega) | omega
theorem turns_le {p : Int} (hn : L.Nodup) (hb : ∀ x ∈ L, 0 ≤ x ∧ x ≤ 5) (hs : 0 ≤ s ∧ s ≤ 5) (hc : 0 ≤ c ∧ c ≤ 5) (hp : 0 ≤ p) : turns L c p s ≤ 21 := by
  unfold turns
  split
  · split <;> omega
  · rename_i h
    have := before_le hn hb hs hc h
    omega
theorem turns_append {p : Int} {t : Int} (hs : s ∈ L) : turns (L ++ [t]) c p s = turns L c p s := by
  unfold turns before
  rw [tw_append _ _ hs]
end
end Go.Proofs.Ytgiimdoabkcoaaa.Co

/-
Of one socket's tasks those that waited earlier are told earlier; who waits is told within the bound: plain.
-/
namespace Go.Proofs.Ytgiimdoabkcoaaa.Co
set_option linter.unusedVariables false
set_option linter.unusedSimpArgs false
abbrev Wt := Int × Int
def wg (ws : List Wt) (i : Nat) : Wt := ws.getD i (0, 0)
def lg (lf : List Int) (i : Nat) : Int := lf.getD i 0
def sk (x : LS) : List Int := x.round.map (·.1)
def ofS (ws : List Wt) (s : Int) : List Wt := ws.filter (fun w => decide (w.2 = s))
def ahd (ws : List Wt) (s : Int) (i : Nat) : Nat := (ofS (ws.take i) s).length
structure OI (n : Nat) (x : LS) (ws : List Wt) (lf : List Int) : Prop where
  ok : Ok x
  sm : Sm n x
  ps : x.passes ≤ (n : Int)
  so : x.held = true → 0 ≤ x.socket ∧ x.socket ≤ 5
  sr : ∀ a ∈ sk x, 0 ≤ a ∧ a ≤ 5
  rows : ∀ p ∈ x.round, p.2 = (ofS ws p.1).map (·.1)
  all : ∀ w ∈ ws, w.2 ∈ sk x
  nd : (ws.map (·.1)).Nodup
  len : lf.length = ws.length
  wl : ws.length ≤ n
  pot : ∀ i, i < ws.length → ((24 * ahd ws (wg ws i).2 i + turns (sk x) x.socket x.passes (wg ws i).2 : Nat) : Int) ≤ lg lf i
  big : ∀ v ∈ lf, v ≤ 2000
section
variable {r : List Rw} {i n : Nat} {x : LS} {ws : List Wt} {lf : List Int} {t s c : Int} {p : Rw}
theorem wg_at (h : i < ws.length) : wg ws i = ws[i] := by simp [wg, h]
theorem lg_at (h : i < lf.length) : lg lf i = lf[i] := by simp [lg, h]
theorem fst_ne (hn : (r.map (·.1)).Nodup) (hi : i < r.length) {j : Nat} (hj : j < r.length) (hji : j ≠ i) : (r[j]).1 ≠ (rg r i).1 := by
  intro e
  refine hji (nodup_inj hn (i := j) (j := i) (by simpa using hj) (by simpa using hi) ?_)
  rw [rg_at hi] at e
  simpa using e
theorem firstR_mem2 (hn : (r.map (·.1)).Nodup) (hi : i < r.length) (hp : p ∈ firstR r i) : (p ∈ r ∧ p.1 ≠ (rg r i).1) ∨ (p = ((rg r i).1, (rg r i).2.tail) ∧ (rg r i).2.tail ≠ []) := by
  unfold firstR at hp
  split at hp
  · obtain ⟨j, hji, hj⟩ := List.mem_eraseIdx_iff_getElem?.1 hp
    obtain ⟨hjl, rfl⟩ := List.getElem?_eq_some_iff.1 hj
    exact .inl ⟨List.getElem_mem _, fst_ne hn hi hjl hji⟩
  · rename_i hne
    obtain ⟨j, hj, rfl⟩ := List.getElem_of_mem hp
    rw [List.length_set] at hj
    rw [List.getElem_set]
    split
    · exact .inr ⟨rfl, hne⟩
    · rename_i hij
      exact .inl ⟨List.getElem_mem _, fst_ne hn hi hj (fun e => hij e.symm)⟩
theorem firstR_mem3 (hi : i < r.length) (hp : p ∈ r) (hs : p.1 ≠ (rg r i).1) : p ∈ firstR r i := by
  obtain ⟨j, hj, rfl⟩ := List.getElem_of_mem hp
  have hji : j ≠ i := fun e => by subst e; rw [rg_at hj] at hs; exact hs rfl
  unfold firstR
  split
  · exact List.mem_eraseIdx_iff_getElem?.2 ⟨j, hji, List.getElem?_eq_getElem hj⟩
  · refine List.mem_iff_getElem?.2 ⟨j, ?_⟩
    rw [List.getElem?_set_ne (fun e => hji e.symm)]
    exact List.getElem?_eq_getElem hj
theorem firstR_mem4 (hi : i < r.length) (ht : (rg r i).2.tail ≠ []) : ((rg r i).1, (rg r i).2.tail) ∈ firstR r i := by
  unfold firstR
  rw [if_neg ht]
  exact List.mem_iff_getElem?.2 ⟨i, List.getElem?_set_self hi⟩
theorem eraseIdx_ne : ∀ {l : List Int} {i : Nat}, l.Nodup → (hi : i < l.length) → l.eraseIdx i = l.filter (ne l[i])
  | [], _, _, hi => by simp at hi
  | a :: l, 0, hn, _ => by
    have ha := (List.nodup_cons.1 hn).1
    show l = _
    rw [List.getElem_cons_zero, List.filter_cons_of_neg (by simp [ne])]
    have hf : ∀ x ∈ l, ne a x = true := fun x hx => ne_iff.2 (fun e => ha (by rw [← e]; exact hx))
    exact (List.filter_eq_self.2 hf).symm
  | a :: l, i + 1, hn, hi => by
    have ha := (List.nodup_cons.1 hn).1
    have hil : i < l.length := by simpa using hi
    show a :: l.eraseIdx i = _
    rw [List.getElem_cons_succ, List.filter_cons_of_pos (ne_iff.2 (fun e => ha (by rw [e]; exact List.getElem_mem _))), eraseIdx_ne (List.nodup_cons.1 hn).2 hil]
theorem sk_firstR (hn : (r.map (·.1)).Nodup) (hi : i < r.length) : (firstR r i).map (·.1) = r.map (·.1) ∨ (firstR r i).map (·.1) = (r.map (·.1)).filter (ne (rg r i).1) := by
  unfold firstR
  split
  · right
    rw [map_eraseIdx, eraseIdx_ne hn (by simpa using hi), rg_at hi]
    simp
  · left
    apply List.ext_getElem?
    intro j
    simp only [List.getElem?_map, List.getElem?_set]
    by_cases e : i = j
    · subst e
      simp [hi, rg_at hi]
    · simp [e]
theorem sk_moveR (hn : (r.map (·.1)).Nodup) : (moveR r c).map (·.1) = moveL (r.map (·.1)) c := by
  unfold moveR moveL
  cases h : rowI r c with
  | none =>
    rw [if_neg]
    intro hc
    obtain ⟨p, hp, e⟩ := List.mem_map.1 hc
    exact rowI_none h p hp e
  | some k =>
    obtain ⟨hk, hks⟩ := rowI_some h
    have hc : c ∈ r.map (·.1) := List.mem_map.2 ⟨_, rg_mem hk, hks⟩
    rw [if_pos hc]
    show (r.eraseIdx k ++ [rg r k]).map (·.1) = _
    rw [List.map_append, map_eraseIdx, eraseIdx_ne hn (by simpa using hk)]
    have : (r.map (·.1))[k]'(by simpa using hk) = c := by rw [List.getElem_map, ← rg_at hk]; exact hks
    rw [this]
    simp [hks]
theorem offI_find (h : offI r c = some i) : (r.map (·.1)).find? (ne c) = some (rg r i).1 := by
  obtain ⟨h1, h2, h3⟩ := List.findIdx?_eq_some_iff_getElem.1 h
  rw [List.find?_eq_some_iff_getElem]
  refine ⟨ne_iff.2 (offI_some h).2, i, by simpa using h1, ?_, fun j hj => ?_⟩
  · rw [List.getElem_map, rg_at h1]
  · have := h3 j hj
    simp only [List.getElem_map, ne]
    simpa using this
/-- behind a hand-off another socket is a turn nearer. -/
theorem turns_next (ho : Ok x) (hs5 : ∀ a ∈ sk x, 0 ≤ a ∧ a ≤ 5) (hc5 : 0 ≤ x.socket ∧ x.socket ≤ 5) (hn : NextCase x i) (hs : s ∈ sk x) (hne : s ≠ (rg x.round i).1) :
    turns (sk (nextP x)) (nextP x).socket (nextP x).passes s + 1 ≤ turns (sk x) x.socket x.passes s := by
  obtain ⟨hi, _, _, hc⟩ := hn
  have hnd : (sk x).Nodup := ho.nodup
  have hM := sk_firstR ho.nodup hi
  rcases hc with ⟨q1, q2, q3, q4, q5⟩ | ⟨q1, q2, q3, q4, q5, q6⟩
  · have hsk : sk (nextP x) = (firstR x.round i).map (·.1) := by unfold sk; rw [q5]
    rw [q1] at hM hne
    have hlen : 2 ≤ x.round.length := by
      have h1 : ([s, x.socket] : List Int).Nodup := by simp [hne]
      have hcm : x.socket ∈ sk x := by rw [← q1]; exact List.mem_map.2 ⟨_, rg_mem hi, rfl⟩
      match hr : x.round with
      | [] => rw [hr] at hi; simp at hi
      | [a] =>
        exfalso
        unfold sk at hs hcm
        rw [hr] at hs hcm
        simp at hs hcm
        exact hne (hs.trans hcm.symm)
      | a :: b :: l => simp
    have hp : x.passes < 3 := q2.resolve_right (by omega)
    have hb := before_stay (L := sk x) (M := sk (nextP x)) hne (by rw [hsk]; exact hM)
    have hp0 := ho.pass
    rw [q3, q4]
    unfold turns
    rw [if_neg hne, if_neg hne, hb]
    omega
  · have hsk : sk (nextP x) = moveL ((firstR x.round i).map (·.1)) x.socket := by unfold sk; rw [q6]; exact sk_moveR (firstR_sub.nodup ho.nodup)
    have hf := offI_find q2
    have ha5 : 0 ≤ (rg x.round i).1 ∧ (rg x.round i).1 ≤ 5 := hs5 _ (List.mem_map.2 ⟨_, rg_mem hi, rfl⟩)
    rw [q4, q5]
    by_cases hsc : s = x.socket
    · have hp : ¬ x.passes < 3 := by
        rcases q3 with q3 | q3
        · exfalso
          obtain ⟨p, hp, e⟩ := List.mem_map.1 hs
          exact rowI_none q3 p hp (e.trans hsc)
        · exact fun e => q3 (.inl e)
      have hnd2 : (sk (nextP x)).Nodup := by
        unfold sk; rw [q6]; exact moveR_nodup (firstR_sub.nodup ho.nodup)
      have hb5 : ∀ a ∈ sk (nextP x), 0 ≤ a ∧ a ≤ 5 := fun a ha => by
        unfold sk at ha
        rw [q6] at ha
        obtain ⟨p, hp, rfl⟩ := List.mem_map.1 ha
        exact hs5 _ (firstR_sub.subset (List.mem_map.2 ⟨p, mem_moveR.1 hp, rfl⟩))
      have hble := before_le hnd2 hb5 (hs5 s hs) ha5 hne
      unfold turns
      rw [if_neg hne, if_pos hsc, if_neg hp]
      omega
    · have hb := before_move (M := (firstR x.round i).map (·.1)) hnd hf hs hsc hne hM
      rw [← hsk] at hb
      unfold turns
      rw [if_neg hne, if_neg hsc]
      have hp0 := ho.pass
      omega
theorem ofS_append : ofS (ws ++ [(t, s)]) c = if s = c then ofS ws c ++ [(t, s)] else ofS ws c := by
  unfold ofS
  rw [List.filter_append]
  by_cases h : s = c
  · simp [h]
  · simp [h]
theorem oi0 : OI 0 ls0 [] [] := ⟨⟨by simp [ls0], by simp [ls0], by simp [ls0], by simp [ls0]⟩, ⟨by simp [ls0], by simp [ls0]⟩, by simp [ls0], by simp [ls0], by simp [ls0, sk], by simp [ls0], by simp, by simp, rfl, Nat.le_refl _, by simp, by simp⟩
theorem OI.more (h : OI n x ws lf) : OI (n + 1) x ws lf := ⟨h.ok, h.sm.more (Nat.le_succ _), by have := h.ps; omega, h.so, h.sr, h.rows, h.all, h.nd, h.len, Nat.le_succ_of_le h.wl, h.pot, h.big⟩
theorem OI.none (h : OI n x ws lf) (hh : x.held = false) : ws = [] := by
  have hr := h.ok.none hh
  match ws, h.all with
  | [], _ => rfl
  | w :: _, ha =>
    have := ha w (by simp)
    unfold sk at this
    rw [hr] at this
    simp at this
/-- Take: who is refused, or given the lock, changes nothing of who waits. -/
theorem OI.take (h : OI n x ws lf) (hs : 0 ≤ s ∧ s ≤ 5) (hn : n ≤ 80) :
    OI (n + 1) (takeP x t s).1 (if (takeP x t s).2.2 = 0 ∧ (takeP x t s).2.1 = false then ws ++ [(t, s)] else ws) (if (takeP x t s).2.2 = 0 ∧ (takeP x t s).2.1 = false then lf ++ [((24 * ((ofS ws s).length + 1) : Nat) : Int)] else lf) := by
  have hok := take_ok (t := t) (s := s) h.ok
  have hsm := take_sm (t := t) (s := s) h.sm
  have hps := take_pass (t := t) (s := s) h.ps
  unfold takeP at *
  split
  · rename_i h1
    rw [if_neg (by simp), if_neg (by simp)]; exact h.more
  · rename_i h1
    rw [if_neg h1] at hok hsm hps
    split
    · rw [if_neg (by simp), if_neg (by simp)]; exact h.more
    · rename_i h2
      rw [if_neg h2] at hok hsm hps
      split
      · rw [if_neg (by simp), if_neg (by simp)]; exact h.more
      · rename_i h3
        rw [if_neg h3] at hok hsm hps
        split
        · rename_i h4
          rw [if_pos h4] at hok hsm hps
          rw [if_neg (by simp), if_neg (by simp)]
          have hw := h.none h4
          have hr := h.ok.none h4
          subst hw
          refine ⟨hok, hsm, by omega, fun _ => hs, ?_, ?_, by simp, by simp, h.len, Nat.zero_le _, by simp, h.big⟩
          · unfold sk; simp [hr]
          · simp [hr]
        · rename_i h4
          rw [if_neg h4] at hok hsm hps
          rw [if_pos ⟨rfl, rfl⟩, if_pos ⟨rfl, rfl⟩]
          have hh : x.held = true := by cases q : x.held with
            | true => rfl
            | false => exact absurd q h4
          have hc5 := h.so hh
          have hnew : t ∉ ws.map (·.1) := by
            intro ht
            obtain ⟨w, hw, rfl⟩ := List.mem_map.1 ht
            obtain ⟨p, hp, e⟩ := List.mem_map.1 (h.all w hw)
            refine h3 ?_
            unfold waitsB
            refine List.any_eq_true.2 ⟨p, hp, List.contains_iff_mem.2 ?_⟩
            rw [h.rows p hp]
            exact List.mem_map.2 ⟨w, List.mem_filter.2 ⟨hw, by simp [e]⟩, rfl⟩
          -- the sockets behind it
          have hsk : (addP x.round s t).map (·.1) = sk x ∨ (s ∉ sk x ∧ (addP x.round s t).map (·.1) = sk x ++ [s]) := by
            unfold addP
            cases hr : rowI x.round s with
            | none =>
              right
              refine ⟨fun hm => ?_, by simp [sk]⟩
              obtain ⟨p, hp, e⟩ := List.mem_map.1 hm
              exact rowI_none hr p hp e
            | some k =>
              left
              obtain ⟨hk, _⟩ := rowI_some hr
              unfold sk addAt
              apply List.ext_getElem?
              intro j
              simp only [List.getElem?_map, List.getElem?_set]
              by_cases e : k = j
              · subst e
                simp [hk, rg_at hk]
              · simp [e]
          have hsm2 : s ∈ (addP x.round s t).map (·.1) := by
            rcases hsk with q | ⟨_, q⟩
            · unfold addP
              cases hr : rowI x.round s with
              | none => simp
              | some k =>
                obtain ⟨hk, hks⟩ := rowI_some hr
                exact List.mem_map.2 ⟨((rg x.round k).1, (rg x.round k).2 ++ [t]), List.mem_iff_getElem?.2 ⟨k, List.getElem?_set_self hk⟩, hks⟩
            · rw [q]; simp
          have hold : ∀ a ∈ sk x, a ∈ (addP x.round s t).map (·.1) := fun a ha => by
            rcases hsk with q | ⟨_, q⟩ <;> rw [q]
            · exact ha
            · exact List.mem_append_left _ ha
          have hsr : ∀ a ∈ (addP x.round s t).map (·.1), 0 ≤ a ∧ a ≤ 5 := fun a ha => by
            rcases hsk with q | ⟨_, q⟩ <;> rw [q] at ha
            · exact h.sr a ha
            · rcases List.mem_append.1 ha with ha | ha
              · exact h.sr a ha
              · rw [List.mem_singleton.1 ha]; exact hs
          have hturn : ∀ a ∈ sk x, turns ((addP x.round s t).map (·.1)) x.socket x.passes a = turns (sk x) x.socket x.passes a := fun a ha => by
            rcases hsk with q | ⟨_, q⟩ <;> rw [q]
            exact turns_append ha
          refine ⟨hok, hsm, by omega, fun _ => hc5, hsr, ?_, ?_, ?_, ?_, ?_, ?_, ?_⟩
          · -- rows
            intro p hp
            show p.2 = (ofS (ws ++ [(t, s)]) p.1).map (·.1)
            rw [ofS_append]
            unfold addP at hp
            cases hr : rowI x.round s with
            | none =>
              rw [hr] at hp
              have hno : ofS ws s = [] := by
                refine List.filter_eq_nil_iff.2 (fun w hw e => ?_)
                obtain ⟨p', hp', e'⟩ := List.mem_map.1 (h.all w hw)
                exact rowI_none hr p' hp' (e'.trans (by simpa using e))
              rcases List.mem_append.1 hp with q | q
              · rw [if_neg (fun e => rowI_none hr p q e.symm)]
                exact h.rows p q
              · rw [List.mem_singleton.1 q, if_pos rfl, hno]; rfl
            | some k =>
              rw [hr] at hp
              obtain ⟨hk, hks⟩ := rowI_some hr
              have hp2 : p ∈ x.round.set k ((rg x.round k).1, (rg x.round k).2 ++ [t]) := hp
              clear hp
              obtain ⟨j, hj, rfl⟩ := List.getElem_of_mem hp2
              have hj' : j < x.round.length := by simpa using hj
              rw [List.getElem_set]
              split
              · rw [hks, if_pos rfl, h.rows _ (rg_mem hk), hks, List.map_append]; rfl
              · rename_i hkj
                have hne := fst_ne h.ok.nodup hk hj' (fun e => hkj e.symm)
                rw [hks] at hne
                rw [if_neg (fun e => hne e.symm)]
                exact h.rows _ (List.getElem_mem _)
          · intro w hw
            rcases List.mem_append.1 hw with q | q
            · exact hold _ (h.all w q)
            · rw [List.mem_singleton.1 q]; exact hsm2
          · rw [List.map_append, List.nodup_append]
            refine ⟨h.nd, by simp, fun a ha b hb => ?_⟩
            simp at hb
            rintro rfl
            rw [hb] at ha
            exact hnew ha
          · simp [h.len]
          · simp; exact h.wl
          · intro i hi
            rw [List.length_append, List.length_singleton] at hi
            rcases Nat.lt_or_ge i ws.length with hlt | hge
            · have hw : wg (ws ++ [(t, s)]) i = wg ws i := by unfold wg; rw [List.getD_eq_getElem?_getD, List.getD_eq_getElem?_getD, List.getElem?_append_left hlt]
              have hl : lg (lf ++ [((24 * ((ofS ws s).length + 1) : Nat) : Int)]) i = lg lf i := by unfold lg; rw [List.getD_eq_getElem?_getD, List.getD_eq_getElem?_getD, List.getElem?_append_left (by rw [h.len]; exact hlt)]
              have ha : ahd (ws ++ [(t, s)]) (wg ws i).2 i = ahd ws (wg ws i).2 i := by unfold ahd; rw [List.take_append_of_le_length (Nat.le_of_lt hlt)]
              have hm : (wg ws i).2 ∈ sk x := h.all _ (by rw [wg_at hlt]; exact List.getElem_mem _)
              rw [hw, hl, ha]
              have := h.pot i hlt
              have ht := hturn _ hm
              show ((24 * ahd ws (wg ws i).2 i + turns ((addP x.round s t).map (·.1)) x.socket x.passes (wg ws i).2 : Nat) : Int) ≤ _
              rw [ht]
              exact this
            · obtain rfl : i = ws.length := by omega
              have hw : wg (ws ++ [(t, s)]) ws.length = (t, s) := by unfold wg; rw [List.getD_eq_getElem?_getD, List.getElem?_append_right (Nat.le_refl _), Nat.sub_self]; rfl
              have hl : lg (lf ++ [((24 * ((ofS ws s).length + 1) : Nat) : Int)]) ws.length = ((24 * ((ofS ws s).length + 1) : Nat) : Int) := by unfold lg; rw [List.getD_eq_getElem?_getD, List.getElem?_append_right (by rw [h.len]; exact Nat.le_refl _), h.len, Nat.sub_self]; rfl
              have ha : ahd (ws ++ [(t, s)]) s ws.length = (ofS ws s).length := by unfold ahd; rw [List.take_append_of_le_length (Nat.le_refl _), List.take_length]
              rw [hw, hl]
              show ((24 * ahd (ws ++ [(t, s)]) s ws.length + turns ((addP x.round s t).map (·.1)) x.socket x.passes s : Nat) : Int) ≤ _
              rw [ha]
              have := turns_le (p := x.passes) (c := x.socket) hok.nodup hsr hs hc5 h.ok.pass
              have h21 : turns ((addP x.round s t).map (·.1)) x.socket x.passes s ≤ 21 := this
              omega
          · intro v hv
            rcases List.mem_append.1 hv with q | q
            · exact h.big v q
            · rw [List.mem_singleton.1 q]
              have : (ofS ws s).length ≤ ws.length := List.length_filter_le _ _
              have := h.wl
              omega
end
end Go.Proofs.Ytgiimdoabkcoaaa.Co

/-
Of one socket's tasks those that waited earlier are told earlier; who waits is told within the bound: a hand-off, plain.
-/
namespace Go.Proofs.Ytgiimdoabkcoaaa.Co
set_option linter.unusedVariables false
set_option linter.unusedSimpArgs false
section
variable {x : LS} {ws : List Wt} {lf : List Int} {n k j : Nat} {s a : Int}
theorem first_of {ws : List Wt} (h : ofS ws s ≠ []) : ∃ k, k < ws.length ∧ (wg ws k).2 = s ∧ ∀ j, j < k → (wg ws j).2 ≠ s := by
  have : (ws.findIdx? (fun w => decide (w.2 = s))).isSome = true := by
    rw [List.findIdx?_isSome, List.any_eq_true]
    match hq : ofS ws s, h with
    | w :: l, _ =>
      have hw : w ∈ ofS ws s := by rw [hq]; simp
      obtain ⟨h1, h2⟩ := List.mem_filter.1 hw
      exact ⟨w, h1, h2⟩
  obtain ⟨k, hk⟩ := Option.isSome_iff_exists.1 this
  obtain ⟨h1, h2, h3⟩ := List.findIdx?_eq_some_iff_getElem.1 hk
  refine ⟨k, h1, by rw [wg_at h1]; simpa using h2, fun j hj => ?_⟩
  have := h3 j hj
  rw [wg_at (by omega)]
  simpa using this
theorem ofS_none (hk : k ≤ ws.length) (h : ∀ j, j < k → (wg ws j).2 ≠ s) : ofS (ws.take k) s = [] := by
  refine List.filter_eq_nil_iff.2 (fun w hw e => ?_)
  obtain ⟨j, hj, rfl⟩ := List.getElem_of_mem hw
  rw [List.length_take] at hj
  rw [List.getElem_take] at e
  have := h j (by omega)
  rw [wg_at (by omega)] at this
  exact this (by simpa using e)
theorem split_at (hk : k < ws.length) : ws = ws.take k ++ wg ws k :: ws.drop (k + 1) ∧ ws.eraseIdx k = ws.take k ++ ws.drop (k + 1) := by
  constructor
  · rw [wg_at hk]
    have h1 := List.take_append_drop k ws
    rw [List.drop_eq_getElem_cons hk] at h1
    exact h1.symm
  · exact List.eraseIdx_eq_take_drop_succ ws k
/-- the first one of a socket goes. -/
theorem ofS_erase (hk : k < ws.length) (hs : (wg ws k).2 = s) (hf : ∀ j, j < k → (wg ws j).2 ≠ s) : ofS ws s = wg ws k :: ofS (ws.eraseIdx k) s ∧ ∀ a, a ≠ s → ofS (ws.eraseIdx k) a = ofS ws a := by
  obtain ⟨h1, h2⟩ := split_at hk
  have h0 := ofS_none (Nat.le_of_lt hk) hf
  have e1 : ofS ws s = ofS (ws.take k) s ++ ofS (wg ws k :: ws.drop (k + 1)) s := by
    unfold ofS; rw [← List.filter_append, ← h1]
  have e2 : ofS (ws.eraseIdx k) s = ofS (ws.take k) s ++ ofS (ws.drop (k + 1)) s := by
    unfold ofS; rw [← List.filter_append, ← h2]
  refine ⟨?_, fun a ha => ?_⟩
  · rw [e1, e2, h0]
    unfold ofS
    rw [List.filter_cons_of_pos (by simp [hs])]
    rfl
  · have e3 : ofS ws a = ofS (ws.take k) a ++ ofS (wg ws k :: ws.drop (k + 1)) a := by
      unfold ofS; rw [← List.filter_append, ← h1]
    have e4 : ofS (ws.eraseIdx k) a = ofS (ws.take k) a ++ ofS (ws.drop (k + 1)) a := by
      unfold ofS; rw [← List.filter_append, ← h2]
    rw [e3, e4]
    congr 1
    unfold ofS
    rw [List.filter_cons_of_neg]
    simp only [decide_eq_true_eq]
    exact fun e => ha (e.symm.trans hs)
theorem take_erase {α : Type} (l : List α) (hkj : k ≤ j) : (l.eraseIdx k).take j = (l.take (j + 1)).eraseIdx k := by
  apply List.ext_getElem?
  intro i
  rw [List.getElem?_take, List.getElem?_eraseIdx, List.getElem?_eraseIdx, List.getElem?_take, List.getElem?_take]
  by_cases h1 : i < k
  · rw [if_pos (by omega), if_pos h1, if_pos h1, if_pos (by omega)]
  · rw [if_neg h1, if_neg h1]
    by_cases h2 : i < j
    · rw [if_pos h2, if_pos (by omega)]
    · rw [if_neg h2, if_neg (by omega)]
theorem wg_erase (hj : j < k) : wg (ws.eraseIdx k) j = wg ws j := by
  unfold wg; rw [List.getD_eq_getElem?_getD, List.getD_eq_getElem?_getD, List.getElem?_eraseIdx, if_pos hj]
theorem wg_erase2 (hj : k ≤ j) : wg (ws.eraseIdx k) j = wg ws (j + 1) := by
  unfold wg; rw [List.getD_eq_getElem?_getD, List.getD_eq_getElem?_getD, List.getElem?_eraseIdx, if_neg (by omega)]
def less (lf : List Int) : List Int := lf.map (· - 1)
theorem lg_less (h : j < lf.length) : lg (less lf) j = lg lf j - 1 := by
  unfold lg less
  rw [List.getD_eq_getElem?_getD, List.getD_eq_getElem?_getD, List.getElem?_map, List.getElem?_eq_getElem h]
  rfl
theorem lg_erase (hj : j < k) : lg (lf.eraseIdx k) j = lg lf j := by
  unfold lg; rw [List.getD_eq_getElem?_getD, List.getD_eq_getElem?_getD, List.getElem?_eraseIdx, if_pos hj]
theorem lg_erase2 (hj : k ≤ j) : lg (lf.eraseIdx k) j = lg lf (j + 1) := by
  unfold lg; rw [List.getD_eq_getElem?_getD, List.getD_eq_getElem?_getD, List.getElem?_eraseIdx, if_neg (by omega)]
/-- who is told, and what is so behind it. -/
def Told (n : Nat) (x2 : LS) (ws : List Wt) (lf : List Int) (nx : Int) : Prop := ∃ k, k < ws.length ∧ (wg ws k).1 = nx ∧ (∀ j, j < k → (wg ws j).2 ≠ (wg ws k).2) ∧ (∀ j, j < ws.length → 1 ≤ lg lf j) ∧ OI (n + 1) x2 (ws.eraseIdx k) ((less lf).eraseIdx k)
theorem OI.give (h : OI n x ws lf) (hh : x.held = true) :
    ((giveP x x.owner).2.2.1 = false → OI (n + 1) (giveP x x.owner).1 ws lf) ∧ ((giveP x x.owner).2.2.1 = true → Told n (giveP x x.owner).1 ws lf (giveP x x.owner).2.1) := by
  have hok := give_ok (t := x.owner) h.ok
  have hsm := give_sm (t := x.owner) h.ok h.sm
  have hps := give_pass (t := x.owner) h.ok h.ps
  have hc5 := h.so hh
  unfold giveP at *
  have h1 : ¬ (x.held = false ∨ x.owner ≠ x.owner) := by rw [hh]; simp
  rw [if_neg h1] at hok hsm hps ⊢
  by_cases h2 : x.round = []
  · rw [if_pos h2] at hok hsm hps ⊢
    refine ⟨fun _ => ?_, fun q => by cases q⟩
    have hw : ws = [] := by
      match ws, h.all with
      | [], _ => rfl
      | w :: _, ha =>
        have := ha w (by simp)
        unfold sk at this
        rw [h2] at this
        simp at this
    subst hw
    exact ⟨hok, hsm.more (Nat.le_succ _), hps, by simp [ls0], by simp [ls0, sk], by simp [ls0], by simp, by simp, h.len, Nat.zero_le _, by simp, h.big⟩
  · rw [if_neg h2] at hok hsm hps ⊢
    refine ⟨fun q => (by cases q), fun _ => ?_⟩
    obtain ⟨i, hnc⟩ := next_cases h.ok h2
    obtain ⟨hi, how, hhe, hc⟩ := id hnc
    obtain ⟨s', hs'⟩ : ∃ s', (rg x.round i).1 = s' := ⟨_, rfl⟩
    have hmem : s' ∈ sk x := by rw [← hs']; exact List.mem_map.2 ⟨_, rg_mem hi, rfl⟩
    have hs5 := h.sr s' hmem
    have hrow := h.rows _ (rg_mem hi)
    rw [hs'] at hrow
    have hfull := h.ok.full _ (rg_mem hi)
    have hne : ofS ws s' ≠ [] := fun e => hfull (by rw [hrow, e]; rfl)
    obtain ⟨k, hk, hks, hkf⟩ := first_of hne
    obtain ⟨he1, he2⟩ := ofS_erase hk hks hkf
    have hrow2 : (rg x.round i).2 = (wg ws k).1 :: (ofS (ws.eraseIdx k) s').map (·.1) := by rw [hrow, he1]; rfl
    have hft : firstT x.round i = (wg ws k).1 := by unfold firstT; rw [hrow2]; rfl
    have htl : (rg x.round i).2.tail = (ofS (ws.eraseIdx k) s').map (·.1) := by rw [hrow2]; rfl
    have hsock : (nextP x).socket = s' := by
      rcases hc with ⟨q1, _, q2, _⟩ | ⟨_, _, _, q2, _⟩
      · rw [q2, ← q1, hs']
      · rw [q2, hs']
    have hround : ∀ p, p ∈ (nextP x).round ↔ p ∈ firstR x.round i := by
      intro p
      rcases hc with ⟨_, _, _, _, q⟩ | ⟨_, _, _, _, _, q⟩ <;> rw [q]
      exact mem_moveR
    have hsk2 : ∀ a ∈ sk (nextP x), a ∈ sk x := fun a ha => by
      obtain ⟨p, hp, rfl⟩ := List.mem_map.1 ha
      exact firstR_sub.subset (List.mem_map.2 ⟨p, (hround p).1 hp, rfl⟩)
    have hpos : ∀ j, j < ws.length → 1 ≤ lg lf j := fun j hj => by
      have := h.pot j hj
      have h1 := turns_pos (sk x) x.socket x.passes (wg ws j).2
      omega
    refine ⟨k, hk, ?_, ?_, hpos, ?_⟩
    · rw [how, hft]
    · rw [hks]; exact hkf
    · show OI (n + 1) (nextP x) (ws.eraseIdx k) ((less lf).eraseIdx k)
      have hlen2 : (ws.eraseIdx k).length = ws.length - 1 := by rw [List.length_eraseIdx, if_pos hk]
      have hlk : k < lf.length := by rw [h.len]; exact hk
      have hll : (less lf).length = lf.length := List.length_map _
      refine ⟨hok, hsm.more (Nat.le_succ _), hps, fun _ => by rw [hsock]; exact hs5, fun a ha => h.sr a (hsk2 a ha), ?_, ?_, ?_, ?_, ?_, ?_, ?_⟩
      · intro p hp
        rcases firstR_mem2 h.ok.nodup hi ((hround p).1 hp) with ⟨q1, q2⟩ | ⟨rfl, _⟩
        · rw [hs'] at q2
          rw [he2 _ q2]
          exact h.rows p q1
        · show (rg x.round i).2.tail = (ofS (ws.eraseIdx k) (rg x.round i).1).map (·.1)
          rw [htl, hs']
      · intro w hw
        have hwm : w ∈ ws := List.mem_of_mem_eraseIdx hw
        obtain ⟨p, hp, e⟩ := List.mem_map.1 (h.all w hwm)
        by_cases hws : w.2 = s'
        · have hin : w ∈ ofS (ws.eraseIdx k) s' := List.mem_filter.2 ⟨hw, by simp [hws]⟩
          have htn : (rg x.round i).2.tail ≠ [] := by
            rw [htl]
            intro e
            rw [List.map_eq_nil_iff.1 e] at hin
            simp at hin
          exact List.mem_map.2 ⟨_, (hround _).2 (firstR_mem4 hi htn), by rw [hws]; exact hs'⟩
        · exact List.mem_map.2 ⟨p, (hround _).2 (firstR_mem3 hi hp (by rw [hs', e]; exact hws)), e⟩
      · rw [map_eraseIdx]; exact (List.eraseIdx_sublist _ _).nodup h.nd
      · rw [List.length_eraseIdx, hll, if_pos hlk, hlen2, h.len]
      · rw [hlen2]; have := h.wl; omega
      · intro j hj
        rw [hlen2] at hj
        have hnd2 : (sk (nextP x)).Nodup := hok.nodup
        have h21 : turns (sk (nextP x)) (nextP x).socket (nextP x).passes s' ≤ 21 := turns_le hnd2 (fun a ha => h.sr a (hsk2 a ha)) hs5 (by rw [hsock]; exact hs5) hok.pass
        rcases Nat.lt_or_ge j k with hjk | hjk
        · rw [wg_erase hjk, lg_erase hjk, lg_less (by rw [h.len]; omega)]
          have ha : ahd (ws.eraseIdx k) (wg ws j).2 j = ahd ws (wg ws j).2 j := by
            unfold ahd
            rw [show (ws.eraseIdx k).take j = ws.take j from by
              rw [List.eraseIdx_eq_take_drop_succ, List.take_append_of_le_length (by rw [List.length_take]; omega), List.take_take, Nat.min_eq_left (Nat.le_of_lt hjk)]]
          rw [ha]
          have hm : (wg ws j).2 ∈ sk x := h.all _ (by rw [wg_at (by omega)]; exact List.getElem_mem _)
          have ht := turns_next h.ok h.sr hc5 hnc hm (by rw [hs']; exact hkf j hjk)
          have := h.pot j (by omega)
          omega
        · rw [wg_erase2 hjk, lg_erase2 hjk, lg_less (by rw [h.len]; omega)]
          have hm : (wg ws (j + 1)).2 ∈ sk x := h.all _ (by rw [wg_at (by omega)]; exact List.getElem_mem _)
          have hp := h.pot (j + 1) (by omega)
          have hwt : ∀ i, i < j + 1 → wg (ws.take (j + 1)) i = wg ws i := fun i hi => by
            unfold wg; rw [List.getD_eq_getElem?_getD, List.getD_eq_getElem?_getD, List.getElem?_take, if_pos hi]
          have hkt : k < (ws.take (j + 1)).length := by rw [List.length_take]; omega
          obtain ⟨t1, t2⟩ := ofS_erase (s := s') hkt (by rw [hwt k (by omega)]; exact hks) (fun i hi => by rw [hwt i (by omega)]; exact hkf i hi)
          by_cases hws : (wg ws (j + 1)).2 = s'
          · have ha : ahd (ws.eraseIdx k) (wg ws (j + 1)).2 j + 1 = ahd ws (wg ws (j + 1)).2 (j + 1) := by
              unfold ahd
              rw [take_erase _ hjk, hws, t1, List.length_cons]
            have h1 := turns_pos (sk x) x.socket x.passes (wg ws (j + 1)).2
            rw [hws] at ha hp h1 ⊢
            omega
          · have ha : ahd (ws.eraseIdx k) (wg ws (j + 1)).2 j = ahd ws (wg ws (j + 1)).2 (j + 1) := by
              unfold ahd
              rw [take_erase _ hjk, t2 _ hws]
            have ht := turns_next h.ok h.sr hc5 hnc hm (by rw [hs']; exact hws)
            rw [ha]
            omega
      · intro v hv
        have hv2 := List.mem_of_mem_eraseIdx hv
        obtain ⟨u, hu, rfl⟩ := List.mem_map.1 hv2
        have := h.big u hu
        omega
end
end Go.Proofs.Ytgiimdoabkcoaaa.Co

/-
The locks and the document's: the same locks, plain.
-/
namespace Go.Proofs.Ytgiimdoabkcoaaa.Co
set_option linter.unusedVariables false
set_option linter.unusedSimpArgs false
/-- the document's lock. -/
structure DL where
  held : Bool
  owner : Int
  socket : Int
  passes : Int
  waits : List Wt
  round : List Int
def dl0 : DL := ⟨false, 0, 0, 0, [], []⟩
/-- the first one of a socket goes. -/
def dropF : List Wt → Int → List Wt
  | [], _ => []
  | w :: l, s => if w.2 = s then l else w :: dropF l s
def headF (ws : List Wt) (s o : Int) : Int := match ofS ws s with
  | [] => o
  | w :: _ => w.1
def rTold (y : DL) (s : Int) : DL := ⟨y.held, headF y.waits s y.owner, y.socket, y.passes, dropF y.waits s, if ofS (dropF y.waits s) s = [] then y.round.filter (ne s) else y.round⟩
def rTake (y : DL) (t s : Int) : DL × Bool × Int :=
  if t < 0 ∨ s < 0 then (y, false, 1)
  else if y.held = true ∧ y.owner = t then (y, false, 8)
  else if y.waits.any (fun w => decide (w.1 = t)) = true then (y, false, 9)
  else if y.held = false then (⟨true, t, s, 0, [], []⟩, true, 0)
  else (⟨y.held, y.owner, y.socket, y.passes, y.waits ++ [(t, s)], if s ∈ y.round then y.round else y.round ++ [s]⟩, false, 0)
def toS (y : DL) : Int := if lg y.round 0 = y.socket then lg y.round 1 else lg y.round 0
def rStay (y : DL) : DL := ⟨y.held, (rTold y y.socket).owner, y.socket, y.passes + 1, (rTold y y.socket).waits, (rTold y y.socket).round⟩
def rAway (y : DL) : DL := ⟨y.held, (rTold y (toS y)).owner, toS y, 0, (rTold y (toS y)).waits, if y.socket ∈ y.round then (rTold y (toS y)).round.filter (ne y.socket) ++ [y.socket] else (rTold y (toS y)).round⟩
def rGive (y : DL) (t : Int) : DL × Int × Bool × Int :=
  if y.held = false ∨ y.owner ≠ t then (y, 0, false, 8)
  else if y.waits = [] then (dl0, 0, false, 0)
  else if y.socket ∈ y.round ∧ (y.passes < 3 ∨ y.round.length = 1) then (rStay y, (rStay y).owner, true, 0)
  else (rAway y, (rAway y).owner, true, 0)
def rWaiting (y : DL) : List Int := y.round.flatMap (fun s => (ofS y.waits s).map (·.1))
/-- rows by sockets, and who waits in the order in which they began. -/
structure TR (r : List Rw) (ws : List Wt) (rd : List Int) : Prop where
  sk : r.map (·.1) = rd
  rows : ∀ p ∈ r, p.2 = (ofS ws p.1).map (·.1)
  all : ∀ w ∈ ws, w.2 ∈ rd
structure Tie (x : LS) (y : DL) : Prop where
  held : x.held = y.held
  owner : x.owner = y.owner
  socket : x.socket = y.socket
  passes : x.passes = y.passes
  tr : TR x.round y.waits y.round
section
variable {r : List Rw} {ws : List Wt} {rd : List Int} {i : Nat} {s t c a : Int} {x : LS} {y : DL}
theorem dropF_same : ∀ (ws : List Wt), ofS (dropF ws s) s = (ofS ws s).tail
  | [] => rfl
  | w :: l => by
    unfold dropF ofS
    by_cases h : w.2 = s
    · rw [if_pos h, List.filter_cons_of_pos (by simp [h])]; rfl
    · rw [if_neg h, List.filter_cons_of_neg (by simp [h]), List.filter_cons_of_neg (by simp [h])]
      exact dropF_same l
theorem dropF_other (h : a ≠ s) : ∀ (ws : List Wt), ofS (dropF ws s) a = ofS ws a
  | [] => rfl
  | w :: l => by
    unfold dropF
    by_cases hw : w.2 = s
    · rw [if_pos hw]
      unfold ofS
      rw [List.filter_cons_of_neg (by simp only [decide_eq_true_eq]; exact fun e => h (e.symm.trans hw))]
    · rw [if_neg hw]
      have ih := dropF_other h l
      unfold ofS at ih ⊢
      by_cases hwa : w.2 = a
      · rw [List.filter_cons_of_pos (by simp [hwa]), List.filter_cons_of_pos (by simp [hwa]), ih]
      · rw [List.filter_cons_of_neg (by simp [hwa]), List.filter_cons_of_neg (by simp [hwa]), ih]
theorem dropF_sub : ∀ (ws : List Wt), ∀ w ∈ dropF ws s, w ∈ ws
  | [], _, h => by simp [dropF] at h
  | v :: l, w, h => by
    unfold dropF at h
    split at h
    · exact List.mem_cons_of_mem _ h
    · rcases List.mem_cons.1 h with rfl | h
      · exact List.mem_cons_self
      · exact List.mem_cons_of_mem _ (dropF_sub l w h)
theorem TR.first (h : TR r ws rd) (hn : (r.map (·.1)).Nodup) (hi : i < r.length) (hs : (rg r i).1 = s) :
    TR (firstR r i) (dropF ws s) (if ofS (dropF ws s) s = [] then rd.filter (ne s) else rd) := by
  have hrow := h.rows _ (rg_mem hi)
  rw [hs] at hrow
  have htl : (rg r i).2.tail = (ofS (dropF ws s) s).map (·.1) := by rw [hrow, dropF_same, List.map_tail]
  have hsk : (firstR r i).map (·.1) = if ofS (dropF ws s) s = [] then rd.filter (ne s) else rd := by
    unfold firstR
    by_cases e : ofS (dropF ws s) s = []
    · rw [if_pos e, if_pos (by rw [htl, e]; rfl), map_eraseIdx, eraseIdx_ne hn (by simpa using hi), ← h.sk]
      have : (r.map (·.1))[i]'(by simpa using hi) = s := by rw [List.getElem_map, ← rg_at hi]; exact hs
      rw [this]
    · rw [if_neg e, if_neg (by rw [htl]; simpa using e), ← h.sk]
      apply List.ext_getElem?
      intro j
      simp only [List.getElem?_map, List.getElem?_set]
      by_cases q : i = j
      · subst q
        simp [hi, rg_at hi]
      · simp [q]
  refine ⟨hsk, fun p hp => ?_, fun w hw => ?_⟩
  · rcases firstR_mem2 hn hi hp with ⟨q1, q2⟩ | ⟨rfl, _⟩
    · rw [hs] at q2
      rw [dropF_other q2]
      exact h.rows p q1
    · show (rg r i).2.tail = (ofS (dropF ws s) (rg r i).1).map (·.1)
      rw [htl, hs]
  · have hm := h.all w (dropF_sub ws w hw)
    split
    · rename_i e
      refine List.mem_filter.2 ⟨hm, ne_iff.2 (fun q => ?_)⟩
      have hin : w ∈ ofS (dropF ws s) s := List.mem_filter.2 ⟨hw, by simp [q]⟩
      rw [e] at hin
      simp at hin
    · exact hm
theorem TR.head (h : TR r ws rd) (hi : i < r.length) (hs : (rg r i).1 = s) (hf : (rg r i).2 ≠ []) (o : Int) : firstT r i = headF ws s o := by
  have hrow := h.rows _ (rg_mem hi)
  rw [hs] at hrow
  unfold firstT headF
  rw [hrow] at hf ⊢
  match hq : ofS ws s with
  | [] => rw [hq] at hf; exact absurd rfl hf
  | w :: l => rfl
theorem TR.move (h : TR r ws rd) (hn : (r.map (·.1)).Nodup) : TR (moveR r c) ws (moveL rd c) := by
  refine ⟨by rw [sk_moveR hn, h.sk], fun p hp => h.rows p (mem_moveR.1 hp), fun w hw => ?_⟩
  have := h.all w hw
  unfold moveL
  split
  · by_cases e : w.2 = c
    · rw [e]; simp
    · exact List.mem_append_left _ (List.mem_filter.2 ⟨this, ne_iff.2 e⟩)
  · exact this
theorem TR.add (h : TR r ws rd) (hn : (r.map (·.1)).Nodup) : TR (addP r s t) (ws ++ [(t, s)]) (if s ∈ rd then rd else rd ++ [s]) := by
  have hin : s ∈ rd ↔ rowI r s ≠ none := by
    constructor
    · intro hm e
      rw [← h.sk] at hm
      obtain ⟨p, hp, q⟩ := List.mem_map.1 hm
      exact rowI_none e p hp q
    · intro hne
      cases hr : rowI r s with
      | none => exact absurd hr hne
      | some k =>
        obtain ⟨hk, hks⟩ := rowI_some hr
        rw [← h.sk]
        exact List.mem_map.2 ⟨_, rg_mem hk, hks⟩
  have hsk : (addP r s t).map (·.1) = if s ∈ rd then rd else rd ++ [s] := by
    unfold addP
    cases hr : rowI r s with
    | none =>
      rw [if_neg (fun e => (hin.1 e) hr), List.map_append, h.sk]; rfl
    | some k =>
      obtain ⟨hk, _⟩ := rowI_some hr
      rw [if_pos (hin.2 (by rw [hr]; simp)), ← h.sk]
      unfold addAt
      apply List.ext_getElem?
      intro j
      simp only [List.getElem?_map, List.getElem?_set]
      by_cases e : k = j
      · subst e
        simp [hk, rg_at hk]
      · simp [e]
  refine ⟨hsk, fun p hp => ?_, fun w hw => ?_⟩
  · rw [ofS_append]
    unfold addP at hp
    cases hr : rowI r s with
    | none =>
      rw [hr] at hp
      have hno : ofS ws s = [] := by
        refine List.filter_eq_nil_iff.2 (fun w hw e => ?_)
        have hm := h.all w hw
        rw [show w.2 = s by simpa using e] at hm
        exact hin.1 hm hr
      rcases List.mem_append.1 hp with q | q
      · rw [if_neg (fun e => rowI_none hr p q e.symm)]
        exact h.rows p q
      · rw [List.mem_singleton.1 q, if_pos rfl, hno]; rfl
    | some k =>
      rw [hr] at hp
      obtain ⟨hk, hks⟩ := rowI_some hr
      have hp2 : p ∈ r.set k ((rg r k).1, (rg r k).2 ++ [t]) := hp
      clear hp
      obtain ⟨j, hj, rfl⟩ := List.getElem_of_mem hp2
      have hj' : j < r.length := by simpa using hj
      rw [List.getElem_set]
      split
      · rw [hks, if_pos rfl, h.rows _ (rg_mem hk), hks, List.map_append]; rfl
      · rename_i hkj
        have hne := fst_ne hn hk hj' (fun e => hkj e.symm)
        rw [hks] at hne
        rw [if_neg (fun e => hne e.symm)]
        exact h.rows _ (List.getElem_mem _)
  · rcases List.mem_append.1 hw with q | q
    · have := h.all w q
      split
      · exact this
      · exact List.mem_append_left _ this
    · rw [List.mem_singleton.1 q]
      split
      · rename_i e; exact e
      · simp
theorem TR.nil (h : TR r ws rd) (hf : ∀ p ∈ r, p.2 ≠ []) : r = [] ↔ ws = [] := by
  constructor
  · rintro rfl
    match ws, h.all with
    | [], _ => rfl
    | w :: _, ha =>
      have := ha w (by simp)
      rw [← h.sk] at this
      simp at this
  · rintro rfl
    match r, h.rows, hf with
    | [], _, _ => rfl
    | p :: _, hr, hf => exact absurd (hr p (by simp)) (hf p (by simp))
theorem TR.waits (h : TR r ws rd) : waitsB r t = ws.any (fun w => decide (w.1 = t)) := by
  rw [Bool.eq_iff_iff]
  unfold waitsB
  rw [List.any_eq_true, List.any_eq_true]
  constructor
  · rintro ⟨p, hp, hc⟩
    have hc := List.contains_iff_mem.1 hc
    rw [h.rows p hp] at hc
    obtain ⟨w, hw, e⟩ := List.mem_map.1 hc
    exact ⟨w, (List.mem_filter.1 hw).1, by simp [e]⟩
  · rintro ⟨w, hw, e⟩
    have hm := h.all w hw
    rw [← h.sk] at hm
    obtain ⟨p, hp, q⟩ := List.mem_map.1 hm
    refine ⟨p, hp, List.contains_iff_mem.2 ?_⟩
    rw [h.rows p hp]
    exact List.mem_map.2 ⟨w, List.mem_filter.2 ⟨hw, by simp [q]⟩, by simpa using e⟩
theorem tie0 : Tie ls0 dl0 := ⟨rfl, rfl, rfl, rfl, ⟨rfl, by simp [ls0], by simp [dl0]⟩⟩
theorem Tie.waiting (h : Tie x y) : waitingP x = rWaiting y := by
  unfold waitingP rWaiting
  rw [← h.tr.sk, List.flatMap_map]
  unfold List.flatMap
  congr 1
  exact List.map_congr_left (fun p hp => h.tr.rows p hp)
theorem Tie.take (h : Tie x y) (ho : Ok x) : Tie (takeP x t s).1 (rTake y t s).1 ∧ (takeP x t s).2 = (rTake y t s).2 := by
  have hw := h.tr.waits (t := t)
  unfold takeP rTake
  rw [← h.held, ← h.owner, ← hw, ← h.socket, ← h.passes]
  split
  · exact ⟨h, rfl⟩
  · split
    · exact ⟨h, rfl⟩
    · split
      · exact ⟨h, rfl⟩
      · split
        · rename_i hh
          have hr := ho.none hh
          refine ⟨⟨rfl, rfl, rfl, rfl, ?_⟩, rfl⟩
          show TR x.round [] []
          rw [hr]
          exact ⟨rfl, by simp, by simp⟩
        · exact ⟨⟨rfl, rfl, rfl, rfl, h.tr.add ho.nodup⟩, rfl⟩
theorem Tie.own (h : Tie x y) : (rowI x.round x.socket).isSome = true ↔ y.socket ∈ y.round := by
  rw [← h.tr.sk, ← h.socket]
  constructor
  · intro q
    obtain ⟨k, hk⟩ := Option.isSome_iff_exists.1 q
    obtain ⟨h1, h2⟩ := rowI_some hk
    exact List.mem_map.2 ⟨_, rg_mem h1, h2⟩
  · intro q
    cases hr : rowI x.round x.socket with
    | some k => rfl
    | none =>
      obtain ⟨p, hp, e⟩ := List.mem_map.1 q
      exact absurd e (rowI_none hr p hp)
theorem Tie.to (h : Tie x y) (ho : Ok x) (hi : offI x.round x.socket = some i) : (rg x.round i).1 = toS y := by
  have hf := offI_find hi
  rw [h.tr.sk, h.socket] at hf
  have hn : y.round.Nodup := by rw [← h.tr.sk]; exact ho.nodup
  unfold toS lg
  match hq : y.round, hf, hn with
  | [], hf, _ => simp at hf
  | [a], hf, _ =>
    by_cases e : a = y.socket
    · simp [ne, e] at hf
    · simp [ne, e] at hf
      rw [← hf]
      simp [e]
  | a :: b :: l, hf, hn =>
    by_cases e : a = y.socket
    · have hb : b ≠ y.socket := fun q => by simp [e, q] at hn
      simp [ne, e, hb] at hf
      simp [e, hf]
    · simp [ne, e] at hf
      rw [← hf]
      simp [e]
theorem Tie.stay (h : Tie x y) (ho : Ok x) (hi : rowI x.round x.socket = some i) : Tie (stayP x i) (rStay y) := by
  obtain ⟨h1, h2⟩ := rowI_some hi
  rw [h.socket] at h2
  exact ⟨h.held, h.tr.head h1 h2 (ho.full _ (rg_mem h1)) _, h.socket, congrArg (· + 1) h.passes, h.tr.first ho.nodup h1 h2⟩
theorem Tie.away (h : Tie x y) (ho : Ok x) (hi : offI x.round x.socket = some i) : Tie (awayP x) (rAway y) := by
  obtain ⟨h1, h2⟩ := offI_some hi
  have h3 := h.to ho hi
  have hne : toS y ≠ y.socket := by rw [← h3, ← h.socket]; exact h2
  have hf := h.tr.first ho.nodup h1 h3
  have hm := hf.move (c := y.socket) (firstR_sub.nodup ho.nodup)
  refine ⟨h.held, ?_, ?_, rfl, ?_⟩
  · show firstT x.round ((offI x.round x.socket).getD 0) = headF y.waits (toS y) y.owner
    rw [hi]
    exact h.tr.head h1 h3 (ho.full _ (rg_mem h1)) _
  · show (rg x.round ((offI x.round x.socket).getD 0)).1 = toS y
    rw [hi]
    exact h3
  · show TR (moveR (firstR x.round ((offI x.round x.socket).getD 0)) x.socket) (dropF y.waits (toS y)) (if y.socket ∈ y.round then _ else _)
    rw [hi, h.socket]
    have e : (if y.socket ∈ y.round then (rTold y (toS y)).round.filter (ne y.socket) ++ [y.socket] else (rTold y (toS y)).round) = moveL (if ofS (dropF y.waits (toS y)) (toS y) = [] then y.round.filter (ne (toS y)) else y.round) y.socket := by
      show (if y.socket ∈ y.round then List.filter (ne y.socket) (if ofS (dropF y.waits (toS y)) (toS y) = [] then y.round.filter (ne (toS y)) else y.round) ++ [y.socket] else (if ofS (dropF y.waits (toS y)) (toS y) = [] then y.round.filter (ne (toS y)) else y.round)) = _
      have hmem : y.socket ∈ (if ofS (dropF y.waits (toS y)) (toS y) = [] then y.round.filter (ne (toS y)) else y.round) ↔ y.socket ∈ y.round := by
        split
        · rw [List.mem_filter]
          exact ⟨fun q => q.1, fun q => ⟨q, ne_iff.2 (fun e => hne e.symm)⟩⟩
        · exact Iff.rfl
      unfold moveL
      by_cases q : y.socket ∈ y.round
      · rw [if_pos q, if_pos (hmem.2 q)]
      · rw [if_neg q, if_neg (fun e => q (hmem.1 e))]
    rw [e]
    exact hm
theorem Tie.give (h : Tie x y) (ho : Ok x) : Tie (giveP x t).1 (rGive y t).1 ∧ (giveP x t).2 = (rGive y t).2 := by
  have hnil := h.tr.nil ho.full
  have hown := h.own
  unfold giveP rGive
  rw [← h.held, ← h.owner]
  split
  · exact ⟨h, rfl⟩
  · by_cases hr : x.round = []
    · rw [if_pos hr, if_pos (hnil.1 hr)]
      exact ⟨tie0, rfl⟩
    · rw [if_neg hr, if_neg (fun e => hr (hnil.2 e))]
      have hlen : y.round.length = x.round.length := by rw [← h.tr.sk, List.length_map]
      have hlen0 : x.round.length ≠ 0 := fun e => hr (List.eq_nil_of_length_eq_zero e)
      rw [← h.passes, hlen]
      have fin1 : ∀ {z : LS} {v : DL}, Tie z v → Tie (z, z.owner, true, (0 : Int)).1 (v, v.owner, true, (0 : Int)).1 ∧ (z, z.owner, true, (0 : Int)).2 = (v, v.owner, true, (0 : Int)).2 := fun hz => ⟨hz, by rw [hz.owner]⟩
      cases hi : rowI x.round x.socket with
      | none =>
        have hno : ¬ (y.socket ∈ y.round ∧ (x.passes < 3 ∨ x.round.length = 1)) := fun q => by
          have := hown.2 q.1
          rw [hi] at this
          cases this
        rw [if_neg hno]
        have hnx : nextP x = awayP x := by unfold nextP; rw [hi]
        rw [hnx]
        obtain ⟨j, hj⟩ := off_exists ho.nodup hr (.inl hi)
        exact fin1 (h.away ho hj)
      | some k =>
        have hin : y.socket ∈ y.round := hown.1 (by rw [hi]; rfl)
        by_cases hp : x.passes < 3 ∨ x.round.length = 1
        · rw [if_pos ⟨hin, hp⟩]
          have hnx : nextP x = stayP x k := by unfold nextP; rw [hi]; exact if_pos hp
          rw [hnx]
          exact fin1 (h.stay ho hi)
        · rw [if_neg (fun q => hp q.2)]
          have hnx : nextP x = awayP x := by unfold nextP; rw [hi]; exact if_neg hp
          rw [hnx]
          obtain ⟨j, hj⟩ := off_exists ho.nodup hr (.inr (by omega))
          exact fin1 (h.away ho hj)
end
end Go.Proofs.Ytgiimdoabkcoaaa.Co
