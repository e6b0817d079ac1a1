/-
Of one socket's tasks those that waited earlier are told earlier; who waits is told within the bound: a hand-off, plain.
-/
import Derived.Test.YtgiimdoabkcoaaaCoOrdP
namespace Go.Proofs.Ytgiimdoabkcoaaa.Co
set_option linter.unusedVariables false
set_option linter.unusedSimpArgs false
section
variable {x : LS} {ws : List Wt} {lf : List Int} {n k j : Nat} {s a : Int}
theorem first_of {ws : List Wt} (h : ofS ws s ≠ []) : ∃ k, k < ws.length ∧ (wg ws k).2 = s ∧ ∀ j, j < k → (wg ws j).2 ≠ s := by
  have : (ws.findIdx? (fun w => decide (w.2 = s))).isSome = true := by
    rw [List.findIdx?_isSome, List.any_eq_true]
    match hq : ofS ws s, h with
    | w :: l, _ =>
      have hw : w ∈ ofS ws s := by rw [hq]; simp
      obtain ⟨h1, h2⟩ := List.mem_filter.1 hw
      exact ⟨w, h1, h2⟩
  obtain ⟨k, hk⟩ := Option.isSome_iff_exists.1 this
  obtain ⟨h1, h2, h3⟩ := List.findIdx?_eq_some_iff_getElem.1 hk
  refine ⟨k, h1, by rw [wg_at h1]; simpa using h2, fun j hj => ?_⟩
  have := h3 j hj
  rw [wg_at (by omega)]
  simpa using this
theorem ofS_none (hk : k ≤ ws.length) (h : ∀ j, j < k → (wg ws j).2 ≠ s) : ofS (ws.take k) s = [] := by
  refine List.filter_eq_nil_iff.2 (fun w hw e => ?_)
  obtain ⟨j, hj, rfl⟩ := List.getElem_of_mem hw
  rw [List.length_take] at hj
  rw [List.getElem_take] at e
  have := h j (by omega)
  rw [wg_at (by omega)] at this
  exact this (by simpa using e)
theorem split_at (hk : k < ws.length) : ws = ws.take k ++ wg ws k :: ws.drop (k + 1) ∧ ws.eraseIdx k = ws.take k ++ ws.drop (k + 1) := by
  constructor
  · rw [wg_at hk]
    have h1 := List.take_append_drop k ws
    rw [List.drop_eq_getElem_cons hk] at h1
    exact h1.symm
  · exact List.eraseIdx_eq_take_drop_succ ws k
/-- the first one of a socket goes. -/
theorem ofS_erase (hk : k < ws.length) (hs : (wg ws k).2 = s) (hf : ∀ j, j < k → (wg ws j).2 ≠ s) : ofS ws s = wg ws k :: ofS (ws.eraseIdx k) s ∧ ∀ a, a ≠ s → ofS (ws.eraseIdx k) a = ofS ws a := by
  obtain ⟨h1, h2⟩ := split_at hk
  have h0 := ofS_none (Nat.le_of_lt hk) hf
  have e1 : ofS ws s = ofS (ws.take k) s ++ ofS (wg ws k :: ws.drop (k + 1)) s := by
    unfold ofS; rw [← List.filter_append, ← h1]
  have e2 : ofS (ws.eraseIdx k) s = ofS (ws.take k) s ++ ofS (ws.drop (k + 1)) s := by
    unfold ofS; rw [← List.filter_append, ← h2]
  refine ⟨?_, fun a ha => ?_⟩
  · rw [e1, e2, h0]
    unfold ofS
    rw [List.filter_cons_of_pos (by simp [hs])]
    rfl
  · have e3 : ofS ws a = ofS (ws.take k) a ++ ofS (wg ws k :: ws.drop (k + 1)) a := by
      unfold ofS; rw [← List.filter_append, ← h1]
    have e4 : ofS (ws.eraseIdx k) a = ofS (ws.take k) a ++ ofS (ws.drop (k + 1)) a := by
      unfold ofS; rw [← List.filter_append, ← h2]
    rw [e3, e4]
    congr 1
    unfold ofS
    rw [List.filter_cons_of_neg]
    simp only [decide_eq_true_eq]
    exact fun e => ha (e.symm.trans hs)
theorem take_erase {α : Type} (l : List α) (hkj : k ≤ j) : (l.eraseIdx k).take j = (l.take (j + 1)).eraseIdx k := by
  apply List.ext_getElem?
  intro i
  rw [List.getElem?_take, List.getElem?_eraseIdx, List.getElem?_eraseIdx, List.getElem?_take, List.getElem?_take]
  by_cases h1 : i < k
  · rw [if_pos (by omega), if_pos h1, if_pos h1, if_pos (by omega)]
  · rw [if_neg h1, if_neg h1]
    by_cases h2 : i < j
    · rw [if_pos h2, if_pos (by omega)]
    · rw [if_neg h2, if_neg (by omega)]
theorem wg_erase (hj : j < k) : wg (ws.eraseIdx k) j = wg ws j := by
  unfold wg; rw [List.getD_eq_getElem?_getD, List.getD_eq_getElem?_getD, List.getElem?_eraseIdx, if_pos hj]
theorem wg_erase2 (hj : k ≤ j) : wg (ws.eraseIdx k) j = wg ws (j + 1) := by
  unfold wg; rw [List.getD_eq_getElem?_getD, List.getD_eq_getElem?_getD, List.getElem?_eraseIdx, if_neg (by omega)]
def less (lf : List Int) : List Int := lf.map (· - 1)
theorem lg_less (h : j < lf.length) : lg (less lf) j = lg lf j - 1 := by
  unfold lg less
  rw [List.getD_eq_getElem?_getD, List.getD_eq_getElem?_getD, List.getElem?_map, List.getElem?_eq_getElem h]
  rfl
theorem lg_erase (hj : j < k) : lg (lf.eraseIdx k) j = lg lf j := by
  unfold lg; rw [List.getD_eq_getElem?_getD, List.getD_eq_getElem?_getD, List.getElem?_eraseIdx, if_pos hj]
theorem lg_erase2 (hj : k ≤ j) : lg (lf.eraseIdx k) j = lg lf (j + 1) := by
  unfold lg; rw [List.getD_eq_getElem?_getD, List.getD_eq_getElem?_getD, List.getElem?_eraseIdx, if_neg (by omega)]
/-- who is told, and what is so behind it. -/
def Told (n : Nat) (x2 : LS) (ws : List Wt) (lf : List Int) (nx : Int) : Prop := ∃ k, k < ws.length ∧ (wg ws k).1 = nx ∧ (∀ j, j < k → (wg ws j).2 ≠ (wg ws k).2) ∧ (∀ j, j < ws.length → 1 ≤ lg lf j) ∧ OI (n + 1) x2 (ws.eraseIdx k) ((less lf).eraseIdx k)
theorem OI.give (h : OI n x ws lf) (hh : x.held = true) :
    ((giveP x x.owner).2.2.1 = false → OI (n + 1) (giveP x x.owner).1 ws lf) ∧ ((giveP x x.owner).2.2.1 = true → Told n (giveP x x.owner).1 ws lf (giveP x x.owner).2.1) := by
  have hok := give_ok (t := x.owner) h.ok
  have hsm := give_sm (t := x.owner) h.ok h.sm
  have hps := give_pass (t := x.owner) h.ok h.ps
  have hc5 := h.so hh
  unfold giveP at *
  have h1 : ¬ (x.held = false ∨ x.owner ≠ x.owner) := by rw [hh]; simp
  rw [if_neg h1] at hok hsm hps ⊢
  by_cases h2 : x.round = []
  · rw [if_pos h2] at hok hsm hps ⊢
    refine ⟨fun _ => ?_, fun q => by cases q⟩
    have hw : ws = [] := by
      match ws, h.all with
      | [], _ => rfl
      | w :: _, ha =>
        have := ha w (by simp)
        unfold sk at this
        rw [h2] at this
        simp at this
    subst hw
    exact ⟨hok, hsm.more (Nat.le_succ _), hps, by simp [ls0], by simp [ls0, sk], by simp [ls0], by simp, by simp, h.len, Nat.zero_le _, by simp, h.big⟩
  · rw [if_neg h2] at hok hsm hps ⊢
    refine ⟨fun q => (by cases q), fun _ => ?_⟩
    obtain ⟨i, hnc⟩ := next_cases h.ok h2
    obtain ⟨hi, how, hhe, hc⟩ := id hnc
    obtain ⟨s', hs'⟩ : ∃ s', (rg x.round i).1 = s' := ⟨_, rfl⟩
    have hmem : s' ∈ sk x := by rw [← hs']; exact List.mem_map.2 ⟨_, rg_mem hi, rfl⟩
    have hs5 := h.sr s' hmem
    have hrow := h.rows _ (rg_mem hi)
    rw [hs'] at hrow
    have hfull := h.ok.full _ (rg_mem hi)
    have hne : ofS ws s' ≠ [] := fun e => hfull (by rw [hrow, e]; rfl)
    obtain ⟨k, hk, hks, hkf⟩ := first_of hne
    obtain ⟨he1, he2⟩ := ofS_erase hk hks hkf
    have hrow2 : (rg x.round i).2 = (wg ws k).1 :: (ofS (ws.eraseIdx k) s').map (·.1) := by rw [hrow, he1]; rfl
    have hft : firstT x.round i = (wg ws k).1 := by unfold firstT; rw [hrow2]; rfl
    have htl : (rg x.round i).2.tail = (ofS (ws.eraseIdx k) s').map (·.1) := by rw [hrow2]; rfl
    have hsock : (nextP x).socket = s' := by
      rcases hc with ⟨q1, _, q2, _⟩ | ⟨_, _, _, q2, _⟩
      · rw [q2, ← q1, hs']
      · rw [q2, hs']
    have hround : ∀ p, p ∈ (nextP x).round ↔ p ∈ firstR x.round i := by
      intro p
      rcases hc with ⟨_, _, _, _, q⟩ | ⟨_, _, _, _, _, q⟩ <;> rw [q]
      exact mem_moveR
    have hsk2 : ∀ a ∈ sk (nextP x), a ∈ sk x := fun a ha => by
      obtain ⟨p, hp, rfl⟩ := List.mem_map.1 ha
      exact firstR_sub.subset (List.mem_map.2 ⟨p, (hround p).1 hp, rfl⟩)
    have hpos : ∀ j, j < ws.length → 1 ≤ lg lf j := fun j hj => by
      have := h.pot j hj
      have h1 := turns_pos (sk x) x.socket x.passes (wg ws j).2
      omega
    refine ⟨k, hk, ?_, ?_, hpos, ?_⟩
    · rw [how, hft]
    · rw [hks]; exact hkf
    · show OI (n + 1) (nextP x) (ws.eraseIdx k) ((less lf).eraseIdx k)
      have hlen2 : (ws.eraseIdx k).length = ws.length - 1 := by rw [List.length_eraseIdx, if_pos hk]
      have hlk : k < lf.length := by rw [h.len]; exact hk
      have hll : (less lf).length = lf.length := List.length_map _
      refine ⟨hok, hsm.more (Nat.le_succ _), hps, fun _ => by rw [hsock]; exact hs5, fun a ha => h.sr a (hsk2 a ha), ?_, ?_, ?_, ?_, ?_, ?_, ?_⟩
      · intro p hp
        rcases firstR_mem2 h.ok.nodup hi ((hround p).1 hp) with ⟨q1, q2⟩ | ⟨rfl, _⟩
        · rw [hs'] at q2
          rw [he2 _ q2]
          exact h.rows p q1
        · show (rg x.round i).2.tail = (ofS (ws.eraseIdx k) (rg x.round i).1).map (·.1)
          rw [htl, hs']
      · intro w hw
        have hwm : w ∈ ws := List.mem_of_mem_eraseIdx hw
        obtain ⟨p, hp, e⟩ := List.mem_map.1 (h.all w hwm)
        by_cases hws : w.2 = s'
        · have hin : w ∈ ofS (ws.eraseIdx k) s' := List.mem_filter.2 ⟨hw, by simp [hws]⟩
          have htn : (rg x.round i).2.tail ≠ [] := by
            rw [htl]
            intro e
            rw [List.map_eq_nil_iff.1 e] at hin
            simp at hin
          exact List.mem_map.2 ⟨_, (hround _).2 (firstR_mem4 hi htn), by rw [hws]; exact hs'⟩
        · exact List.mem_map.2 ⟨p, (hround _).2 (firstR_mem3 hi hp (by rw [hs', e]; exact hws)), e⟩
      · rw [map_eraseIdx]; exact (List.eraseIdx_sublist _ _).nodup h.nd
      · rw [List.length_eraseIdx, hll, if_pos hlk, hlen2, h.len]
      · rw [hlen2]; have := h.wl; omega
      · intro j hj
        rw [hlen2] at hj
        have hnd2 : (sk (nextP x)).Nodup := hok.nodup
        have h21 : turns (sk (nextP x)) (nextP x).socket (nextP x).passes s' ≤ 21 := turns_le hnd2 (fun a ha => h.sr a (hsk2 a ha)) hs5 (by rw [hsock]; exact hs5) hok.pass
        rcases Nat.lt_or_ge j k with hjk | hjk
        · rw [wg_erase hjk, lg_erase hjk, lg_less (by rw [h.len]; omega)]
          have ha : ahd (ws.eraseIdx k) (wg ws j).2 j = ahd ws (wg ws j).2 j := by
            unfold ahd
            rw [show (ws.eraseIdx k).take j = ws.take j from by
              rw [List.eraseIdx_eq_take_drop_succ, List.take_append_of_le_length (by rw [List.length_take]; omega), List.take_take, Nat.min_eq_left (Nat.le_of_lt hjk)]]
          rw [ha]
          have hm : (wg ws j).2 ∈ sk x := h.all _ (by rw [wg_at (by omega)]; exact List.getElem_mem _)
          have ht := turns_next h.ok h.sr hc5 hnc hm (by rw [hs']; exact hkf j hjk)
          have := h.pot j (by omega)
          omega
        · rw [wg_erase2 hjk, lg_erase2 hjk, lg_less (by rw [h.len]; omega)]
          have hm : (wg ws (j + 1)).2 ∈ sk x := h.all _ (by rw [wg_at (by omega)]; exact List.getElem_mem _)
          have hp := h.pot (j + 1) (by omega)
          have hwt : ∀ i, i < j + 1 → wg (ws.take (j + 1)) i = wg ws i := fun i hi => by
            unfold wg; rw [List.getD_eq_getElem?_getD, List.getD_eq_getElem?_getD, List.getElem?_take, if_pos hi]
          have hkt : k < (ws.take (j + 1)).length := by rw [List.length_take]; omega
          obtain ⟨t1, t2⟩ := ofS_erase (s := s') hkt (by rw [hwt k (by omega)]; exact hks) (fun i hi => by rw [hwt i (by omega)]; exact hkf i hi)
          by_cases hws : (wg ws (j + 1)).2 = s'
          · have ha : ahd (ws.eraseIdx k) (wg ws (j + 1)).2 j + 1 = ahd ws (wg ws (j + 1)).2 (j + 1) := by
              unfold ahd
              rw [take_erase _ hjk, hws, t1, List.length_cons]
            have h1 := turns_pos (sk x) x.socket x.passes (wg ws (j + 1)).2
            rw [hws] at ha hp h1 ⊢
            omega
          · have ha : ahd (ws.eraseIdx k) (wg ws (j + 1)).2 j = ahd ws (wg ws (j + 1)).2 (j + 1) := by
              unfold ahd
              rw [take_erase _ hjk, t2 _ hws]
            have ht := turns_next h.ok h.sr hc5 hnc hm (by rw [hs']; exact hws)
            rw [ha]
            omega
      · intro v hv
        have hv2 := List.mem_of_mem_eraseIdx hv
        obtain ⟨u, hu, rfl⟩ := List.mem_map.1 hv2
        have := h.big u hu
        omega
end
end Go.Proofs.Ytgiimdoabkcoaaa.Co
