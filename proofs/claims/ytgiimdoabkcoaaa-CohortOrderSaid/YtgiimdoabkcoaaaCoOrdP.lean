/-
Of one socket's tasks those that waited earlier are told earlier; who waits is told within the bound: plain.
-/
import Derived.Test.YtgiimdoabkcoaaaCoOrdL
namespace Go.Proofs.Ytgiimdoabkcoaaa.Co
set_option linter.unusedVariables false
set_option linter.unusedSimpArgs false
abbrev Wt := Int × Int
def wg (ws : List Wt) (i : Nat) : Wt := ws.getD i (0, 0)
def lg (lf : List Int) (i : Nat) : Int := lf.getD i 0
def sk (x : LS) : List Int := x.round.map (·.1)
def ofS (ws : List Wt) (s : Int) : List Wt := ws.filter (fun w => decide (w.2 = s))
def ahd (ws : List Wt) (s : Int) (i : Nat) : Nat := (ofS (ws.take i) s).length
structure OI (n : Nat) (x : LS) (ws : List Wt) (lf : List Int) : Prop where
  ok : Ok x
  sm : Sm n x
  ps : x.passes ≤ (n : Int)
  so : x.held = true → 0 ≤ x.socket ∧ x.socket ≤ 5
  sr : ∀ a ∈ sk x, 0 ≤ a ∧ a ≤ 5
  rows : ∀ p ∈ x.round, p.2 = (ofS ws p.1).map (·.1)
  all : ∀ w ∈ ws, w.2 ∈ sk x
  nd : (ws.map (·.1)).Nodup
  len : lf.length = ws.length
  wl : ws.length ≤ n
  pot : ∀ i, i < ws.length → ((24 * ahd ws (wg ws i).2 i + turns (sk x) x.socket x.passes (wg ws i).2 : Nat) : Int) ≤ lg lf i
  big : ∀ v ∈ lf, v ≤ 2000
section
variable {r : List Rw} {i n : Nat} {x : LS} {ws : List Wt} {lf : List Int} {t s c : Int} {p : Rw}
theorem wg_at (h : i < ws.length) : wg ws i = ws[i] := by simp [wg, h]
theorem lg_at (h : i < lf.length) : lg lf i = lf[i] := by simp [lg, h]
theorem fst_ne (hn : (r.map (·.1)).Nodup) (hi : i < r.length) {j : Nat} (hj : j < r.length) (hji : j ≠ i) : (r[j]).1 ≠ (rg r i).1 := by
  intro e
  refine hji (nodup_inj hn (i := j) (j := i) (by simpa using hj) (by simpa using hi) ?_)
  rw [rg_at hi] at e
  simpa using e
theorem firstR_mem2 (hn : (r.map (·.1)).Nodup) (hi : i < r.length) (hp : p ∈ firstR r i) : (p ∈ r ∧ p.1 ≠ (rg r i).1) ∨ (p = ((rg r i).1, (rg r i).2.tail) ∧ (rg r i).2.tail ≠ []) := by
  unfold firstR at hp
  split at hp
  · obtain ⟨j, hji, hj⟩ := List.mem_eraseIdx_iff_getElem?.1 hp
    obtain ⟨hjl, rfl⟩ := List.getElem?_eq_some_iff.1 hj
    exact .inl ⟨List.getElem_mem _, fst_ne hn hi hjl hji⟩
  · rename_i hne
    obtain ⟨j, hj, rfl⟩ := List.getElem_of_mem hp
    rw [List.length_set] at hj
    rw [List.getElem_set]
    split
    · exact .inr ⟨rfl, hne⟩
    · rename_i hij
      exact .inl ⟨List.getElem_mem _, fst_ne hn hi hj (fun e => hij e.symm)⟩
theorem firstR_mem3 (hi : i < r.length) (hp : p ∈ r) (hs : p.1 ≠ (rg r i).1) : p ∈ firstR r i := by
  obtain ⟨j, hj, rfl⟩ := List.getElem_of_mem hp
  have hji : j ≠ i := fun e => by subst e; rw [rg_at hj] at hs; exact hs rfl
  unfold firstR
  split
  · exact List.mem_eraseIdx_iff_getElem?.2 ⟨j, hji, List.getElem?_eq_getElem hj⟩
  · refine List.mem_iff_getElem?.2 ⟨j, ?_⟩
    rw [List.getElem?_set_ne (fun e => hji e.symm)]
    exact List.getElem?_eq_getElem hj
theorem firstR_mem4 (hi : i < r.length) (ht : (rg r i).2.tail ≠ []) : ((rg r i).1, (rg r i).2.tail) ∈ firstR r i := by
  unfold firstR
  rw [if_neg ht]
  exact List.mem_iff_getElem?.2 ⟨i, List.getElem?_set_self hi⟩
theorem eraseIdx_ne : ∀ {l : List Int} {i : Nat}, l.Nodup → (hi : i < l.length) → l.eraseIdx i = l.filter (ne l[i])
  | [], _, _, hi => by simp at hi
  | a :: l, 0, hn, _ => by
    have ha := (List.nodup_cons.1 hn).1
    show l = _
    rw [List.getElem_cons_zero, List.filter_cons_of_neg (by simp [ne])]
    have hf : ∀ x ∈ l, ne a x = true := fun x hx => ne_iff.2 (fun e => ha (by rw [← e]; exact hx))
    exact (List.filter_eq_self.2 hf).symm
  | a :: l, i + 1, hn, hi => by
    have ha := (List.nodup_cons.1 hn).1
    have hil : i < l.length := by simpa using hi
    show a :: l.eraseIdx i = _
    rw [List.getElem_cons_succ, List.filter_cons_of_pos (ne_iff.2 (fun e => ha (by rw [e]; exact List.getElem_mem _))), eraseIdx_ne (List.nodup_cons.1 hn).2 hil]
theorem sk_firstR (hn : (r.map (·.1)).Nodup) (hi : i < r.length) : (firstR r i).map (·.1) = r.map (·.1) ∨ (firstR r i).map (·.1) = (r.map (·.1)).filter (ne (rg r i).1) := by
  unfold firstR
  split
  · right
    rw [map_eraseIdx, eraseIdx_ne hn (by simpa using hi), rg_at hi]
    simp
  · left
    apply List.ext_getElem?
    intro j
    simp only [List.getElem?_map, List.getElem?_set]
    by_cases e : i = j
    · subst e
      simp [hi, rg_at hi]
    · simp [e]
theorem sk_moveR (hn : (r.map (·.1)).Nodup) : (moveR r c).map (·.1) = moveL (r.map (·.1)) c := by
  unfold moveR moveL
  cases h : rowI r c with
  | none =>
    rw [if_neg]
    intro hc
    obtain ⟨p, hp, e⟩ := List.mem_map.1 hc
    exact rowI_none h p hp e
  | some k =>
    obtain ⟨hk, hks⟩ := rowI_some h
    have hc : c ∈ r.map (·.1) := List.mem_map.2 ⟨_, rg_mem hk, hks⟩
    rw [if_pos hc]
    show (r.eraseIdx k ++ [rg r k]).map (·.1) = _
    rw [List.map_append, map_eraseIdx, eraseIdx_ne hn (by simpa using hk)]
    have : (r.map (·.1))[k]'(by simpa using hk) = c := by rw [List.getElem_map, ← rg_at hk]; exact hks
    rw [this]
    simp [hks]
theorem offI_find (h : offI r c = some i) : (r.map (·.1)).find? (ne c) = some (rg r i).1 := by
  obtain ⟨h1, h2, h3⟩ := List.findIdx?_eq_some_iff_getElem.1 h
  rw [List.find?_eq_some_iff_getElem]
  refine ⟨ne_iff.2 (offI_some h).2, i, by simpa using h1, ?_, fun j hj => ?_⟩
  · rw [List.getElem_map, rg_at h1]
  · have := h3 j hj
    simp only [List.getElem_map, ne]
    simpa using this
/-- behind a hand-off another socket is a turn nearer. -/
theorem turns_next (ho : Ok x) (hs5 : ∀ a ∈ sk x, 0 ≤ a ∧ a ≤ 5) (hc5 : 0 ≤ x.socket ∧ x.socket ≤ 5) (hn : NextCase x i) (hs : s ∈ sk x) (hne : s ≠ (rg x.round i).1) :
    turns (sk (nextP x)) (nextP x).socket (nextP x).passes s + 1 ≤ turns (sk x) x.socket x.passes s := by
  obtain ⟨hi, _, _, hc⟩ := hn
  have hnd : (sk x).Nodup := ho.nodup
  have hM := sk_firstR ho.nodup hi
  rcases hc with ⟨q1, q2, q3, q4, q5⟩ | ⟨q1, q2, q3, q4, q5, q6⟩
  · have hsk : sk (nextP x) = (firstR x.round i).map (·.1) := by unfold sk; rw [q5]
    rw [q1] at hM hne
    have hlen : 2 ≤ x.round.length := by
      have h1 : ([s, x.socket] : List Int).Nodup := by simp [hne]
      have hcm : x.socket ∈ sk x := by rw [← q1]; exact List.mem_map.2 ⟨_, rg_mem hi, rfl⟩
      match hr : x.round with
      | [] => rw [hr] at hi; simp at hi
      | [a] =>
        exfalso
        unfold sk at hs hcm
        rw [hr] at hs hcm
        simp at hs hcm
        exact hne (hs.trans hcm.symm)
      | a :: b :: l => simp
    have hp : x.passes < 3 := q2.resolve_right (by omega)
    have hb := before_stay (L := sk x) (M := sk (nextP x)) hne (by rw [hsk]; exact hM)
    have hp0 := ho.pass
    rw [q3, q4]
    unfold turns
    rw [if_neg hne, if_neg hne, hb]
    omega
  · have hsk : sk (nextP x) = moveL ((firstR x.round i).map (·.1)) x.socket := by unfold sk; rw [q6]; exact sk_moveR (firstR_sub.nodup ho.nodup)
    have hf := offI_find q2
    have ha5 : 0 ≤ (rg x.round i).1 ∧ (rg x.round i).1 ≤ 5 := hs5 _ (List.mem_map.2 ⟨_, rg_mem hi, rfl⟩)
    rw [q4, q5]
    by_cases hsc : s = x.socket
    · have hp : ¬ x.passes < 3 := by
        rcases q3 with q3 | q3
        · exfalso
          obtain ⟨p, hp, e⟩ := List.mem_map.1 hs
          exact rowI_none q3 p hp (e.trans hsc)
        · exact fun e => q3 (.inl e)
      have hnd2 : (sk (nextP x)).Nodup := by
        unfold sk; rw [q6]; exact moveR_nodup (firstR_sub.nodup ho.nodup)
      have hb5 : ∀ a ∈ sk (nextP x), 0 ≤ a ∧ a ≤ 5 := fun a ha => by
        unfold sk at ha
        rw [q6] at ha
        obtain ⟨p, hp, rfl⟩ := List.mem_map.1 ha
        exact hs5 _ (firstR_sub.subset (List.mem_map.2 ⟨p, mem_moveR.1 hp, rfl⟩))
      have hble := before_le hnd2 hb5 (hs5 s hs) ha5 hne
      unfold turns
      rw [if_neg hne, if_pos hsc, if_neg hp]
      omega
    · have hb := before_move (M := (firstR x.round i).map (·.1)) hnd hf hs hsc hne hM
      rw [← hsk] at hb
      unfold turns
      rw [if_neg hne, if_neg hsc]
      have hp0 := ho.pass
      omega
theorem ofS_append : ofS (ws ++ [(t, s)]) c = if s = c then ofS ws c ++ [(t, s)] else ofS ws c := by
  unfold ofS
  rw [List.filter_append]
  by_cases h : s = c
  · simp [h]
  · simp [h]
theorem oi0 : OI 0 ls0 [] [] := ⟨⟨by simp [ls0], by simp [ls0], by simp [ls0], by simp [ls0]⟩, ⟨by simp [ls0], by simp [ls0]⟩, by simp [ls0], by simp [ls0], by simp [ls0, sk], by simp [ls0], by simp, by simp, rfl, Nat.le_refl _, by simp, by simp⟩
theorem OI.more (h : OI n x ws lf) : OI (n + 1) x ws lf := ⟨h.ok, h.sm.more (Nat.le_succ _), by have := h.ps; omega, h.so, h.sr, h.rows, h.all, h.nd, h.len, Nat.le_succ_of_le h.wl, h.pot, h.big⟩
theorem OI.none (h : OI n x ws lf) (hh : x.held = false) : ws = [] := by
  have hr := h.ok.none hh
  match ws, h.all with
  | [], _ => rfl
  | w :: _, ha =>
    have := ha w (by simp)
    unfold sk at this
    rw [hr] at this
    simp at this
/-- Take: who is refused, or given the lock, changes nothing of who waits. -/
theorem OI.take (h : OI n x ws lf) (hs : 0 ≤ s ∧ s ≤ 5) (hn : n ≤ 80) :
    OI (n + 1) (takeP x t s).1 (if (takeP x t s).2.2 = 0 ∧ (takeP x t s).2.1 = false then ws ++ [(t, s)] else ws) (if (takeP x t s).2.2 = 0 ∧ (takeP x t s).2.1 = false then lf ++ [((24 * ((ofS ws s).length + 1) : Nat) : Int)] else lf) := by
  have hok := take_ok (t := t) (s := s) h.ok
  have hsm := take_sm (t := t) (s := s) h.sm
  have hps := take_pass (t := t) (s := s) h.ps
  unfold takeP at *
  split
  · rename_i h1
    rw [if_neg (by simp), if_neg (by simp)]; exact h.more
  · rename_i h1
    rw [if_neg h1] at hok hsm hps
    split
    · rw [if_neg (by simp), if_neg (by simp)]; exact h.more
    · rename_i h2
      rw [if_neg h2] at hok hsm hps
      split
      · rw [if_neg (by simp), if_neg (by simp)]; exact h.more
      · rename_i h3
        rw [if_neg h3] at hok hsm hps
        split
        · rename_i h4
          rw [if_pos h4] at hok hsm hps
          rw [if_neg (by simp), if_neg (by simp)]
          have hw := h.none h4
          have hr := h.ok.none h4
          subst hw
          refine ⟨hok, hsm, by omega, fun _ => hs, ?_, ?_, by simp, by simp, h.len, Nat.zero_le _, by simp, h.big⟩
          · unfold sk; simp [hr]
          · simp [hr]
        · rename_i h4
          rw [if_neg h4] at hok hsm hps
          rw [if_pos ⟨rfl, rfl⟩, if_pos ⟨rfl, rfl⟩]
          have hh : x.held = true := by cases q : x.held with
            | true => rfl
            | false => exact absurd q h4
          have hc5 := h.so hh
          have hnew : t ∉ ws.map (·.1) := by
            intro ht
            obtain ⟨w, hw, rfl⟩ := List.mem_map.1 ht
            obtain ⟨p, hp, e⟩ := List.mem_map.1 (h.all w hw)
            refine h3 ?_
            unfold waitsB
            refine List.any_eq_true.2 ⟨p, hp, List.contains_iff_mem.2 ?_⟩
            rw [h.rows p hp]
            exact List.mem_map.2 ⟨w, List.mem_filter.2 ⟨hw, by simp [e]⟩, rfl⟩
          -- the sockets behind it
          have hsk : (addP x.round s t).map (·.1) = sk x ∨ (s ∉ sk x ∧ (addP x.round s t).map (·.1) = sk x ++ [s]) := by
            unfold addP
            cases hr : rowI x.round s with
            | none =>
              right
              refine ⟨fun hm => ?_, by simp [sk]⟩
              obtain ⟨p, hp, e⟩ := List.mem_map.1 hm
              exact rowI_none hr p hp e
            | some k =>
              left
              obtain ⟨hk, _⟩ := rowI_some hr
              unfold sk addAt
              apply List.ext_getElem?
              intro j
              simp only [List.getElem?_map, List.getElem?_set]
              by_cases e : k = j
              · subst e
                simp [hk, rg_at hk]
              · simp [e]
          have hsm2 : s ∈ (addP x.round s t).map (·.1) := by
            rcases hsk with q | ⟨_, q⟩
            · unfold addP
              cases hr : rowI x.round s with
              | none => simp
              | some k =>
                obtain ⟨hk, hks⟩ := rowI_some hr
                exact List.mem_map.2 ⟨((rg x.round k).1, (rg x.round k).2 ++ [t]), List.mem_iff_getElem?.2 ⟨k, List.getElem?_set_self hk⟩, hks⟩
            · rw [q]; simp
          have hold : ∀ a ∈ sk x, a ∈ (addP x.round s t).map (·.1) := fun a ha => by
            rcases hsk with q | ⟨_, q⟩ <;> rw [q]
            · exact ha
            · exact List.mem_append_left _ ha
          have hsr : ∀ a ∈ (addP x.round s t).map (·.1), 0 ≤ a ∧ a ≤ 5 := fun a ha => by
            rcases hsk with q | ⟨_, q⟩ <;> rw [q] at ha
            · exact h.sr a ha
            · rcases List.mem_append.1 ha with ha | ha
              · exact h.sr a ha
              · rw [List.mem_singleton.1 ha]; exact hs
          have hturn : ∀ a ∈ sk x, turns ((addP x.round s t).map (·.1)) x.socket x.passes a = turns (sk x) x.socket x.passes a := fun a ha => by
            rcases hsk with q | ⟨_, q⟩ <;> rw [q]
            exact turns_append ha
          refine ⟨hok, hsm, by omega, fun _ => hc5, hsr, ?_, ?_, ?_, ?_, ?_, ?_, ?_⟩
          · -- rows
            intro p hp
            show p.2 = (ofS (ws ++ [(t, s)]) p.1).map (·.1)
            rw [ofS_append]
            unfold addP at hp
            cases hr : rowI x.round s with
            | none =>
              rw [hr] at hp
              have hno : ofS ws s = [] := by
                refine List.filter_eq_nil_iff.2 (fun w hw e => ?_)
                obtain ⟨p', hp', e'⟩ := List.mem_map.1 (h.all w hw)
                exact rowI_none hr p' hp' (e'.trans (by simpa using e))
              rcases List.mem_append.1 hp with q | q
              · rw [if_neg (fun e => rowI_none hr p q e.symm)]
                exact h.rows p q
              · rw [List.mem_singleton.1 q, if_pos rfl, hno]; rfl
            | some k =>
              rw [hr] at hp
              obtain ⟨hk, hks⟩ := rowI_some hr
              have hp2 : p ∈ x.round.set k ((rg x.round k).1, (rg x.round k).2 ++ [t]) := hp
              clear hp
              obtain ⟨j, hj, rfl⟩ := List.getElem_of_mem hp2
              have hj' : j < x.round.length := by simpa using hj
              rw [List.getElem_set]
              split
              · rw [hks, if_pos rfl, h.rows _ (rg_mem hk), hks, List.map_append]; rfl
              · rename_i hkj
                have hne := fst_ne h.ok.nodup hk hj' (fun e => hkj e.symm)
                rw [hks] at hne
                rw [if_neg (fun e => hne e.symm)]
                exact h.rows _ (List.getElem_mem _)
          · intro w hw
            rcases List.mem_append.1 hw with q | q
            · exact hold _ (h.all w q)
            · rw [List.mem_singleton.1 q]; exact hsm2
          · rw [List.map_append, List.nodup_append]
            refine ⟨h.nd, by simp, fun a ha b hb => ?_⟩
            simp at hb
            rintro rfl
            rw [hb] at ha
            exact hnew ha
          · simp [h.len]
          · simp; exact h.wl
          · intro i hi
            rw [List.length_append, List.length_singleton] at hi
            rcases Nat.lt_or_ge i ws.length with hlt | hge
            · have hw : wg (ws ++ [(t, s)]) i = wg ws i := by unfold wg; rw [List.getD_eq_getElem?_getD, List.getD_eq_getElem?_getD, List.getElem?_append_left hlt]
              have hl : lg (lf ++ [((24 * ((ofS ws s).length + 1) : Nat) : Int)]) i = lg lf i := by unfold lg; rw [List.getD_eq_getElem?_getD, List.getD_eq_getElem?_getD, List.getElem?_append_left (by rw [h.len]; exact hlt)]
              have ha : ahd (ws ++ [(t, s)]) (wg ws i).2 i = ahd ws (wg ws i).2 i := by unfold ahd; rw [List.take_append_of_le_length (Nat.le_of_lt hlt)]
              have hm : (wg ws i).2 ∈ sk x := h.all _ (by rw [wg_at hlt]; exact List.getElem_mem _)
              rw [hw, hl, ha]
              have := h.pot i hlt
              have ht := hturn _ hm
              show ((24 * ahd ws (wg ws i).2 i + turns ((addP x.round s t).map (·.1)) x.socket x.passes (wg ws i).2 : Nat) : Int) ≤ _
              rw [ht]
              exact this
            · obtain rfl : i = ws.length := by omega
              have hw : wg (ws ++ [(t, s)]) ws.length = (t, s) := by unfold wg; rw [List.getD_eq_getElem?_getD, List.getElem?_append_right (Nat.le_refl _), Nat.sub_self]; rfl
              have hl : lg (lf ++ [((24 * ((ofS ws s).length + 1) : Nat) : Int)]) ws.length = ((24 * ((ofS ws s).length + 1) : Nat) : Int) := by unfold lg; rw [List.getD_eq_getElem?_getD, List.getElem?_append_right (by rw [h.len]; exact Nat.le_refl _), h.len, Nat.sub_self]; rfl
              have ha : ahd (ws ++ [(t, s)]) s ws.length = (ofS ws s).length := by unfold ahd; rw [List.take_append_of_le_length (Nat.le_refl _), List.take_length]
              rw [hw, hl]
              show ((24 * ahd (ws ++ [(t, s)]) s ws.length + turns ((addP x.round s t).map (·.1)) x.socket x.passes s : Nat) : Int) ≤ _
              rw [ha]
              have := turns_le (p := x.passes) (c := x.socket) hok.nodup hsr hs hc5 h.ok.pass
              have h21 : turns ((addP x.round s t).map (·.1)) x.socket x.passes s ≤ 21 := this
              omega
          · intro v hv
            rcases List.mem_append.1 hv with q | q
            · exact h.big v q
            · rw [List.mem_singleton.1 q]
              have : (ofS ws s).length ≤ ws.length := List.length_filter_le _ _
              have := h.wl
              omega
end
end Go.Proofs.Ytgiimdoabkcoaaa.Co
