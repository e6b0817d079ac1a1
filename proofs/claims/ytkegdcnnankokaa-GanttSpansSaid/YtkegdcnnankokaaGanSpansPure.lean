/-
Who ran where, from when to when, plain: the document's answer is the same row of spans.
-/
import Derived.Test.YtkegdcnnankokaaGanLives
import Derived.Test.YtkegdcnnankokaaSpansSpec
namespace Go.Proofs.Ytkegdcnnankokaa.PGan
set_option linter.unusedVariables false
set_option linter.unusedSimpArgs false
open Go.RowKit Go.Proofs.YtkegdcnnankokaaW.PrintWords Go.Proofs.YtkegdcnnankokaaW.PrintLast Go.Proofs.YtkegdcnnankokaaW.PrintMore
/-- a span that was begun ahead of i, m events later. -/
def spFrom (l : List S36) : Nat → Nat → S27 → S27
  | _, 0, s => s
  | i, m + 1, s => spFrom l (i + 1) m (match l[i]? with | some e => spStep l.length i e s | none => s)
theorem spFrom_step {l : List S36} {i : Nat} {e : S36} (h : l[i]? = some e) (m : Nat) (s : S27) : spFrom l i (m + 1) s = spFrom l (i + 1) m (spStep l.length i e s) := by
  simp only [spFrom, h]
theorem spFrom_done (l : List S36) : ∀ (m i : Nat) (s : S27), s.f3 ≠ (l.length : Int) → spFrom l i m s = s
  | 0, _, _, _ => rfl
  | m + 1, i, s, h => by
    have e : (match l[i]? with | some e => spStep l.length i e s | none => s) = s := by
      split
      · unfold spStep; rw [if_neg (fun q => h q.1)]
      · rfl
    rw [spFrom, e]
    exact spFrom_done l m (i + 1) s h
section
variable (l : List S36) (R : List S27)
theorem ref_l1 (hl : l.length ≤ 60) (x3 : List S27) (hx : x3.length ≤ 60) (i : Nat) (hi : i < l.length) (b0 b3 b4 : Int) : ∀ (d k : Nat) (s : S27), l.length - k = d → k ≤ l.length → (0 ≤ s.f4 ∧ s.f4 ≤ (k : Int)) →
    EvP (fun K => pinfoldref30_Spans.l0 K l (x3 ++ [spFrom l k d s]) l (l.length : Int) ((i + 1 : Nat) : Int)) (· = R) →
    EvP (fun K => pinfoldref30_Spans.l1 K l x3 (k : Int) l (l.length : Int) (i : Int) b0 s.f0 s.f1 b3 b4 s.f0 s.f1 s.f2 s.f3 s.f4) (· = R) := by
  intro d
  induction d with
  | zero =>
    intro k s hd hk hs next
    obtain rfl : k = l.length := by omega
    refine EvP.succ ?_
    simp only [pinfoldref30_Spans.l1]
    refine EvP.neg (by omega) (EvP.succ ?_)
    simp only [pinfoldref30_Spans.j2]
    refine EvP.neg (by simp) (EvP.pos (by omega) ?_)
    rw [wrap_up (by omega)]
    exact next
  | succ d ih =>
    intro k s hd hk hs next
    have hkl : k < l.length := by omega
    have hx2 : rd_T36 l (k : Int) = l[k] := by simp [rd_T36, hkl]
    have hg : l[k]? = some l[k] := List.getElem?_eq_getElem hkl
    refine EvP.succ ?_
    simp only [pinfoldref30_Spans.l1]
    refine EvP.pos (by omega) (EvP.succ ?_)
    simp only [pinfoldref30_Spans.j2]
    by_cases h3 : s.f3 = (l.length : Int)
    · rw [spFrom_step hg] at next
      refine EvP.pos (by simpa using h3) (EvP.pos (by omega) (EvP.pos (by omega) ?_))
      rw [hx2]
      have hw : wrap64 ((k : Int) + 1) = ((k + 1 : Nat) : Int) := wrap_up (by omega)
      have hw4 : wrap64 (s.f4 + 1) = s.f4 + 1 := wrap_nat (by omega) (by omega)
      have stay : spStep l.length k l[k] s = s → EvP (fun K => pinfoldref30_Spans.l1 K l x3 ((k + 1 : Nat) : Int) l (l.length : Int) (i : Int) b0 s.f0 s.f1 b3 b4 s.f0 s.f1 s.f2 s.f3 s.f4) (· = R) := fun he => by
        rw [he] at next
        exact ih (k + 1) s (by omega) (by omega) ⟨hs.1, by omega⟩ next
      by_cases h1 : l[k].f1 = s.f0
      · by_cases h2 : l[k].f2 = s.f1
        · refine EvP.pos h1 (EvP.pos h2 (EvP.succ ?_))
          simp only [pinfoldref30_Spans.j3]
          rw [hw]
          have he : spStep l.length k l[k] s = if l[k].f0 = 4 then { s with f3 := (k : Int) } else if l[k].f0 = 3 then { s with f4 := s.f4 + 1 } else s := by
            unfold spStep; rw [if_pos ⟨h3, h1.symm, h2.symm⟩]
          by_cases h4 : l[k].f0 = 4
          · refine EvP.pos (by simpa using h4) (EvP.pos h1 (EvP.pos h2 (EvP.neg (by omega) ?_)))
            rw [he, if_pos h4] at next
            exact ih (k + 1) { s with f3 := (k : Int) } (by omega) (by omega) ⟨hs.1, by show s.f4 ≤ _; omega⟩ next
          · refine EvP.neg (by simpa using h4) (EvP.pos h1 (EvP.pos h2 (EvP.ite (fun h5 => ?_) (fun h5 => ?_))))
            · rw [he, if_neg h4, if_pos h5] at next
              rw [hw4]
              exact ih (k + 1) { s with f4 := s.f4 + 1 } (by omega) (by omega) ⟨by show (0 : Int) ≤ s.f4 + 1; omega, by show s.f4 + 1 ≤ _; omega⟩ next
            · exact stay (by rw [he, if_neg h4, if_neg h5])
        · refine EvP.pos h1 (EvP.neg h2 (EvP.succ ?_))
          simp only [pinfoldref30_Spans.j3]
          rw [hw]
          refine EvP.neg (by simp) (EvP.pos h1 (EvP.neg h2 ?_))
          exact stay (by unfold spStep; rw [if_neg (fun q => h2 q.2.2.symm)])
      · refine EvP.neg h1 (EvP.succ ?_)
        simp only [pinfoldref30_Spans.j3]
        rw [hw]
        refine EvP.neg (by simp) (EvP.neg h1 ?_)
        exact stay (by unfold spStep; rw [if_neg (fun q => h1 q.2.1.symm)])
    · rw [spFrom_done l _ _ s h3] at next
      refine EvP.neg (by simpa using h3) (EvP.pos (by omega) ?_)
      rw [wrap_up (by omega)]
      exact next
theorem ref_l0 (hl : l.length ≤ 60) : ∀ (d i : Nat), l.length - i = d → i ≤ l.length → EvP (fun K => pinfoldref30_Spans.l0 K l ((outsTo l i).map (spFrom l i d)) l (l.length : Int) (i : Int)) (· = spansP l) := by
  intro d
  induction d with
  | zero =>
    intro i hd hi
    obtain rfl : i = l.length := by omega
    refine EvP.succ ?_
    simp only [pinfoldref30_Spans.l0]
    refine EvP.neg (by omega) (EvP.now ?_)
    have : (spFrom l l.length 0) = id := rfl
    rw [this, List.map_id]
    rfl
  | succ d ih =>
    intro i hd hi
    have hil : i < l.length := by omega
    have st := ih (i + 1) (by omega) (by omega)
    have hg : l[i]? = some l[i] := List.getElem?_eq_getElem hil
    have hx : rd_T36 l (i : Int) = l[i] := by simp [rd_T36, hil]
    have hw : wrap64 ((i : Int) + 1) = ((i + 1 : Nat) : Int) := wrap_up (by omega)
    have hm : (outsTo l i).map (spFrom l i (d + 1)) = ((outsTo l i).map (spStep l.length i l[i])).map (spFrom l (i + 1) d) := by
      rw [List.map_map]
      apply List.map_congr_left
      intro s _
      exact spFrom_step hg d s
    rw [outsTo_succ hg] at st
    unfold outStep at st
    refine EvP.succ ?_
    simp only [pinfoldref30_Spans.l0]
    rw [hx, hw, hm]
    refine EvP.pos (by omega) (EvP.pos (by omega) (EvP.pos (by omega) (EvP.ite (fun h2 => ?_) (fun h2 => ?_))))
    · rw [if_pos h2, List.map_append] at st
      have hlen := (small_to l i).1
      exact ref_l1 l (spansP l) hl _ (by simp; omega) i hil _ _ _ d (i + 1) ⟨l[i].f1, l[i].f2, i, l.length, 0⟩ (by omega) (by omega) ⟨by simp, by show (0 : Int) ≤ _; omega⟩ st
    · rw [if_neg h2, List.append_nil] at st
      exact st
theorem ref_spans (hl : l.length ≤ 60) : EvP (fun K => pinfoldref30_Spans.f K l) (· = spansP l) := by
  have h := ref_l0 l hl l.length 0 (by omega) (by omega)
  exact h
/-- two rows that are the same are found the same. -/
theorem law_l0 (hR : R.length ≤ 60) : ∀ (d i : Nat), R.length - i = d → i ≤ R.length → EvP (fun K => pinfoldlaw30_GanttSpans.l0 K R R (R.length : Int) (i : Int)) (· = true) := by
  intro d
  induction d with
  | zero =>
    intro i hd hi
    refine EvP.succ ?_
    simp only [pinfoldlaw30_GanttSpans.l0]
    exact EvP.neg (by omega) (EvP.bindS lives_true (EvP.now rfl))
  | succ d ih =>
    intro i hd hi
    have st := ih (i + 1) (by omega) (by omega)
    refine EvP.succ ?_
    simp only [pinfoldlaw30_GanttSpans.l0]
    refine EvP.pos (by omega) (EvP.pos (by omega) (EvP.pos (by omega) (EvP.pos (by omega) (EvP.neg (by simp) ?_))))
    rw [wrap_up (by omega)]
    exact st
end
theorem ganttSpans_f (l : List S36) (hwf : ∀ e ∈ l, (Lit.int .i64 e.f1).wf = true ∧ (Lit.int .i64 e.f2).wf = true) : EvP (fun k => pinfoldlaw30_GanttSpans.f k l) (· = true) := by
  simp only [pinfoldlaw30_GanttSpans.f]
  have hm : 0 ≤ mn (l.length : Int) 60 ∧ mn (l.length : Int) 60 ≤ (l.length : Int) := by unfold mn; split <;> omega
  refine EvP.pos hm.1 (EvP.pos hm.2 (EvP.bindS rfl ?_))
  obtain ⟨L, hL⟩ : ∃ L, l.take (mn (l.length : Int) 60).toNat = L := ⟨_, rfl⟩
  rw [hL]
  have h1 : L.length ≤ 60 := by rw [← hL, List.length_take]; unfold mn; split <;> omega
  have h2 : ∀ e ∈ L, (Lit.int .i64 e.f1).wf = true ∧ (Lit.int .i64 e.f2).wf = true := fun e he => hwf e (List.mem_of_mem_take (hL ▸ he))
  refine EvP.bindS (b := spansP L) (by unfold gantt_Spans.f; rw [if_pos ⟨h1, h2⟩]) (EvP.bind (ref_spans L h1) ?_)
  rintro _ rfl
  exact EvP.pos rfl (law_l0 (spansP L) (Nat.le_trans (small_to L L.length).1 h1) _ 0 rfl (Nat.zero_le _))
end Go.Proofs.Ytkegdcnnankokaa.PGan
