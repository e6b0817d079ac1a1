/-
While another socket waits, at most three hand-offs stay in one: plain.
-/
import Derived.Test.YtgiimdoabkcoaaaCoCX
namespace Go.Proofs.Ytgiimdoabkcoaaa.Co
set_option linter.unusedVariables false
set_option linter.unusedSimpArgs false
def otherB (x : LS) (g : Int → Option Int) (l : List Int) : Bool := l.any (fun t => decide ((g t).getD 0 ≠ x.socket))
/-- what is so at each call: n calls so far; the map tells the sockets; st: how often the lock stayed. -/
structure BI (n : Nat) (x : LS) (g : Int → Option Int) (st : Int) : Prop where
  ok : Ok x
  sm : Sm n x
  ps : x.passes ≤ (n : Int)
  st : st = x.passes
  w : ∀ p ∈ x.round, ∀ t ∈ p.2, g t = some p.1 ∧ 0 ≤ t ∧ t ≤ 1000
  o : x.held = true → g x.owner = some x.socket ∧ 0 ≤ x.owner ∧ x.owner ≤ 1000
  free : x.held = false → x.passes = 0
section
variable {n : Nat} {x : LS} {g : Int → Option Int} {st t s : Int}
theorem bi0 : BI 0 ls0 (fun _ => none) 0 := ⟨⟨by simp [ls0], by simp [ls0], by simp [ls0], by simp [ls0]⟩, ⟨by simp [ls0], by simp [ls0]⟩, by simp [ls0], rfl, by simp [ls0], by simp [ls0], fun _ => rfl⟩
theorem BI.more (h : BI n x g st) : BI (n + 1) x g st := ⟨h.ok, h.sm.more (Nat.le_succ _), by have := h.ps; omega, h.st, h.w, h.o, h.free⟩
theorem BI.take (h : BI n x g st) (ht : 0 ≤ t ∧ t ≤ 1000) : BI (n + 1) (takeP x t s).1 (if (takeP x t s).2.2 = 0 then gset g t (some s) else g) (if (takeP x t s).2.1 = true then 0 else st) := by
  have hok := take_ok (t := t) (s := s) h.ok
  have hsm := take_sm (t := t) (s := s) h.sm
  have hps := take_pass (t := t) (s := s) h.ps
  unfold takeP at *
  split
  · rename_i h1
    rw [if_pos h1] at hok hsm hps
    exact h.more
  · rename_i h1
    rw [if_neg h1] at hok hsm hps
    split
    · exact h.more
    · rename_i h2
      rw [if_neg h2] at hok hsm hps
      split
      · exact h.more
      · rename_i h3
        rw [if_neg h3] at hok hsm hps
        have hnew : ∀ p ∈ x.round, ∀ u ∈ p.2, u ≠ t := by
          intro p hp u hu e
          refine h3 ?_
          unfold waitsB
          exact List.any_eq_true.2 ⟨p, hp, by rw [← e]; exact List.contains_iff_mem.2 hu⟩
        have hold : ∀ p ∈ x.round, ∀ u ∈ p.2, gset g t (some s) u = some p.1 ∧ 0 ≤ u ∧ u ≤ 1000 := by
          intro p hp u hu
          have := h.w p hp u hu
          unfold gset
          rw [if_neg (hnew p hp u hu)]
          exact this
        split
        · rename_i h4
          rw [if_pos h4] at hok hsm hps
          refine ⟨hok, hsm, by omega, ?_, ?_, ?_, ?_⟩
          · simp
          · simp only [if_true]; exact hold
          · intro _
            simp only [if_true]
            unfold gset
            rw [if_pos rfl]
            exact ⟨rfl, ht⟩
          · intro q; cases q
        · rename_i h4
          rw [if_neg h4] at hok hsm hps
          have hh : x.held = true := by cases q : x.held with
            | true => rfl
            | false => exact absurd q h4
          refine ⟨hok, hsm, by omega, ?_, ?_, ?_, ?_⟩
          · simpa using h.st
          · simp only [if_true]
            intro p hp u hu
            rcases addP_mem hp with q | ⟨k, hk, rfl⟩ | ⟨_, rfl⟩
            · exact hold p q u hu
            · rcases List.mem_append.1 hu with q | q
              · have := hold _ (rg_mem (rowI_some hk).1) u q
                rw [(rowI_some hk).2] at this
                exact this
              · rw [List.mem_singleton.1 q]
                unfold gset
                rw [if_pos rfl]
                exact ⟨rfl, ht⟩
            · rw [List.mem_singleton.1 hu]
              unfold gset
              rw [if_pos rfl]
              exact ⟨rfl, ht⟩
          · intro _
            simp only [if_true]
            unfold gset
            rw [if_neg (fun e => h2 ⟨hh, e⟩)]
            exact h.o hh
          · intro q
            exact absurd q (by rw [hh]; simp)
/-- what the statement asks of a hand-off, and what is so behind it. -/
theorem BI.give (h : BI n x g st) (hh : x.held = true) (hl : n + 1 ≤ 1000) : (giveP x x.owner).2.2.2 = 0 ∧
    ((giveP x x.owner).2.2.1 = false → BI (n + 1) (giveP x x.owner).1 g 0) ∧
    ((giveP x x.owner).2.2.1 = true → g (giveP x x.owner).2.1 = some (giveP x x.owner).1.socket ∧ 0 ≤ (giveP x x.owner).2.1 ∧ (giveP x x.owner).2.1 ≤ 1000 ∧
      ((giveP x x.owner).1.socket = x.socket → BI (n + 1) (giveP x x.owner).1 g (st + 1) ∧ (otherB x g (waitingP x) = true → st + 1 ≤ 3)) ∧
      ((giveP x x.owner).1.socket ≠ x.socket → BI (n + 1) (giveP x x.owner).1 g 0)) := by
  have hok := give_ok (t := x.owner) h.ok
  have hsm := give_sm (t := x.owner) h.ok h.sm
  have hps := give_pass (t := x.owner) h.ok h.ps
  unfold giveP at *
  have h1 : ¬ (x.held = false ∨ x.owner ≠ x.owner) := by rw [hh]; simp
  rw [if_neg h1] at hok hsm hps ⊢
  by_cases h2 : x.round = []
  · rw [if_pos h2] at hok hsm hps ⊢
    refine ⟨rfl, fun _ => ⟨hok, hsm.more (Nat.le_succ _), hps, rfl, by simp [ls0], by simp [ls0], fun _ => rfl⟩, fun q => by cases q⟩
  · rw [if_neg h2] at hok hsm hps ⊢
    refine ⟨rfl, fun q => (by cases q), fun _ => ?_⟩
    obtain ⟨i, hi, how, hhe, hc⟩ := next_cases h.ok h2
    have hmem := fun {p : Rw} => next_mem (p := p) h.ok h2 hi (hc.imp (fun q => q.2.2.2.2) (fun q => q.2.2.2.2.2))
    have hfull := h.ok.full _ (rg_mem hi)
    have hhead : firstT x.round i ∈ (rg x.round i).2 := by
      unfold firstT
      match hq : (rg x.round i).2, hfull with
      | a :: l, _ => simp
    obtain ⟨hg, hb⟩ := h.w _ (rg_mem hi) _ hhead
    have hsock : (nextP x).socket = (rg x.round i).1 := by
      rcases hc with ⟨q1, _, q2, _⟩ | ⟨_, _, _, q2, _⟩
      · rw [q2, q1]
      · exact q2
    have hw : ∀ p ∈ (nextP x).round, ∀ u ∈ p.2, g u = some p.1 ∧ 0 ≤ u ∧ u ≤ 1000 := by
      intro p hp u hu
      rcases hmem hp with q | ⟨rfl, _⟩
      · exact h.w p q u hu
      · exact h.w _ (rg_mem hi) u (List.mem_of_mem_tail hu)
    have hbi : ∀ st', st' = (nextP x).passes → BI (n + 1) (nextP x) g st' := fun st' e => ⟨hok, hsm.more (Nat.le_succ _), hps, e, hw, fun _ => by rw [how, hsock]; exact ⟨hg, hb⟩, fun q => absurd (hhe.symm.trans q) (by rw [hh]; simp)⟩
    refine ⟨?_, ?_, ?_, ?_, ?_⟩
    · show g (nextP x).owner = _
      rw [how, hsock]; exact hg
    · show 0 ≤ (nextP x).owner
      rw [how]; exact hb.1
    · show (nextP x).owner ≤ 1000
      rw [how]; exact hb.2
    · intro hsame
      rcases hc with ⟨q1, q2, q3, q4, q5⟩ | ⟨q1, _, _, q2, _⟩
      · refine ⟨hbi _ (by rw [q4, h.st]), fun ho => ?_⟩
        rcases q2 with q2 | q2
        · rw [h.st]; omega
        · exfalso
          unfold otherB waitingP at ho
          obtain ⟨u, hu, hne⟩ := List.any_eq_true.1 ho
          obtain ⟨p, hp, hup⟩ := List.mem_flatMap.1 hu
          have hgu := (h.w p hp u hup).1
          rw [hgu] at hne
          have hp0 : p = rg x.round i := by
            match hr : x.round, q2 with
            | [a], _ =>
              rw [hr] at hp hi
              simp at hi
              subst hi
              rw [List.mem_singleton.1 hp]
              simp [rg]
          rw [hp0, q1] at hne
          simp at hne
      · exact absurd (q2.symm.trans hsame) q1
    · intro hdiff
      rcases hc with ⟨q1, q2, q3, q4, q5⟩ | ⟨q1, _, _, q2, q3, _⟩
      · exact absurd q3 hdiff
      · exact hbi 0 q3.symm
end
end Go.Proofs.Ytgiimdoabkcoaaa.Co
