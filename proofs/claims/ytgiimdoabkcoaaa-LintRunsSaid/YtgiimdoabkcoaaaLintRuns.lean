/-
A run of any program goes on only where Next says, plain: the printed law answers true.
-/
import Derived.Test.YtgiimdoabkcoaaaLintReach
import Derived.Test.YtgiimdoabkcoaaaLintLives
import Derived.Test.YtgiimdoabkcoaaaPLintx8
namespace Go.Proofs.Ytgiimdoabkcoaaa.PLint
set_option linter.unusedVariables false
set_option linter.unusedSimpArgs false
open Go.RowKit Go.Proofs.YtgiimdoabkcoaaaW.PrintWords Go.Proofs.YtgiimdoabkcoaaaW.PrintLast Go.Proofs.YtgiimdoabkcoaaaW.PrintMore
section
variable {prio : Int} {l : List S41}
theorem fine_f3 (hw : W32 l) : ∃ b, pinfoldlaw26_fine.f prio l = some b ∧ (b = true → Valid l ∧ l.length ≤ 30 ∧ (checkS prio (l.map toIns)).1 = 0) := by
  unfold pinfoldlaw26_fine.f
  by_cases h : (l.length : Int) > 30
  · exact ⟨false, by rw [if_pos h], fun e => by cases e⟩
  · refine ⟨(checkS prio (l.map toIns)).1 == 0, ?_, fun e => ⟨valid_of (prio := prio) (by simpa using e), by omega, by simpa using e⟩⟩
    rw [if_neg h]
    unfold pinfoldref09_Check.f
    rw [if_pos (in32B_of hw)]; rfl
/-- where a step goes on, the program may go on. -/
theorem step_goes (hv : Valid l) (p : Nat) (hp : p < l.length) (r : Regs) (h14 : (stepS (toIns l[p]) p r).op ≠ 14) : (stepS (toIns l[p]) p r).pc ∈ nextL l p := by
  obtain ⟨ok1, ok2⟩ := hv.2.1 p hp
  have hlast : p + 1 = l.length → l[p].f0 = 4 ∨ l[p].f0 = 14 := by
    intro e
    have := hv.2.2
    rw [show l.length - 1 = p by omega] at this
    simpa [List.getD, List.getElem?_eq_getElem hp] using this
  have hg : ∀ x, goesZ l (p : Int) x = true ↔ ((l[p].f0 = 4 ∨ l[p].f0 = 5) ∧ x = l[p].f3) ∨ (l[p].f0 ≠ 4 ∧ l[p].f0 ≠ 14 ∧ x = (p : Int) + 1) := by
    intro x
    unfold goesZ
    rw [if_neg (by omega), rdT_at hp, Bool.or_eq_true, decide_eq_true_iff, decide_eq_true_iff]
  rw [mem_nextL, hg]
  have o4 := fun h => ok2 (.inl h)
  have o5 := fun h => ok2 (.inr h)
  have nx : l[p].f0 ≠ 4 → l[p].f0 ≠ 14 → (p : Int) + 1 < l.length := fun a b => by
    rcases Nat.lt_or_ge (p + 1) l.length with e | e
    · omega
    · have := hlast (by omega); omega
  revert h14 o4 o5 nx
  unfold stepS toIns
  simp only
  generalize l[p] = x
  obtain ⟨f0, f1, f2, f3⟩ := x
  simp only
  intro h14 o4 o5 nx
  revert h14
  repeat' split
  all_goals intro h14; try simp only [and_true] at h14 ⊢
  all_goals first | omega | (have := o4 (by assumption); omega) | (have := o5 (by assumption); omega) | (have := nx (by omega) (by omega); omega)
theorem runs_l0 (hw : W32 l) (hN : l.length ≤ 1000) (hv : Valid l) (hc : (checkS prio (l.map toIns)).1 = 0) : ∀ (d i p : Nat) (r0 r1 r2 r3 : Int), 100 - i = d → i ≤ 100 → p < l.length → Rch l p →
    EvP (fun k => pinfoldlaw26_LintRuns.l0 k (reachL l) (p : Int) (i : Int) prio l r0 r1 r2 r3) (· = true) := by
  have hrl := reachL_len l
  intro d
  induction d with
  | zero =>
    intro i p r0 r1 r2 r3 hd hi hp hr
    refine EvP.succ ?_
    simp only [pinfoldlaw26_LintRuns.l0]
    exact EvP.neg (by omega) lives_tail
  | succ d ih =>
    intro i p r0 r1 r2 r3 hd hi hp hr
    have hpr : p < (reachL l).length := by omega
    refine EvP.succ ?_
    simp only [pinfoldlaw26_LintRuns.l0]
    rw [rdOf_at hpr, (reachL_at hpr).2 hr]
    refine EvP.pos (by omega) (EvP.neg (by omega) (EvP.pos (by omega) (EvP.pos (by omega) (EvP.succ ?_))))
    simp only [pinfoldlaw26_LintRuns.j1]
    refine EvP.neg (by simp) ?_
    have htop : stepTop prio (l.map toIns) (p : Int) ⟨r0, r1, r2, r3⟩ = stepS (toIns l[p]) p ⟨r0, r1, r2, r3⟩ := by
      unfold stepTop
      rw [if_neg (by simp only [List.length_map]; omega)]
      simp [List.getD, List.getElem?_eq_getElem hp]
    refine EvP.bindS (b := ((stepS (toIns l[p]) p ⟨r0, r1, r2, r3⟩).pc, (stepS (toIns l[p]) p ⟨r0, r1, r2, r3⟩).rs.r0, (stepS (toIns l[p]) p ⟨r0, r1, r2, r3⟩).rs.r1, (stepS (toIns l[p]) p ⟨r0, r1, r2, r3⟩).rs.r2, (stepS (toIns l[p]) p ⟨r0, r1, r2, r3⟩).rs.r3, (stepS (toIns l[p]) p ⟨r0, r1, r2, r3⟩).op, (stepS (toIns l[p]) p ⟨r0, r1, r2, r3⟩).reg, (stepS (toIns l[p]) p ⟨r0, r1, r2, r3⟩).n)) (by
      unfold exec_Step.f
      rw [if_pos (in32B_of hw), htop]) ?_
    dsimp only
    refine EvP.ite (fun _ => lives_tail) (fun h14 => ?_)
    have hmem := step_goes hv p hp ⟨r0, r1, r2, r3⟩ h14
    generalize hq : stepS (toIns l[p]) p ⟨r0, r1, r2, r3⟩ = q at hmem h14
    obtain ⟨h0, h1, h2⟩ := mem_nextL.1 hmem
    obtain ⟨n, hn⟩ := Int.eq_ofNat_of_zero_le h0
    rw [hn] at hmem h1 h2 ⊢
    have hrn : Rch l n := .step hr hp (by omega) h2
    refine EvP.bind (next_f hw hN hv p) ?_
    rintro t rfl
    obtain ⟨at_, hat, hne⟩ := List.getElem_of_mem hmem
    have inner : ∀ (dj j : Nat) (b : Bool), (nextL l p).length - j = dj → (b = true ∨ j ≤ at_) →
        EvP (fun k => pinfoldlaw26_LintRuns.l1 k (reachL l) (n : Int) b (i : Int) (nextL l p) ((nextL l p).length : Int) (j : Int) prio l q.rs.r0 q.rs.r1 q.rs.r2 q.rs.r3) (· = true) := by
      intro dj
      induction dj with
      | zero =>
        intro j b hdj hb
        obtain rfl : b = true := by rcases hb with h | h; exact h; omega
        refine EvP.succ ?_
        simp only [pinfoldlaw26_LintRuns.l1]
        rw [wrap_up (i := i) (by omega)]
        exact EvP.neg (by omega) (EvP.pos trivial (ih (i + 1) n _ _ _ _ (by omega) (by omega) (by omega) hrn))
      | succ dj ihj =>
        intro j b hdj hb
        have hj : j < (nextL l p).length := by omega
        have hlen := nextL_len l p
        refine EvP.succ ?_
        simp only [pinfoldlaw26_LintRuns.l1]
        rw [rd_at hj, wrap_up (i := j) (by omega)]
        refine EvP.pos (by omega) (EvP.pos (by omega) (EvP.pos (by omega) (EvP.ite (fun hbt => ihj (j + 1) true (by omega) (.inl rfl)) (fun hbf => ihj (j + 1) _ (by omega) ?_))))
        rcases hb with h | h
        · exact absurd h hbf
        · by_cases e : j = at_
          · subst e; left; rw [hne]; simp
          · right; omega
    exact inner _ 0 false rfl (.inr (by omega))
theorem runs_f (hw : W32 l) (r0 r1 r2 r3 : Int) : EvP (fun k => pinfoldlaw26_LintRuns.f k prio l r0 r1 r2 r3) (· = true) := by
  simp only [pinfoldlaw26_LintRuns.f]
  obtain ⟨b, hb, hbv⟩ := fine_f3 (prio := prio) hw
  refine EvP.bindS hb (EvP.ite (fun h => ?_) (fun _ => lives_tail))
  obtain ⟨hv, h30, hc⟩ := hbv h
  refine EvP.bind (reach_f hw (by omega) hv) ?_
  rintro t rfl
  exact runs_l0 hw (by omega) hv hc _ 0 0 _ _ _ _ rfl (by omega) hv.1 .start
end
end Go.Proofs.Ytgiimdoabkcoaaa.PLint
