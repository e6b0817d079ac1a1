/-
Lint, plain: what the printed functions Check, Next, Goes, Reach answer (no program in sight).
-/
import Derived.Test.YtgiimdoabkcoaaaPureKit
import Derived.Test.YtgiimdoabkcoaaaPLintx1
import Derived.Test.YtgiimdoabkcoaaaPLintx1
namespace Go.Proofs.Ytgiimdoabkcoaaa.PLint
set_option linter.unusedVariables false
set_option linter.unusedSimpArgs false
open Go.RowKit Go.Proofs.YtgiimdoabkcoaaaW.PrintWords Go.Proofs.YtgiimdoabkcoaaaW.PrintLast Go.Proofs.YtgiimdoabkcoaaaW.PrintMore

def okIns (x : S41) (N : Nat) : Prop := (1 ≤ x.f0 ∧ x.f0 ≤ 14) ∧ ((x.f0 = 4 ∨ x.f0 = 5) → 0 ≤ x.f3 ∧ x.f3 < N)
def Valid (l : List S41) : Prop := 0 < l.length ∧ (∀ j (hj : j < l.length), okIns l[j] l.length) ∧ ((l.getD (l.length - 1) z41).f0 = 4 ∨ (l.getD (l.length - 1) z41).f0 = 14)
def W32 (l : List S41) : Prop := ∀ x ∈ l, -2147483648 ≤ x.f3 ∧ x.f3 ≤ 2147483647
theorem rdT (l : List S41) (i : Nat) : rd_T41 l (i : Int) = l.getD i z41 := by simp [rd_T41]
theorem rdT_at {l : List S41} {i : Nat} (h : i < l.length) : rd_T41 l (i : Int) = l[i] := by simp [rd_T41, List.getElem?_eq_getElem h]

/-! ### Same -/
theorem same_l0 (a : List Int) (hn : a.length ≤ 1000000) : ∀ (d i : Nat), a.length - i = d → EvP (fun k => pinfoldref04_Same.l0 k a a (a.length : Int) (i : Int)) (· = true) := by
  intro d
  induction d with
  | zero =>
    intro i hd
    refine EvP.succ ?_
    simp only [pinfoldref04_Same.l0]
    exact EvP.neg (by omega) (EvP.now rfl)
  | succ d ih =>
    intro i hd
    refine EvP.succ ?_
    simp only [pinfoldref04_Same.l0]
    refine EvP.pos (by omega) (EvP.pos (by omega) (EvP.pos (by omega) (EvP.pos (by omega) (EvP.pos trivial ?_))))
    rw [wrap_up (by omega)]
    exact ih (i + 1) (by omega)
theorem same_self (a : List Int) (hn : a.length ≤ 1000000) : EvP (fun k => pinfoldref04_Same.f k a a) (· = true) := by
  simp only [pinfoldref04_Same.f]
  exact EvP.pos trivial (same_l0 a hn _ 0 rfl)

/-! ### Check -/
theorem checkS_last {prio : Int} {l : List Ins} (h : (checkS prio l).1 = 0) : lastOp l = 4 ∨ lastOp l = 14 := by
  unfold checkS at h
  by_cases h1 : prio < 0 ∨ 3 < prio
  · rw [if_pos h1] at h; simp at h
  · rw [if_neg h1] at h
    by_cases h2 : l.length = 0 ∨ 64 < l.length
    · rw [if_pos h2] at h; simp at h
    · rw [if_neg h2] at h
      have hok := checkS_ok (prio := prio) (l := l) (by unfold checkS; rw [if_neg h1, if_neg h2]; exact h)
      unfold checkL at h
      cases hf : firstErr l.length l 0 with
      | some r =>
        rw [hf] at h
        by_cases hall : ∀ j (hj : j < l.length), l[j].err l.length = 0
        · rw [firstErr_none l.length l 0 hall] at hf; cases hf
        · exact absurd hok.2.2 (fun hx => hall (fun j hj => hx j hj))
      | none =>
        rw [hf] at h
        by_cases h3 : lastOp l = 4 ∨ lastOp l = 14
        · exact h3
        · simp [h3] at h
section
variable {prio : Int} {l : List S41}
theorem in32B_of (hw : W32 l) : in32B l = true := by
  unfold in32B
  rw [List.all_eq_true]
  intro x hx
  simpa using hw x hx
theorem valid_of (h : (checkS prio (l.map toIns)).1 = 0) : Valid l := by
  obtain ⟨h1, h2, h3⟩ := checkS_ok h
  simp only [List.length_map] at h1 h2 h3
  refine ⟨h1, fun j hj => ?_, ?_⟩
  · have := insOK_parts (h3 j hj)
    simp only [List.getElem_map, toIns] at this
    exact ⟨this.1, this.2.2.2⟩
  · have := checkS_last h
    unfold lastOp at this
    rw [List.length_map] at this
    have hl : l.length - 1 < l.length := by omega
    simpa [List.getD, List.getElem?_eq_getElem hl, toIns] using this
theorem fine_f (hw : W32 l) : ∃ b, pinfoldlaw26_fine.f prio l = some b ∧ (b = true → Valid l ∧ l.length ≤ 30) := by
  unfold pinfoldlaw26_fine.f
  by_cases h : (l.length : Int) > 30
  · exact ⟨false, by rw [if_pos h], fun e => by cases e⟩
  · refine ⟨(checkS prio (l.map toIns)).1 == 0, ?_, fun e => ⟨valid_of (prio := prio) (by simpa using e), by omega⟩⟩
    rw [if_neg h]
    unfold pinfoldref09_Check.f
    rw [if_pos (in32B_of hw)]; rfl
end
end Go.Proofs.Ytgiimdoabkcoaaa.PLint
