/-
A run of a program, in plain Lean.
-/
import Derived.Test.YtkegdcnnankokaaExecSpec
namespace Go.Proofs.Ytkegdcnnankokaa
set_option linter.unusedVariables false
set_option linter.unusedSimpArgs false
open Go.RowKit

structure RunRes where
  pc : Int
  rs : Regs
  told : List Int
  op : Int
  reg : Int
  n : Int

def runT (prio : Int) (l : List Ins) : Nat → Int → Regs → List Int → RunRes
  | 0, pc, r, t => ⟨pc, r, t, 0, 0, 0⟩
  | k + 1, pc, r, t =>
    if (stepTop prio l pc r).op = 0 ∨ (stepTop prio l pc r).op = 6 then runT prio l k (stepTop prio l pc r).pc (stepTop prio l pc r).rs t
    else if (stepTop prio l pc r).op = 13 then runT prio l k (stepTop prio l pc r).pc (stepTop prio l pc r).rs (t ++ [(stepTop prio l pc r).n])
    else ⟨(stepTop prio l pc r).pc, (stepTop prio l pc r).rs, t, (stepTop prio l pc r).op, (stepTop prio l pc r).reg, (stepTop prio l pc r).n⟩

theorem runT_on {prio : Int} {l : List Ins} {k : Nat} {pc : Int} {r : Regs} {t : List Int} {q : Res} (hq : stepTop prio l pc r = q) (h : q.op = 0 ∨ q.op = 6) : runT prio l (k + 1) pc r t = runT prio l k q.pc q.rs t := by
  subst hq; rw [runT, if_pos h]
theorem runT_out {prio : Int} {l : List Ins} {k : Nat} {pc : Int} {r : Regs} {t : List Int} {q : Res} (hq : stepTop prio l pc r = q) (h : q.op = 13) : runT prio l (k + 1) pc r t = runT prio l k q.pc q.rs (t ++ [q.n]) := by
  subst hq; rw [runT, if_neg (by omega), if_pos h]
theorem runT_end {prio : Int} {l : List Ins} {k : Nat} {pc : Int} {r : Regs} {t : List Int} {q : Res} (hq : stepTop prio l pc r = q) (h0 : q.op ≠ 0) (h6 : q.op ≠ 6) (h13 : q.op ≠ 13) : runT prio l (k + 1) pc r t = ⟨q.pc, q.rs, t, q.op, q.reg, q.n⟩ := by
  subst hq; rw [runT, if_neg (by omega), if_neg h13]
theorem runT_told (prio : Int) (l : List Ins) : ∀ (k : Nat) (pc : Int) (r : Regs) (t : List Int), (runT prio l k pc r t).told.length ≤ t.length + k
  | 0, pc, r, t => by simp [runT]
  | k + 1, pc, r, t => by
    rw [runT]
    split
    · have := runT_told prio l k (stepTop prio l pc r).pc (stepTop prio l pc r).rs t; omega
    · split
      · have := runT_told prio l k (stepTop prio l pc r).pc (stepTop prio l pc r).rs (t ++ [(stepTop prio l pc r).n]); simp at this; omega
      · simp

theorem stepTop_good {prio : Int} {l : List Ins} (h : (checkS prio l).1 = 0) {k : Nat} (hk : k < l.length) (r : Regs) : stepTop prio l k r = stepS l[k] k r := by
  unfold stepTop
  rw [if_neg (by omega)]
  simp [List.getD, List.getElem?_eq_getElem hk]
theorem stepTop_ok {prio : Int} {l : List Ins} (hwf : InsWf l) (pc : Int) {r : Regs} (h : r.ok) : (stepTop prio l pc r).rs.ok := by
  unfold stepTop
  split
  · exact h
  · rename_i hn
    refine stepS_ok h ?_
    have hk : pc.toNat < l.length := by omega
    have : l.getD pc.toNat default = l[pc.toNat] := by simp [List.getD, List.getElem?_eq_getElem hk]
    rw [this]
    exact hwf _ (List.getElem_mem hk)
theorem lastOp_ok {prio : Int} {l : List Ins} (h : (checkS prio l).1 = 0) : lastOp l = 4 ∨ lastOp l = 14 := by
  have hp := checkS_ok h
  unfold checkS at h
  by_cases h1 : prio < 0 ∨ 3 < prio
  · rw [if_pos h1] at h; simp at h
  rw [if_neg h1, if_neg (by omega)] at h
  have hf : firstErr l.length l 0 = none := firstErr_none _ _ _ (fun j hj => hp.2.2 j hj)
  simp only [checkL, hf] at h
  by_cases h2 : lastOp l = 4 ∨ lastOp l = 14
  · exact h2
  · rw [if_neg h2] at h; simp at h
/-- in a program that may be, a step that doesn't exit leads to a place of the program. -/
theorem stepS_place {prio : Int} {l : List Ins} (h : (checkS prio l).1 = 0) {k : Nat} (hk : k < l.length) (r : Regs) (hop : (stepS l[k] k r).op ≠ 14) : 0 ≤ (stepS l[k] k r).pc ∧ (stepS l[k] k r).pc < l.length := by
  obtain ⟨hpos, _, hok⟩ := checkS_ok h
  obtain ⟨⟨o1, o2⟩, _, _, hj⟩ := insOK_parts (hok k hk)
  have hl := lastOp_ok h
  have hlast : l[k].op ≠ 4 → l[k].op ≠ 14 → (k : Int) + 1 < l.length := by
    intro n4 n14
    by_cases he : k = l.length - 1
    · exfalso
      have : lastOp l = l[k].op := by
        subst he; simp [lastOp, List.getD, List.getElem?_eq_getElem (show l.length - 1 < l.length by omega)]
      omega
    · omega
  generalize l[k] = x at *
  unfold stepS at hop ⊢
  by_cases h4 : x.op = 4
  · have := hj (.inl h4)
    simp only [h4]; simp; exact this
  by_cases h14 : x.op = 14
  · simp [h14] at hop
  have hn := hlast h4 h14
  by_cases h5 : x.op = 5
  · have := hj (.inr h5)
    simp only [h5]; simp; split <;> omega
  · simp only [h4, h14, h5, if_false]
    repeat' split
    all_goals (simp; omega)
end Go.Proofs.Ytkegdcnnankokaa
