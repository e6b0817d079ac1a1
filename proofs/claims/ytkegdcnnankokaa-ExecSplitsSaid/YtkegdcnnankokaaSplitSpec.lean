/-
A run of some steps, and then one by one, is the run of all (plain).
-/
import Derived.Test.YtkegdcnnankokaaRunSpec
namespace Go.Proofs.Ytkegdcnnankokaa
set_option linter.unusedVariables false
set_option linter.unusedSimpArgs false
open Go.RowKit

/-- steps one by one behind a run, till one asks something: place, registers, what was told, what is asked. -/
def oneByOne (prio : Int) (l : List Ins) : Nat → RunRes → RunRes
  | 0, q => q
  | b + 1, q => if q.op ≠ 0 then q else
    if (stepTop prio l q.pc q.rs).op = 0 ∨ (stepTop prio l q.pc q.rs).op = 6 then oneByOne prio l b ⟨(stepTop prio l q.pc q.rs).pc, (stepTop prio l q.pc q.rs).rs, q.told, 0, 0, 0⟩
    else if (stepTop prio l q.pc q.rs).op = 13 then oneByOne prio l b ⟨(stepTop prio l q.pc q.rs).pc, (stepTop prio l q.pc q.rs).rs, q.told ++ [(stepTop prio l q.pc q.rs).n], 0, 0, 0⟩
    else oneByOne prio l b ⟨(stepTop prio l q.pc q.rs).pc, (stepTop prio l q.pc q.rs).rs, q.told, (stepTop prio l q.pc q.rs).op, (stepTop prio l q.pc q.rs).reg, (stepTop prio l q.pc q.rs).n⟩
theorem oneByOne_stop (prio : Int) (l : List Ins) (b : Nat) (q : RunRes) (h : q.op ≠ 0) : oneByOne prio l b q = q := by
  cases b with
  | zero => rfl
  | succ b => rw [oneByOne, if_pos h]
theorem oneByOne_run (prio : Int) (l : List Ins) : ∀ (b : Nat) (pc : Int) (r : Regs) (t : List Int), oneByOne prio l b ⟨pc, r, t, 0, 0, 0⟩ = runT prio l b pc r t
  | 0, pc, r, t => rfl
  | b + 1, pc, r, t => by
    rw [oneByOne, runT, if_neg (by simp)]
    dsimp only
    by_cases h : (stepTop prio l pc r).op = 0 ∨ (stepTop prio l pc r).op = 6
    · rw [if_pos h, if_pos h]; exact oneByOne_run prio l b _ _ _
    · rw [if_neg h, if_neg h]
      by_cases h13 : (stepTop prio l pc r).op = 13
      · rw [if_pos h13, if_pos h13]; exact oneByOne_run prio l b _ _ _
      · rw [if_neg h13, if_neg h13]; exact oneByOne_stop prio l b _ (by dsimp only; omega)
theorem runT_split (prio : Int) (l : List Ins) : ∀ (a b : Nat) (pc : Int) (r : Regs) (t : List Int), oneByOne prio l b (runT prio l a pc r t) = runT prio l (a + b) pc r t
  | 0, b, pc, r, t => by rw [runT, Nat.zero_add]; exact oneByOne_run prio l b pc r t
  | a + 1, b, pc, r, t => by
    rw [show a + 1 + b = (a + b) + 1 by omega, runT, runT]
    by_cases h : (stepTop prio l pc r).op = 0 ∨ (stepTop prio l pc r).op = 6
    · rw [if_pos h, if_pos h]; exact runT_split prio l a b _ _ _
    · rw [if_neg h, if_neg h]
      by_cases h13 : (stepTop prio l pc r).op = 13
      · rw [if_pos h13, if_pos h13]; exact runT_split prio l a b _ _ _
      · rw [if_neg h13, if_neg h13]; exact oneByOne_stop prio l b _ (by dsimp only; omega)

theorem oneByOne_on {prio : Int} {l : List Ins} {b : Nat} {pc : Int} {r : Regs} {t : List Int} {q : Res} (hq : stepTop prio l pc r = q) (h : q.op = 0 ∨ q.op = 6) :
    oneByOne prio l (b + 1) ⟨pc, r, t, 0, 0, 0⟩ = oneByOne prio l b ⟨q.pc, q.rs, t, 0, 0, 0⟩ := by
  subst hq; rw [oneByOne, if_neg (by simp)]; dsimp only; rw [if_pos h]
theorem oneByOne_out {prio : Int} {l : List Ins} {b : Nat} {pc : Int} {r : Regs} {t : List Int} {q : Res} (hq : stepTop prio l pc r = q) (h : q.op = 13) :
    oneByOne prio l (b + 1) ⟨pc, r, t, 0, 0, 0⟩ = oneByOne prio l b ⟨q.pc, q.rs, t ++ [q.n], 0, 0, 0⟩ := by
  subst hq; rw [oneByOne, if_neg (by simp)]; dsimp only; rw [if_neg (by omega), if_pos h]
theorem oneByOne_asks {prio : Int} {l : List Ins} {b : Nat} {pc : Int} {r : Regs} {t : List Int} {q : Res} (hq : stepTop prio l pc r = q) (h0 : q.op ≠ 0) (h6 : q.op ≠ 6) (h13 : q.op ≠ 13) :
    oneByOne prio l (b + 1) ⟨pc, r, t, 0, 0, 0⟩ = oneByOne prio l b ⟨q.pc, q.rs, t, q.op, q.reg, q.n⟩ := by
  subst hq; rw [oneByOne, if_neg (by simp)]; dsimp only; rw [if_neg (by omega), if_neg h13]
end Go.Proofs.Ytkegdcnnankokaa
namespace Go.Proofs.Ytkegdcnnankokaa
open Go.RowKit
theorem stepS_zero {x : Ins} {pc : Int} {r : Regs} (hv : x.op ≠ 0) (h : (stepS x pc r).op = 0) : (stepS x pc r).reg = 0 ∧ (stepS x pc r).n = 0 := by
  unfold stepS at h ⊢
  by_cases h1 : x.op = 1
  · simp [h1]
  by_cases h2 : x.op = 2
  · simp [h2]
  by_cases h3 : x.op = 3
  · simp [h3]
  by_cases h4 : x.op = 4
  · simp [h4]
  by_cases h5 : x.op = 5
  · simp [h5]
  by_cases h6 : x.op = 6
  · simp [h6]
  by_cases h8 : x.op = 8
  · simp [h8] at h
  by_cases h11 : x.op = 11
  · simp [h11] at h
  by_cases h13 : x.op = 13
  · simp [h13] at h
  by_cases h14 : x.op = 14
  · simp [h14] at h
  · simp [h1, h2, h3, h4, h5, h6, h8, h11, h13, h14] at h
    exact absurd h hv
theorem stepTop_zero {prio : Int} {l : List Ins} {pc : Int} {r : Regs} (h : (stepTop prio l pc r).op = 0) : (stepTop prio l pc r).reg = 0 ∧ (stepTop prio l pc r).n = 0 := by
  unfold stepTop at h ⊢
  by_cases hb : (checkS prio l).1 ≠ 0 ∨ pc < 0 ∨ (l.length : Int) ≤ pc
  · rw [if_pos hb] at h; simp at h
  · rw [if_neg hb] at h ⊢
    have hc : (checkS prio l).1 = 0 := by omega
    have hk : pc.toNat < l.length := by omega
    have e : l.getD pc.toNat default = l[pc.toNat] := by simp [List.getD, List.getElem?_eq_getElem hk]
    rw [e] at h ⊢
    have := insOK_parts ((checkS_ok hc).2.2 pc.toNat hk)
    exact stepS_zero (by omega) h
theorem runT_zero {prio : Int} {l : List Ins} : ∀ (k : Nat) (pc : Int) (r : Regs) (t : List Int), (runT prio l k pc r t).op = 0 → (runT prio l k pc r t).reg = 0 ∧ (runT prio l k pc r t).n = 0
  | 0, pc, r, t, _ => ⟨rfl, rfl⟩
  | k + 1, pc, r, t, h => by
    rw [runT] at h ⊢
    by_cases h0 : (stepTop prio l pc r).op = 0 ∨ (stepTop prio l pc r).op = 6
    · rw [if_pos h0] at h ⊢; exact runT_zero k _ _ _ h
    · rw [if_neg h0] at h ⊢
      by_cases h13 : (stepTop prio l pc r).op = 13
      · rw [if_pos h13] at h ⊢; exact runT_zero k _ _ _ h
      · rw [if_neg h13] at h ⊢; dsimp only at h; omega
end Go.Proofs.Ytkegdcnnankokaa
