/-
What one instruction does, in plain Lean: registers, places, effects.
-/
import Derived.Test.YtkegdcnnankokaaPrCheck
import Derived.Test.YtkegdcnnankokaaExt
namespace Go.Proofs.Ytkegdcnnankokaa
set_option linter.unusedVariables false
set_option linter.unusedSimpArgs false
open Go.RowKit

structure Regs where
  r0 : Int
  r1 : Int
  r2 : Int
  r3 : Int
def Regs.get (r : Regs) (a : Int) : Int := if a = 0 then r.r0 else if a = 1 then r.r1 else if a = 2 then r.r2 else r.r3
def setAt (a j v r : Int) : Int := if a = j then v else r
def Regs.set (r : Regs) (a v : Int) : Regs := ⟨setAt a 0 v r.r0, setAt a 1 v r.r1, setAt a 2 v r.r2, setAt a 3 v r.r3⟩
def in32 (x : Int) : Prop := -2147483648 ≤ x ∧ x ≤ 2147483647
def Regs.ok (r : Regs) : Prop := in32 r.r0 ∧ in32 r.r1 ∧ in32 r.r2 ∧ in32 r.r3
/-- a place, registers, and what is asked. -/
structure Res where
  pc : Int
  rs : Regs
  op : Int
  reg : Int
  n : Int

def stepS (x : Ins) (pc : Int) (r : Regs) : Res :=
  if x.op = 1 then ⟨pc + 1, r.set x.a x.n, 0, 0, 0⟩
  else if x.op = 2 then ⟨pc + 1, r.set x.a (wrap32 (r.get x.a + r.get x.b)), 0, 0, 0⟩
  else if x.op = 3 then ⟨pc + 1, r.set x.a (wrap32 (r.get x.a - r.get x.b)), 0, 0, 0⟩
  else if x.op = 4 then ⟨x.n, r, 0, 0, 0⟩
  else if x.op = 5 then ⟨if r.get x.a = 0 then pc + 1 else x.n, r, 0, 0, 0⟩
  else if x.op = 6 then ⟨pc + 1, r, 6, 0, 0⟩
  else if x.op = 8 then ⟨pc + 1, r, 8, x.b, r.get x.a⟩
  else if x.op = 11 then ⟨pc + 1, r, 11, 0, r.get x.a⟩
  else if x.op = 13 then ⟨pc + 1, r, 13, 0, r.get x.a⟩
  else if x.op = 14 then ⟨pc, r, 14, 0, r.get x.a⟩
  else ⟨pc + 1, r, x.op, x.a, x.n⟩
def stepTop (prio : Int) (l : List Ins) (pc : Int) (r : Regs) : Res :=
  if (checkS prio l).1 ≠ 0 ∨ pc < 0 ∨ (l.length : Int) ≤ pc then ⟨pc, r, 14, 0, -1⟩ else stepS (l.getD pc.toNat default) pc r

/-- a call that answers this, and makes but new blocks. -/
def resPost (w : World) (q : Res) (e : Ending) (w' : World) : Prop :=
  e = .returned (.tuple #[.int .i64 q.pc, .agg #[.int .i32 (q.rs).r0, .int .i32 (q.rs).r1, .int .i32 (q.rs).r2, .int .i32 (q.rs).r3], .agg #[.int .i64 q.op, .int .i64 q.reg, .int .i32 q.n]]) ∧ Below w.heap.size w w'

theorem arr_get (r : Regs) {a : Int} (h0 : 0 ≤ a) (h1 : a < 4) : (#[Value.int .i32 r.r0, .int .i32 r.r1, .int .i32 r.r2, .int .i32 r.r3] : Array Value)[a.toNat]? = some (.int .i32 (r.get a)) := by
  rcases cases4 h0 h1 with rfl | rfl | rfl | rfl <;> rfl
theorem arr_getL (r : Regs) {a : Int} (h0 : 0 ≤ a) (h1 : a < 4) (h : a.toNat < [Value.int .i32 r.r0, .int .i32 r.r1, .int .i32 r.r2, .int .i32 r.r3].length) :
    [Value.int .i32 r.r0, .int .i32 r.r1, .int .i32 r.r2, .int .i32 r.r3][a.toNat]'h = .int .i32 (r.get a) := by
  rcases cases4 h0 h1 with rfl | rfl | rfl | rfl <;> rfl
theorem arr_set (r : Regs) {a : Int} (v : Int) (h0 : 0 ≤ a) (h1 : a < 4) : (#[Value.int .i32 r.r0, .int .i32 r.r1, .int .i32 r.r2, .int .i32 r.r3] : Array Value).setIfInBounds a.toNat (.int .i32 v) =
    #[.int .i32 (setAt a 0 v r.r0), .int .i32 (setAt a 1 v r.r1), .int .i32 (setAt a 2 v r.r2), .int .i32 (setAt a 3 v r.r3)] := by
  rcases cases4 h0 h1 with rfl | rfl | rfl | rfl <;> rfl

def insOK (x : Ins) (len : Int) : Prop := x.err len = 0
theorem regOK_range {had : Bool} {r : Int} (h : regOK had r = true) : 0 ≤ r ∧ r < 4 := by
  simp [regOK] at h
  rcases h with rfl | ⟨⟨_, h1⟩, h2⟩ <;> omega
theorem insOK_parts {x : Ins} {len : Int} (h : insOK x len) : (1 ≤ x.op ∧ x.op ≤ 14) ∧ (0 ≤ x.a ∧ x.a < 4) ∧ (0 ≤ x.b ∧ x.b < 4) ∧ ((x.op = 4 ∨ x.op = 5) → 0 ≤ x.n ∧ x.n < len) := by
  unfold insOK Ins.err insErr at h
  by_cases h1 : 1 ≤ x.op ∧ x.op ≤ 14
  · rw [if_neg (by simpa using h1)] at h
    by_cases h2 : regOK (shA x.op) x.a = false ∨ regOK (shB x.op) x.b = false
    · rw [if_pos h2] at h; omega
    · rw [if_neg h2] at h
      simp only [not_or, Bool.not_eq_false] at h2
      refine ⟨h1, regOK_range h2.1, regOK_range h2.2, fun h4 => ?_⟩
      unfold numErr at h
      rw [if_neg (by omega), if_pos h4] at h
      by_cases h5 : x.n < 0 ∨ len ≤ x.n
      · rw [if_pos h5] at h; omega
      · omega
  · rw [if_pos h1] at h; omega
theorem checkS_ok {prio : Int} {l : List Ins} (h : (checkS prio l).1 = 0) : 0 < l.length ∧ l.length ≤ 64 ∧ ∀ j (hj : j < l.length), insOK l[j] l.length := by
  unfold checkS at h
  by_cases h1 : prio < 0 ∨ 3 < prio
  · rw [if_pos h1] at h; simp at h
  rw [if_neg h1] at h
  by_cases h2 : l.length = 0 ∨ 64 < l.length
  · rw [if_pos h2] at h; simp at h
  rw [if_neg h2] at h
  refine ⟨by omega, by omega, fun j hj => ?_⟩
  have key : ∀ (l' : List Ins) (i : Int), (∀ r, firstErr l.length l' i = some r → r.1 = 0) → ∀ x ∈ l', x.err l.length = 0 := by
    intro l'
    induction l' with
    | nil => intro i _ x hx; cases hx
    | cons y l' ih =>
      intro i hr x hx
      by_cases h0 : y.err l.length = 0
      · rcases List.mem_cons.1 hx with rfl | hx
        · exact h0
        · exact ih (i + 1) (fun r hr' => hr r (by simp only [firstErr, h0, if_true]; exact hr')) x hx
      · have := hr (y.err l.length, i) (by simp only [firstErr, h0, if_false])
        exact absurd this h0
  refine key l 0 (fun r hr => ?_) _ (List.getElem_mem hj)
  simpa [checkL, hr] using h
theorem in32_wrap (x : Int) : in32 (wrap32 x) := by unfold in32 wrap32; omega
theorem in32_get {r : Regs} (h : r.ok) (a : Int) : in32 (r.get a) := by
  obtain ⟨h0, h1, h2, h3⟩ := h
  unfold Regs.get; repeat' split
  all_goals assumption
theorem ok_set {r : Regs} (h : r.ok) (a : Int) {v : Int} (hv : in32 v) : (r.set a v).ok := by
  obtain ⟨h0, h1, h2, h3⟩ := h
  refine ⟨?_, ?_, ?_, ?_⟩ <;> (simp only [Regs.set, setAt]; split <;> assumption)
theorem stepS_ok {x : Ins} {pc : Int} {r : Regs} (h : r.ok) (hn : in32 x.n) : (stepS x pc r).rs.ok := by
  unfold stepS
  repeat' split
  all_goals first | exact h | exact ok_set h _ hn | exact ok_set h _ (in32_wrap _)

end Go.Proofs.Ytkegdcnnankokaa
