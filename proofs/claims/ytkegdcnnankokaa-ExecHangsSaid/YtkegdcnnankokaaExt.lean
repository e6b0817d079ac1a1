/-
A world behind a call that only made new blocks: the world ahead of it, unknown blocks behind the known ones, some draws ('ext').
The rules let a walk read and write the known blocks through such worlds.
-/
import Derived.Test.YtkegdcnnankokaaBase
import Derived.Deep.RegionWith
namespace Go
set_option linter.unusedVariables false
set_option linter.unusedSimpArgs false
open Go.RowKit

/-- w with the blocks os behind its own, and the count of draws d. -/
def World.ext (w : World) (os : Array Obj) (d : Nat) : World := { w with heap := w.heap ++ os, drawn := d }

theorem World.ext_of_below {w w1 : World} (h : Below w.heap.size w w1) : ∃ os d, w1 = w.ext os d := by
  refine ⟨w1.heap.extract w.heap.size w1.heap.size, w1.drawn, ?_⟩
  have hh : w1.heap = w.heap ++ w1.heap.extract w.heap.size w1.heap.size := by
    apply Array.ext_getElem?
    intro k
    by_cases hk : k < w.heap.size
    · rw [h.block k hk, Array.getElem?_append_left hk]
    · rw [Array.getElem?_append_right (by omega), Array.getElem?_extract]
      have hs := h.size
      by_cases hk2 : k < w1.heap.size
      · rw [if_pos (by omega)]; congr 1; omega
      · rw [if_neg (by omega)]; simp; omega
  have e1 := h.os; have e2 := h.tape; have e3 := h.output
  cases w1
  simp only at hh e1 e2 e3
  simp only [World.ext]
  congr 1
@[go_sem] theorem World.ext_size (w : World) (os : Array Obj) (d : Nat) : (w.ext os d).heap.size = w.heap.size + os.size := by simp [World.ext]
theorem World.below_ext (w : World) (os : Array Obj) (d : Nat) : Below w.heap.size w (w.ext os d) :=
  ⟨rfl, rfl, rfl, by rw [World.ext_size]; omega, fun k hk => by simp only [World.ext]; exact Array.getElem?_append_left hk⟩
theorem World.ext_heap {w : World} {b : Nat} (h : b < w.heap.size) (os : Array Obj) (d : Nat) : (w.ext os d).heap[b]? = w.heap[b]? := Array.getElem?_append_left h
/-- the world has this block. -/
def World.inBlk (w : World) (b : Nat) : Prop := b < w.heap.size
def World.beyondBlk (w : World) (os : Array Obj) (b : Nat) : Prop := w.heap.size ≤ b ∧ b < w.heap.size + os.size
theorem World.inBlk_of_cell {w : World} {a : Addr} {v : Value} (h : w.cell? a = some v) : w.inBlk a.block := World.block_lt_of_cell? w a h
@[go_sem] theorem World.has_alloc (w : World) (o : Obj) (b : Nat) : (w.alloc o).inBlk b = (b = w.heap.size ∨ w.inBlk b) := by
  unfold World.inBlk; rw [World.size_alloc]; exact propext (by omega)
@[go_sem] theorem World.has_ext (w : World) (os : Array Obj) (d b : Nat) : (w.ext os d).inBlk b = (w.inBlk b ∨ w.beyondBlk os b) := by
  unfold World.inBlk World.beyondBlk; rw [World.ext_size]; exact propext (by omega)
@[go_sem] theorem World.has_set (w : World) (a : Addr) (v : Value) (b : Nat) : (w.setCell a v).inBlk b = w.inBlk b := by
  unfold World.inBlk World.setCell; simp
@[go_sem] theorem World.has_drew (w : World) (b : Nat) : w.drew.inBlk b = w.inBlk b := rfl
@[go_sem] theorem World.has_drewN (w : World) (n b : Nat) : (w.drewN n).inBlk b = w.inBlk b := rfl
@[go_sem] theorem World.ext_cellA (w : World) (os : Array Obj) (d : Nat) (a : Addr) (h : w.inBlk a.block) : (w.ext os d).cell? a = w.cell? a := by
  unfold World.cell?; simp only [World.ext_heap h]
@[go_sem] theorem World.alloc_cellA (w : World) (o : Obj) (a : Addr) (h : w.inBlk a.block) : (w.alloc o).cell? a = w.cell? a := World.cell?_alloc_lt w o a h
@[go_sem] theorem World.ext_frozen (w : World) (os : Array Obj) (d : Nat) (a : Addr) (h : w.inBlk a.block) : (w.ext os d).frozen? a = w.frozen? a := by
  unfold World.frozen?; simp only [World.ext_heap h]
@[go_sem] theorem World.alloc_frozenA (w : World) (o : Obj) (a : Addr) (h : w.inBlk a.block) : (w.alloc o).frozen? a = w.frozen? a := World.frozen?_alloc_old w o a (Nat.ne_of_lt h)
@[go_sem] theorem World.ext_set (w : World) (os : Array Obj) (d : Nat) (a : Addr) (v : Value) (h : w.inBlk a.block) : (w.ext os d).setCell a v = (w.setCell a v).ext os d := by
  unfold World.setCell World.ext
  congr 1
  apply Array.ext_getElem?
  intro k
  simp only [Array.getElem?_modify, Array.getElem?_append, Array.size_modify]
  by_cases hk : a.block = k
  · subst hk
    simp [show a.block < w.heap.size from h]
  · simp [hk]
@[go_sem] theorem World.alloc_setA (w : World) (o : Obj) (a : Addr) (v : Value) (h : w.inBlk a.block) : (w.alloc o).setCell a v = (w.setCell a v).alloc o := by
  unfold World.setCell World.alloc
  congr 1
  apply Array.ext_getElem?
  intro k
  simp only [Array.getElem?_modify, Array.getElem?_push, Array.size_modify]
  by_cases hk : k = w.heap.size
  · subst hk
    have : a.block ≠ w.heap.size := Nat.ne_of_lt h
    simp [this]
  · simp [hk]
@[go_sem] theorem World.ext_drew (w : World) (os : Array Obj) (d : Nat) : (w.ext os d).drew = w.ext os (d + 1) := rfl
@[go_sem] theorem World.drew_ext (w : World) (os : Array Obj) (d : Nat) : w.drew.ext os d = w.ext os d := rfl
@[go_sem] theorem World.drewN_ext (w : World) (os : Array Obj) (d n : Nat) : (w.drewN n).ext os d = w.ext os d := rfl
@[go_sem] theorem World.ext_drewN (w : World) (os : Array Obj) (d n : Nat) : (w.ext os d).drewN n = w.ext os (d + n) := rfl
@[go_sem] theorem World.ext_ext (w : World) (os os' : Array Obj) (d d' : Nat) : (w.ext os d).ext os' d' = w.ext (os ++ os') d' := by
  simp [World.ext, Array.append_assoc]
theorem World.ext_size_set (w : World) (a : Addr) (v : Value) : (w.setCell a v).heap.size = w.heap.size := by simp [World.setCell]
theorem World.ext_old {w : World} {a : Addr} {v : Value} (h : w.cell? a = some v) (os : Array Obj) (d : Nat) : (w.ext os d).cell? a = some v :=
  ((World.below_ext w os d).cell (World.block_lt_of_cell? w a h)).trans h
end Go
namespace Go.Proofs.Ytkegdcnnankokaa
open Go.RowKit
theorem bel_ext {w W : World} (h : Below w.heap.size w W) (os : Array Obj) (d : Nat) : Below w.heap.size w (W.ext os d) := bel_trans h (World.below_ext W os d)
end Go.Proofs.Ytkegdcnnankokaa
