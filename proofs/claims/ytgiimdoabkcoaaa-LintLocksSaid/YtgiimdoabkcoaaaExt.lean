/-
A world behind a call that only made new blocks: the world ahead of it, unknown blocks behind the known ones, some draws ('ext').
The rules let a walk read and write the known blocks through such worlds.
-/
import Derived.Test.YtgiimdoabkcoaaaBase
import Derived.Deep.RegionWith
namespace Go
set_option linter.unusedVariables false
set_option linter.unusedSimpArgs false
open Go.RowKit

/-- w with the blocks os behind its own, and the count of draws d. -/
def World.ext (w : World) (os : Array Obj) (d : Nat) : World := { w with heap := w.heap ++ os, drawn := d }

@[go_sem] theorem World.ext_size (w : World) (os : Array Obj) (d : Nat) : (w.ext os d).heap.size = w.heap.size + os.size := by simp [World.ext]
theorem World.below_ext (w : World) (os : Array Obj) (d : Nat) : Below w.heap.size w (w.ext os d) :=
  ⟨rfl, rfl, rfl, by rw [World.ext_size]; omega, fun k hk => by simp only [World.ext]; exact Array.getElem?_append_left hk⟩
theorem World.ext_heap {w : World} {b : Nat} (h : b < w.heap.size) (os : Array Obj) (d : Nat) : (w.ext os d).heap[b]? = w.heap[b]? := Array.getElem?_append_left h
/-- the world has this block. -/
def World.inBlk (w : World) (b : Nat) : Prop := b < w.heap.size
def World.beyondBlk (w : World) (os : Array Obj) (b : Nat) : Prop := w.heap.size ≤ b ∧ b < w.heap.size + os.size
@[go_sem] theorem World.has_set (w : World) (a : Addr) (v : Value) (b : Nat) : (w.setCell a v).inBlk b = w.inBlk b := by
  unfold World.inBlk World.setCell; simp
@[go_sem] theorem World.ext_cellA (w : World) (os : Array Obj) (d : Nat) (a : Addr) (h : w.inBlk a.block) : (w.ext os d).cell? a = w.cell? a := by
  unfold World.cell?; simp only [World.ext_heap h]
@[go_sem] theorem World.ext_frozen (w : World) (os : Array Obj) (d : Nat) (a : Addr) (h : w.inBlk a.block) : (w.ext os d).frozen? a = w.frozen? a := by
  unfold World.frozen?; simp only [World.ext_heap h]
@[go_sem] theorem World.ext_ext (w : World) (os os' : Array Obj) (d d' : Nat) : (w.ext os d).ext os' d' = w.ext (os ++ os') d' := by
  simp [World.ext, Array.append_assoc]
end Go
namespace Go.Proofs.Ytgiimdoabkcoaaa
open Go.RowKit
theorem bel_ext {w W : World} (h : Below w.heap.size w W) (os : Array Obj) (d : Nat) : Below w.heap.size w (W.ext os d) := bel_trans h (World.below_ext W os d)
end Go.Proofs.Ytgiimdoabkcoaaa
