/-
What a run answers, said of the world behind it.
-/
import Derived.Test.YtkegdcnnankokaaRunSpec
import Derived.Test.YtkegdcnnankokaaOwn
namespace Go.Proofs.Ytkegdcnnankokaa
set_option linter.unusedVariables false
set_option linter.unusedSimpArgs false
open Go.RowKit

/-- a run's answer: its numbers, and a slice of the call's own with what was told. -/
def runPost (w : World) (q : RunRes) (e : Ending) (w' : World) : Prop :=
  ∃ v os d, e = .returned (.tuple #[.int .i64 q.pc, .agg #[.int .i32 (q.rs).r0, .int .i32 (q.rs).r1, .int .i32 (q.rs).r2, .int .i32 (q.rs).r3], v, .agg #[.int .i64 q.op, .int .i64 q.reg, .int .i32 q.n]]) ∧ w' = w.ext os d ∧ OwnE w.heap.size os 21 1 v q.told.length (q.told.map (Value.int .i32))

theorem runPost_mk {w W : World} {q : RunRes} {v : Value} (hb : Below w.heap.size w W) (h : W.ownsRow w.heap.size 21 1 v q.told.length (q.told.map (Value.int .i32))) :
    runPost w q (.returned (.tuple #[.int .i64 q.pc, .agg #[.int .i32 (q.rs).r0, .int .i32 (q.rs).r1, .int .i32 (q.rs).r2, .int .i32 (q.rs).r3], v, .agg #[.int .i64 q.op, .int .i64 q.reg, .int .i32 q.n]])) W := by
  obtain ⟨os, d, h1, h2⟩ := own_ext hb h
  exact ⟨v, os, d, rfl, h1, h2⟩
theorem info_i32 : (Try.prog.info? 21).map (fun i => (i.zero, i.size, i.bytes)) = some (some (.int .i32 0), 1, 4) := by kernel_rfl


end Go.Proofs.Ytkegdcnnankokaa
