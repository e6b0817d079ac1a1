/-
'==' of two values of type [4]int32.
-/
import Derived.Test.YtkegdcnnankokaaExecSpec
import Derived.ChangeKeysEq
namespace Go.Proofs.Ytkegdcnnankokaa
set_option linter.unusedVariables false
set_option linter.unusedSimpArgs false
open Go.RowKit
theorem info32 : ∃ i, Try.prog.info? 21 = some i := by
  have h : (Try.prog.info? 21).isSome = true := by kernel_rfl
  exact Option.isSome_iff_exists.1 h
theorem cells32 : Try.prog.cellsOf 21 = 1 := by kernel_rfl
theorem eqRegs (w : World) (a b : Regs) : (binOp .eql 44 (.agg #[.int .i32 (a).r0, .int .i32 (a).r1, .int .i32 (a).r2, .int .i32 (a).r3]) (.agg #[.int .i32 (b).r0, .int .i32 (b).r1, .int .i32 (b).r2, .int .i32 (b).r3])).run Try.prog w = .ok (.bool (a.r0 == b.r0 && (a.r1 == b.r1 && (a.r2 == b.r2 && a.r3 == b.r3)))) w := by
  obtain ⟨i, hi⟩ := info32
  rw [run_eql_struct, run_equalIn_array w 9999 _ _ Try.underlying44 hi, cells32]
  have hr : List.range 4 = [0, 1, 2, 3] := by decide
  rw [hr]
  simp only [Op.eqItems, Sem.run_bind]
  go_simp
  by_cases h0 : a.r0 = b.r0 <;> by_cases h1 : a.r1 = b.r1 <;> by_cases h2 : a.r2 = b.r2 <;> by_cases h3 : a.r3 = b.r3 <;> simp [h0, h1, h2, h3]
theorem eqRegs_self (a : Regs) (w : World) : (binOp .eql 44 (.agg #[.int .i32 (a).r0, .int .i32 (a).r1, .int .i32 (a).r2, .int .i32 (a).r3]) (.agg #[.int .i32 (a).r0, .int .i32 (a).r1, .int .i32 (a).r2, .int .i32 (a).r3])).run Try.prog w = .ok (.bool true) w := by
  rw [eqRegs]; simp
end Go.Proofs.Ytkegdcnnankokaa
