/-
exec.Step in the printed contracts' form (walked by hand: ExecStep, ExecStep2).
-/
import Derived.Test.YtkegdcnnankokaaGCheck
import Derived.Test.YtkegdcnnankokaaExecStep2
namespace Go.Proofs.Ytkegdcnnankokaa.PLint
set_option linter.unusedVariables false
set_option linter.unusedSimpArgs false
open Go.RowKit Go.Proofs.YtkegdcnnankokaaW.PrintWords Go.Proofs.YtkegdcnnankokaaW.PrintLast Go.Proofs.YtkegdcnnankokaaW.PrintMore
def exec_Step.f (a0_0 : Int) (l0_1 : List (S109)) (a1 : Int) (a2_0 : Int) (a2_1 : Int) (a2_2 : Int) (a2_3 : Int) : Option (Int × Int × Int × Int × Int × Int × Int × Int) :=
  if in32B l0_1 = true then some ((stepTop a0_0 (l0_1.map toIns) a1 ⟨a2_0, a2_1, a2_2, a2_3⟩).pc, (stepTop a0_0 (l0_1.map toIns) a1 ⟨a2_0, a2_1, a2_2, a2_3⟩).rs.r0, (stepTop a0_0 (l0_1.map toIns) a1 ⟨a2_0, a2_1, a2_2, a2_3⟩).rs.r1,
    (stepTop a0_0 (l0_1.map toIns) a1 ⟨a2_0, a2_1, a2_2, a2_3⟩).rs.r2, (stepTop a0_0 (l0_1.map toIns) a1 ⟨a2_0, a2_1, a2_2, a2_3⟩).rs.r3, (stepTop a0_0 (l0_1.map toIns) a1 ⟨a2_0, a2_1, a2_2, a2_3⟩).op, (stepTop a0_0 (l0_1.map toIns) a1 ⟨a2_0, a2_1, a2_2, a2_3⟩).reg, (stepTop a0_0 (l0_1.map toIns) a1 ⟨a2_0, a2_1, a2_2, a2_3⟩).n) else none
theorem exec_Step.calls (a0_0 : Int) (A0_1 : Option Addr) (c0_1 : Nat) (l0_1 : List (S109)) (a1 : Int) (a2_0 : Int) (a2_1 : Int) (a2_2 : Int) (a2_3 : Int) (r1 : Int) (r2 : Int) (r3 : Int) (r4 : Int) (r5 : Int) (r6 : Int) (r7 : Int) (r8 : Int) (w : World) (hr0_1 : Kd.C k109 w A0_1 l0_1.length l0_1) (hc0_1 : l0_1.length ≤ c0_1) (h : exec_Step.f a0_0 l0_1 a1 a2_0 a2_1 a2_2 a2_3 = some (r1, r2, r3, r4, r5, r6, r7, r8)) :
    Calls Try.prog 29 #[.agg #[.int .i64 a0_0, .slice A0_1 l0_1.length c0_1], .int .i64 a1, .agg #[.int .i32 a2_0, .int .i32 a2_1, .int .i32 a2_2, .int .i32 a2_3]] w fun e w' => e = .returned (.tuple #[.int .i64 r1, .agg #[.int .i32 r2, .int .i32 r3, .int .i32 r4, .int .i32 r5], .agg #[.int .i64 r6, .int .i64 r7, .int .i32 r8]]) ∧ Below w.heap.size w w' := by
  unfold exec_Step.f at h
  split at h
  · rename_i h32
    have := step_top a0_0 a1 ⟨a2_0, a2_1, a2_2, a2_3⟩ A0_1 c0_1 (l0_1.map toIns) w (by simpa using hc0_1) (insAt_of hr0_1) (insWf_of h32)
    rw [List.length_map] at this
    simp only [Option.some.injEq, Prod.mk.injEq] at h
    obtain ⟨rfl, rfl, rfl, rfl, rfl, rfl, rfl, rfl⟩ := h
    exact this
  · cases h
end Go.Proofs.Ytkegdcnnankokaa.PLint
