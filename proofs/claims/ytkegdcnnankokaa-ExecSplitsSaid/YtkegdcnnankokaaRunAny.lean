/-
exec.Run and the reference's Run, at any program and any fuel up to 65535: the same answer.
-/
import Derived.Test.YtkegdcnnankokaaRun
import Derived.Test.YtkegdcnnankokaaRefRun
import Derived.Test.YtkegdcnnankokaaSameWords
namespace Go.Proofs.Ytkegdcnnankokaa
set_option linter.unusedVariables false
set_option linter.unusedSimpArgs false
open Go.RowKit

theorem run_any (prio : Int) (r : Regs) (A : Option Addr) (c : Nat) (l : List Ins) (w : World) (fuel : Int) (hf : fuel ≤ 65536) (hc : l.length ≤ c) (hA : InsAt w A l) (hwf : InsWf l) :
    Calls Try.prog 32 #[.agg #[.int .i64 prio, .slice A l.length c], .agg #[.int .i32 (r).r0, .int .i32 (r).r1, .int .i32 (r).r2, .int .i32 (r).r3], .int .i64 fuel] w (runPost w (runT prio l fuel.toNat 0 r [])) := by
  by_cases h0 : 0 < fuel
  · by_cases h1 : (checkS prio l).1 = 0
    · obtain ⟨K, rfl⟩ := Int.eq_ofNat_of_zero_le (show 0 ≤ fuel by omega)
      exact run_good prio r A c l w K (by omega) hc hA hwf (checkS prio l).2 (by rw [← h1]) _ rfl
    · have e : runT prio l fuel.toNat 0 r [] = ⟨0, r, [], 14, 0, -1⟩ := by
        rw [show fuel.toNat = (fuel.toNat - 1) + 1 by omega]
        have hs : stepTop prio l 0 r = ⟨0, r, 14, 0, -1⟩ := by unfold stepTop; rw [if_pos (.inl h1)]
        exact runT_end hs (by simp) (by simp) (by simp)
      rw [e]
      exact run_bad prio r A c l w fuel h0 hf hc hA hwf _ rfl (by rw [bne_iff_ne]; exact h1)
  · rw [show fuel.toNat = 0 by omega]
    exact run_zero prio r A c l w fuel h0 hc hA hwf

/-- a run's answer, its slice read only. -/
def runPostN (w : World) (q : RunRes) (e : Ending) (w' : World) : Prop :=
  ∃ A c os d, e = .returned (.tuple #[.int .i64 q.pc, .agg #[.int .i32 (q.rs).r0, .int .i32 (q.rs).r1, .int .i32 (q.rs).r2, .int .i32 (q.rs).r3], .slice A q.told.length c, .agg #[.int .i64 q.op, .int .i64 q.reg, .int .i32 q.n]]) ∧ w' = w.ext os d ∧ q.told.length ≤ c ∧ NumsAt (w.ext os d) .i32 A q.told
theorem runPostN_of {w : World} {q : RunRes} {e : Ending} {w' : World} (h : runPost w q e w') : runPostN w q e w' := by
  obtain ⟨v, os, d, rfl, rfl, hown⟩ := h
  obtain ⟨A, c, rfl, h1, _, h3⟩ := OwnE.nums hown
  exact ⟨A, c, os, d, rfl, rfl, h1, h3 d⟩
end Go.Proofs.Ytkegdcnnankokaa
