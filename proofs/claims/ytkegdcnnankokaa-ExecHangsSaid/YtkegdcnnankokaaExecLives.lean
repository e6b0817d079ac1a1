/-
The statements' helpers light and lives (pinfoldlaw10).
-/
import Derived.Test.YtkegdcnnankokaaExecStep2
namespace Go.Proofs.Ytkegdcnnankokaa
set_option linter.unusedVariables false
set_option linter.unusedSimpArgs false
open Go.RowKit

set_option maxHeartbeats 1000000 in
theorem light_any (prio : Int) (A : Option Addr) (n c : Nat) (w : World) : Calls Try.prog 27 #[.agg #[.int .i64 prio, .slice A n c]] w fun e w' => e = .returned (.bool (decide (n ≤ 80))) ∧ Below w.heap.size w w' := by
  go_enter Try.func27, Try.ntmps27
  go_wp2
  go_ret
  refine ⟨by simp; omega, ?_⟩
  repeat (first | exact bel_refl _ | with_reducible apply bel_alloc | with_reducible apply bel_ext | with_reducible apply bel_drew | with_reducible apply bel_drewN | ((with_reducible refine bel_set ?_ (by simp <;> omega))) | ((with_reducible refine bel_trans ?_ (by assumption))))

def livesL : List Ins := [⟨1, 1, 0, 3⟩, ⟨2, 0, 1, 0⟩, ⟨14, 0, 0, 0⟩]
theorem livesL_wf : InsWf livesL := by unfold InsWf livesL; intro x hx; simp at hx; rcases hx with rfl | rfl | rfl <;> decide
theorem lives1 : stepTop 0 livesL 0 ⟨0, 0, 0, 0⟩ = ⟨1, ⟨0, 3, 0, 0⟩, 0, 0, 0⟩ := by
  simp [stepTop, checkS, checkL, livesL, firstErr, Ins.err, insErr, regOK, shA, shB, numErr, mostN, lastOp, stepS, Regs.set, setAt]
theorem lives2 : stepTop 0 livesL 1 ⟨0, 3, 0, 0⟩ = ⟨2, ⟨3, 3, 0, 0⟩, 0, 0, 0⟩ := by
  simp [stepTop, checkS, checkL, livesL, firstErr, Ins.err, insErr, regOK, shA, shB, numErr, mostN, lastOp, stepS, Regs.get, Regs.set, setAt, wrap32]
theorem lives3 : stepTop 0 livesL 2 ⟨3, 3, 0, 0⟩ = ⟨2, ⟨3, 3, 0, 0⟩, 14, 0, 3⟩ := by
  simp [stepTop, checkS, checkL, livesL, firstErr, Ins.err, insErr, regOK, shA, shB, numErr, mostN, lastOp, stepS, Regs.get]
set_option maxHeartbeats 4000000 in
theorem lives_any (w : World) : Calls Try.prog 28 #[] w fun e w' => e = .returned (.bool true) ∧ Below w.heap.size w w' := by
  have S1 : ∀ w A c, 3 ≤ c → InsAt w A livesL → Calls Try.prog 29 #[.agg #[.int .i64 0, .slice A 3 c], .int .i64 0, .agg #[.int .i32 0, .int .i32 0, .int .i32 0, .int .i32 0]] w fun e w' =>
      e = .returned (.tuple #[.int .i64 1, .agg #[.int .i32 0, .int .i32 3, .int .i32 0, .int .i32 0], .agg #[.int .i64 0, .int .i64 0, .int .i32 0]]) ∧ Below w.heap.size w w' :=
    fun w A c hc hA => by have := step_top 0 0 ⟨0, 0, 0, 0⟩ A c livesL w hc hA livesL_wf; rw [lives1] at this; exact this
  have S2 : ∀ w A c, 3 ≤ c → InsAt w A livesL → Calls Try.prog 29 #[.agg #[.int .i64 0, .slice A 3 c], .int .i64 1, .agg #[.int .i32 0, .int .i32 3, .int .i32 0, .int .i32 0]] w fun e w' =>
      e = .returned (.tuple #[.int .i64 2, .agg #[.int .i32 3, .int .i32 3, .int .i32 0, .int .i32 0], .agg #[.int .i64 0, .int .i64 0, .int .i32 0]]) ∧ Below w.heap.size w w' :=
    fun w A c hc hA => by have := step_top 0 1 ⟨0, 3, 0, 0⟩ A c livesL w hc hA livesL_wf; rw [lives2] at this; exact this
  have S3 : ∀ w A c, 3 ≤ c → InsAt w A livesL → Calls Try.prog 29 #[.agg #[.int .i64 0, .slice A 3 c], .int .i64 2, .agg #[.int .i32 3, .int .i32 3, .int .i32 0, .int .i32 0]] w fun e w' =>
      e = .returned (.tuple #[.int .i64 2, .agg #[.int .i32 3, .int .i32 3, .int .i32 0, .int .i32 0], .agg #[.int .i64 14, .int .i64 0, .int .i32 3]]) ∧ Below w.heap.size w w' :=
    fun w A c hc hA => by have := step_top 0 2 ⟨3, 3, 0, 0⟩ A c livesL w hc hA livesL_wf; rw [lives3] at this; exact this
  have H1 := Lib.hid S1
  have H2 := Lib.hid S2
  have H3 := Lib.hid S3
  clear S1 S2 S3
  go_enter Try.func28, Try.ntmps28
  go_wp2_with fail
  have HI : InsAt (w.alloc (.cells #[.int .i64 1, .int .i64 1, .int .i64 0, .int .i32 3, .int .i64 2, .int .i64 0, .int .i64 1, .int .i32 0, .int .i64 14, .int .i64 0, .int .i64 0, .int .i32 0] 109)) (some ⟨w.heap.size, 0, none⟩) livesL := by
    intro i hi
    have hi' : i = 0 ∨ i = 1 ∨ i = 2 := by simp [livesL] at hi; omega
    rcases hi' with rfl | rfl | rfl <;> exact ⟨_, rfl, by simp [livesL, Addr.add], by simp [livesL, Addr.add], by simp [livesL, Addr.add], by simp [livesL, Addr.add]⟩
  have HI := Lib.hid HI
  refine (H1.out _ _ _ (by decide) (HI.out.below (by repeat (first | exact bel_refl _ | with_reducible apply bel_alloc | with_reducible apply bel_ext | with_reducible apply bel_drew | with_reducible apply bel_drewN | ((with_reducible refine bel_set ?_ (by simp <;> omega))) | ((with_reducible refine bel_trans ?_ (by assumption))))))).mono ?_
  rintro e wx1 ⟨rfl, hb1⟩; obtain ⟨os1, d1, rfl⟩ := World.ext_of_below hb1; clear hb1
  go_wp2_with fail
  refine (H2.out _ _ _ (by decide) (HI.out.below (by repeat (first | exact bel_refl _ | with_reducible apply bel_alloc | with_reducible apply bel_ext | with_reducible apply bel_drew | with_reducible apply bel_drewN | ((with_reducible refine bel_set ?_ (by simp <;> omega))) | ((with_reducible refine bel_trans ?_ (by assumption))))))).mono ?_
  rintro e wx2 ⟨rfl, hb2⟩; obtain ⟨os2, d2, rfl⟩ := World.ext_of_below hb2; clear hb2
  go_wp2_with fail
  refine (H3.out _ _ _ (by decide) (HI.out.below (by repeat (first | exact bel_refl _ | with_reducible apply bel_alloc | with_reducible apply bel_ext | with_reducible apply bel_drew | with_reducible apply bel_drewN | ((with_reducible refine bel_set ?_ (by simp <;> omega))) | ((with_reducible refine bel_trans ?_ (by assumption))))))).mono ?_
  rintro e wx3 ⟨rfl, hb3⟩; obtain ⟨os3, d3, rfl⟩ := World.ext_of_below hb3; clear hb3
  go_wp2_with fail
  go_ret
  refine ⟨rfl, ?_⟩
  repeat (first | exact bel_refl _ | with_reducible apply bel_alloc | with_reducible apply bel_ext | with_reducible apply bel_drew | with_reducible apply bel_drewN | ((with_reducible refine bel_set ?_ (by simp <;> omega))) | ((with_reducible refine bel_trans ?_ (by assumption))))

end Go.Proofs.Ytkegdcnnankokaa
