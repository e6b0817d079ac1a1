/-
The statement ExecSteps, walked: whatever the program, the place and the registers, it answers true, and makes but new blocks.
-/
import Derived.Test.YtkegdcnnankokaaExecLives
import Derived.Test.YtkegdcnnankokaaRefStep2
import Derived.Test.YtkegdcnnankokaaEqRegs
namespace Go.Proofs.Ytkegdcnnankokaa
set_option linter.unusedVariables false
set_option linter.unusedSimpArgs false
open Go.RowKit

set_option maxRecDepth 100000 in
set_option maxHeartbeats 4000000 in
theorem execSteps_any (prio pc : Int) (r : Regs) (hr : r.ok) (A : Option Addr) (c : Nat) (l : List Ins) (w : World) (hc : l.length ≤ c) (hA : InsAt w A l) (hwf : InsWf l) :
    Calls Try.prog 6 #[.agg #[.int .i64 prio, .slice A l.length c], .int .i64 pc, .agg #[.int .i32 (r).r0, .int .i32 (r).r1, .int .i32 (r).r2, .int .i32 (r).r3]] w fun e w' => e = .returned (.bool true) ∧ Below w.heap.size w w' := by
  have S1 := fun w (hA : InsAt w A l) => step_top prio pc r A c l w hc hA hwf
  have S2 := fun w (hA : InsAt w A l) => rstep_top prio pc r hr A c l w hc hA hwf
  generalize stepTop prio l pc r = q at S1 S2
  have H1 := Lib.hid S1
  have H2 := Lib.hid S2
  have HL := Lib.hid (light_any prio A l.length c)
  have HA := Lib.hid hA
  clear S1 S2 hA hwf hr
  have hE := eqRegs_self q.rs
  by_cases h : l.length ≤ 80
  · have hd : decide (l.length ≤ 80) = true := decide_eq_true h
    rw [hd] at HL
    clear hd
    go_enter Try.func6, Try.ntmps6
    go_wp2_with fail
    refine (HL.out _).mono ?_
    rintro e wx1 ⟨rfl, hb1⟩; obtain ⟨os1, d1, rfl⟩ := World.ext_of_below hb1; clear hb1
    go_wp2_with fail
    refine (H1.out _ (HA.out.below (by repeat (first | exact bel_refl _ | with_reducible apply bel_alloc | with_reducible apply bel_ext | with_reducible apply bel_drew | with_reducible apply bel_drewN | ((with_reducible refine bel_set ?_ (by simp <;> omega))) | ((with_reducible refine bel_trans ?_ (by assumption))))))).mono ?_
    rintro e wx2 ⟨rfl, hb2⟩; obtain ⟨os2, d2, rfl⟩ := World.ext_of_below hb2; clear hb2
    go_wp2_with fail
    refine (H2.out _ (HA.out.below (by repeat (first | exact bel_refl _ | with_reducible apply bel_alloc | with_reducible apply bel_ext | with_reducible apply bel_drew | with_reducible apply bel_drewN | ((with_reducible refine bel_set ?_ (by simp <;> omega))) | ((with_reducible refine bel_trans ?_ (by assumption))))))).mono ?_
    rintro e wx3 ⟨rfl, hb3⟩; obtain ⟨os3, d3, rfl⟩ := World.ext_of_below hb3; clear hb3
    go_wp2_with fail
    refine (lives_any _).mono ?_
    rintro e wx4 ⟨rfl, hb4⟩; obtain ⟨os4, d4, rfl⟩ := World.ext_of_below hb4; clear hb4
    go_wp2_with fail
    go_ret
    refine ⟨rfl, ?_⟩
    repeat (first | exact bel_refl _ | with_reducible apply bel_alloc | with_reducible apply bel_ext | with_reducible apply bel_drew | with_reducible apply bel_drewN | ((with_reducible refine bel_set ?_ (by simp <;> omega))) | ((with_reducible refine bel_trans ?_ (by assumption))))
  · have hd : decide (l.length ≤ 80) = false := decide_eq_false h
    rw [hd] at HL
    clear hd
    go_enter Try.func6, Try.ntmps6
    go_wp2_with fail
    refine (HL.out _).mono ?_
    rintro e wx1 ⟨rfl, hb1⟩; obtain ⟨os1, d1, rfl⟩ := World.ext_of_below hb1; clear hb1
    go_wp2_with fail
    refine (lives_any _).mono ?_
    rintro e wx4 ⟨rfl, hb4⟩; obtain ⟨os4, d4, rfl⟩ := World.ext_of_below hb4; clear hb4
    go_wp2_with fail
    go_ret
    refine ⟨rfl, ?_⟩
    repeat (first | exact bel_refl _ | with_reducible apply bel_alloc | with_reducible apply bel_ext | with_reducible apply bel_drew | with_reducible apply bel_drewN | ((with_reducible refine bel_set ?_ (by simp <;> omega))) | ((with_reducible refine bel_trans ?_ (by assumption))))

end Go.Proofs.Ytkegdcnnankokaa
