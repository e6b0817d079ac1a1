/-
The statement ExecRuns, walked.
-/
import Derived.Test.YtkegdcnnankokaaExecLives
import Derived.Test.YtkegdcnnankokaaRunAny
import Derived.Test.YtkegdcnnankokaaEqRegs
namespace Go.Proofs.Ytkegdcnnankokaa
set_option linter.unusedVariables false
set_option linter.unusedSimpArgs false
open Go.RowKit

set_option maxRecDepth 100000 in
set_option maxHeartbeats 4000000 in
theorem execRuns_any (prio fuel : Int) (r : Regs) (hr : r.ok) (A : Option Addr) (c : Nat) (l : List Ins) (w : World) (hc : l.length ≤ c) (hA : InsAt w A l) (hwf : InsWf l) :
    Calls Try.prog 8 #[.agg #[.int .i64 prio, .slice A l.length c], .agg #[.int .i32 (r).r0, .int .i32 (r).r1, .int .i32 (r).r2, .int .i32 (r).r3], .int .i64 fuel] w fun e w' => e = .returned (.bool true) ∧ Below w.heap.size w w' := by
  have HL := Lib.hid (light_any prio A l.length c)
  by_cases h : l.length ≤ 80
  · obtain ⟨F, hF, hF2⟩ : ∃ F, F = min fuel 300 ∧ F ≤ 300 := ⟨_, rfl, by omega⟩
    have S1 := fun w (hA : InsAt w A l) => (run_any prio r A c l w F (by omega) hc hA hwf).mono (fun _ _ h => runPostN_of h)
    have S2 := fun w (hA : InsAt w A l) => (rrun_any prio r hr A c l w F F.toNat rfl (by omega) hc hA hwf _ rfl).mono (fun _ _ h => runPostN_of h)
    have hq := runT_told prio l F.toNat 0 r []
    generalize runT prio l F.toNat 0 r [] = q at S1 S2 hq
    have hq' : q.told.length ≤ 1000000 := by simp at hq; omega
    have H1 := Lib.hid S1
    have H2 := Lib.hid S2
    have HA := Lib.hid hA
    have hE := eqRegs_self q.rs
    clear S1 S2 hA hwf hr hq
    have hd : decide (l.length ≤ 80) = true := decide_eq_true h
    rw [hd] at HL
    clear hd
    by_cases hfu : fuel ≤ 300
    · obtain rfl : F = fuel := by omega
      clear hF
      go_enter Try.func8, Try.ntmps8
      go_wp2_with fail
      refine (HL.out _).mono ?_
      rintro e wx1 ⟨rfl, hb1⟩; obtain ⟨os1, d1, rfl⟩ := World.ext_of_below hb1; clear hb1
      go_wp2_with fail
      refine (H1.out _ (HA.out.below (by repeat (first | exact bel_refl _ | with_reducible apply bel_alloc | with_reducible apply bel_ext | with_reducible apply bel_drew | with_reducible apply bel_drewN | ((with_reducible refine bel_set ?_ (by simp <;> omega))) | ((with_reducible refine bel_trans ?_ (by assumption))))))).mono ?_
      rintro e w2 ⟨A2, c2, os2, d2, rfl, rfl, hc2, hN2⟩
      try simp only [World.ext_ext] at hN2
      have HN2 := Lib.hid hN2
      clear hN2
      go_wp2_with fail
      refine (H2.out _ (HA.out.below (by repeat (first | exact bel_refl _ | with_reducible apply bel_alloc | with_reducible apply bel_ext | with_reducible apply bel_drew | with_reducible apply bel_drewN | ((with_reducible refine bel_set ?_ (by simp <;> omega))) | ((with_reducible refine bel_trans ?_ (by assumption))))))).mono ?_
      rintro e w3 ⟨A3, c3, os3, d3, rfl, rfl, hc3, hN3⟩
      try simp only [World.ext_ext] at hN3
      have HN3 := Lib.hid hN3
      clear hN3
      go_wp2_with fail
      refine (sameWords_true _ _ _ _ q.told _ hq' hc2 hc3 (HN2.out.below (by repeat (first | exact bel_refl _ | with_reducible apply bel_alloc | with_reducible apply bel_ext | with_reducible apply bel_drew | with_reducible apply bel_drewN | ((with_reducible refine bel_set ?_ (by simp <;> omega))) | ((with_reducible refine bel_trans ?_ (by assumption)))))) (HN3.out.below (by repeat (first | exact bel_refl _ | with_reducible apply bel_alloc | with_reducible apply bel_ext | with_reducible apply bel_drew | with_reducible apply bel_drewN | ((with_reducible refine bel_set ?_ (by simp <;> omega))) | ((with_reducible refine bel_trans ?_ (by assumption))))))).mono ?_
      rintro e wx4 ⟨rfl, hb4⟩; obtain ⟨os4, d4, rfl⟩ := World.ext_of_below hb4; clear hb4
      go_wp2_with fail
      refine (lives_any _).mono ?_
      rintro e wx5 ⟨rfl, hb5⟩; obtain ⟨os5, d5, rfl⟩ := World.ext_of_below hb5; clear hb5
      go_wp2_with fail
      go_ret
      refine ⟨rfl, ?_⟩
      repeat (first | exact bel_refl _ | with_reducible apply bel_alloc | with_reducible apply bel_ext | with_reducible apply bel_drew | with_reducible apply bel_drewN | ((with_reducible refine bel_set ?_ (by simp <;> omega))) | ((with_reducible refine bel_trans ?_ (by assumption))))
    · obtain rfl : F = 300 := by omega
      clear hF
      have hfu' : (300 : Int) < fuel := by omega
      go_enter Try.func8, Try.ntmps8
      go_wp2_with fail
      refine (HL.out _).mono ?_
      rintro e wx1 ⟨rfl, hb1⟩; obtain ⟨os1, d1, rfl⟩ := World.ext_of_below hb1; clear hb1
      go_wp2_with fail
      refine (H1.out _ (HA.out.below (by repeat (first | exact bel_refl _ | with_reducible apply bel_alloc | with_reducible apply bel_ext | with_reducible apply bel_drew | with_reducible apply bel_drewN | ((with_reducible refine bel_set ?_ (by simp <;> omega))) | ((with_reducible refine bel_trans ?_ (by assumption))))))).mono ?_
      rintro e w2 ⟨A2, c2, os2, d2, rfl, rfl, hc2, hN2⟩
      try simp only [World.ext_ext] at hN2
      have HN2 := Lib.hid hN2
      clear hN2
      go_wp2_with fail
      refine (H2.out _ (HA.out.below (by repeat (first | exact bel_refl _ | with_reducible apply bel_alloc | with_reducible apply bel_ext | with_reducible apply bel_drew | with_reducible apply bel_drewN | ((with_reducible refine bel_set ?_ (by simp <;> omega))) | ((with_reducible refine bel_trans ?_ (by assumption))))))).mono ?_
      rintro e w3 ⟨A3, c3, os3, d3, rfl, rfl, hc3, hN3⟩
      try simp only [World.ext_ext] at hN3
      have HN3 := Lib.hid hN3
      clear hN3
      go_wp2_with fail
      refine (sameWords_true _ _ _ _ q.told _ hq' hc2 hc3 (HN2.out.below (by repeat (first | exact bel_refl _ | with_reducible apply bel_alloc | with_reducible apply bel_ext | with_reducible apply bel_drew | with_reducible apply bel_drewN | ((with_reducible refine bel_set ?_ (by simp <;> omega))) | ((with_reducible refine bel_trans ?_ (by assumption)))))) (HN3.out.below (by repeat (first | exact bel_refl _ | with_reducible apply bel_alloc | with_reducible apply bel_ext | with_reducible apply bel_drew | with_reducible apply bel_drewN | ((with_reducible refine bel_set ?_ (by simp <;> omega))) | ((with_reducible refine bel_trans ?_ (by assumption))))))).mono ?_
      rintro e wx4 ⟨rfl, hb4⟩; obtain ⟨os4, d4, rfl⟩ := World.ext_of_below hb4; clear hb4
      go_wp2_with fail
      refine (lives_any _).mono ?_
      rintro e wx5 ⟨rfl, hb5⟩; obtain ⟨os5, d5, rfl⟩ := World.ext_of_below hb5; clear hb5
      go_wp2_with fail
      go_ret
      refine ⟨rfl, ?_⟩
      repeat (first | exact bel_refl _ | with_reducible apply bel_alloc | with_reducible apply bel_ext | with_reducible apply bel_drew | with_reducible apply bel_drewN | ((with_reducible refine bel_set ?_ (by simp <;> omega))) | ((with_reducible refine bel_trans ?_ (by assumption))))
  · have hd : decide (l.length ≤ 80) = false := decide_eq_false h
    rw [hd] at HL
    clear hd
    go_enter Try.func8, Try.ntmps8
    go_wp2_with fail
    refine (HL.out _).mono ?_
    rintro e wx1 ⟨rfl, hb1⟩; obtain ⟨os1, d1, rfl⟩ := World.ext_of_below hb1; clear hb1
    go_wp2_with fail
    refine (lives_any _).mono ?_
    rintro e wx4 ⟨rfl, hb4⟩; obtain ⟨os4, d4, rfl⟩ := World.ext_of_below hb4; clear hb4
    go_wp2_with fail
    go_ret
    refine ⟨rfl, ?_⟩
    repeat (first | exact bel_refl _ | with_reducible apply bel_alloc | with_reducible apply bel_ext | with_reducible apply bel_drew | with_reducible apply bel_drewN | ((with_reducible refine bel_set ?_ (by simp <;> omega))) | ((with_reducible refine bel_trans ?_ (by assumption))))

end Go.Proofs.Ytkegdcnnankokaa
