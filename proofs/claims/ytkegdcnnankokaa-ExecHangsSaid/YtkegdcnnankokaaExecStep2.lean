/-
exec.Step: for every program, place and registers.
-/
import Derived.Test.YtkegdcnnankokaaExecStep
namespace Go.Proofs.Ytkegdcnnankokaa
set_option linter.unusedVariables false
set_option linter.unusedSimpArgs false
open Go.RowKit

set_option maxHeartbeats 4000000 in
theorem step_top_badK (prio pc : Int) (r : Regs) (A : Option Addr) (c : Nat) (l : List Ins) (w : World) (hc : l.length ≤ c) (hA : InsAt w A l) (hwf : InsWf l) (E : Int × Int) (hE : checkS prio l = E)
    (h : (E.1 != 0) = true ∨ ((E.1 != 0) = false ∧ pc < 0) ∨ ((E.1 != 0) = false ∧ 0 ≤ pc ∧ (l.length : Int) ≤ pc)) :
    Calls Try.prog 29 #[.agg #[.int .i64 prio, .slice A l.length c], .int .i64 pc, .agg #[.int .i32 (r).r0, .int .i32 (r).r1, .int .i32 (r).r2, .int .i32 (r).r3]] w (resPost w ⟨pc, r, 14, 0, -1⟩) := by
  have HC := fun w (hA : InsAt w A l) => check_any prio A c l w hc hA hwf
  rw [hE] at HC
  have HA := Lib.hid hA
  clear hA hE hwf
  obtain ⟨E1, E2⟩ := E
  simp only at h
  have HC' := Lib.hid HC
  clear HC
  rcases h with h | ⟨h, h2⟩ | ⟨h, h2, h3⟩
  all_goals
    go_enter Try.func29, Try.ntmps29
    go_wp2_with fail
    refine (HC'.out _ (HA.out.below (by repeat (first | exact bel_refl _ | with_reducible apply bel_alloc | with_reducible apply bel_ext | with_reducible apply bel_drew | with_reducible apply bel_drewN | ((with_reducible refine bel_set ?_ (by simp <;> omega))) | ((with_reducible refine bel_trans ?_ (by assumption))))))).mono ?_
    rintro e wx1 ⟨rfl, hb1⟩; obtain ⟨os1, d1, rfl⟩ := World.ext_of_below hb1; clear hb1
    go_wp2_with fail
    go_region_with (go_at_call 60; refine (bad_any _).mono ?_; rintro e wx2 ⟨rfl, hb2⟩; obtain ⟨os2, d2, rfl⟩ := World.ext_of_below hb2; clear hb2)
    all_goals go_wp2_with fail
    all_goals
      refine bodyPost_ret (v := .tuple #[.int .i64 _, .agg #[_, _, _, _], .agg #[_, _, _]]) (by simp [results, Try.results29, go_sem] <;> first | rfl | decide) rfl ⟨rfl, ?_⟩
      repeat (first | exact bel_refl _ | with_reducible apply bel_alloc | with_reducible apply bel_ext | with_reducible apply bel_drew | with_reducible apply bel_drewN | ((with_reducible refine bel_set ?_ (by simp <;> omega))) | ((with_reducible refine bel_trans ?_ (by assumption))))

set_option maxHeartbeats 4000000 in
theorem step_top_good (prio : Int) (r : Regs) (A : Option Addr) (c : Nat) (l : List Ins) (w : World) (hc : l.length ≤ c) (hA : InsAt w A l) (hwf : InsWf l) (E2 : Int) (hE : checkS prio l = (0, E2))
    (k : Nat) (hk : k < l.length) (q : Res) (hS : stepS l[k] k r = q) :
    Calls Try.prog 29 #[.agg #[.int .i64 prio, .slice A l.length c], .int .i64 k, .agg #[.int .i32 (r).r0, .int .i32 (r).r1, .int .i32 (r).r2, .int .i32 (r).r3]] w (resPost w q) := by
  have hok := checkS_ok (prio := prio) (l := l) (by rw [hE])
  have hlen := hok.2.1
  have HS0 := fun w => step_any l[k] k l.length r w (by omega) (by omega) (by omega) (hok.2.2 k hk)
  rw [hS] at HS0
  have HS := Lib.hid HS0
  have HC := fun w (hA : InsAt w A l) => check_any prio A c l w hc hA hwf
  rw [hE] at HC
  have HA := Lib.hid hA
  have HC' := Lib.hid HC
  obtain ⟨ad, rfl, c0, c1, c2, c3⟩ := hA k hk
  have hlt := World.inBlk_of_cell c0
  clear hA hE hwf HC hok hS HS0
  go_enter Try.func29, Try.ntmps29
  go_wp2_with fail
  refine (HC'.out _ (HA.out.below (by repeat (first | exact bel_refl _ | with_reducible apply bel_alloc | with_reducible apply bel_ext | with_reducible apply bel_drew | with_reducible apply bel_drewN | ((with_reducible refine bel_set ?_ (by simp <;> omega))) | ((with_reducible refine bel_trans ?_ (by assumption))))))).mono ?_
  rintro e wx1 ⟨rfl, hb1⟩; obtain ⟨os1, d1, rfl⟩ := World.ext_of_below hb1; clear hb1
  go_wp2_with fail
  go_region_with (go_at_call 61; refine (HS.out _).mono ?_; rintro e wx2 ⟨rfl, hb2⟩; obtain ⟨os2, d2, rfl⟩ := World.ext_of_below hb2; clear hb2)
  all_goals go_wp2_with fail
  all_goals
    refine bodyPost_ret (v := .tuple #[.int .i64 _, .agg #[_, _, _, _], .agg #[_, _, _]]) (by simp [results, Try.results29, go_sem] <;> first | rfl | decide) rfl ⟨rfl, ?_⟩
    repeat (first | exact bel_refl _ | with_reducible apply bel_alloc | with_reducible apply bel_ext | with_reducible apply bel_drew | with_reducible apply bel_drewN | ((with_reducible refine bel_set ?_ (by simp <;> omega))) | ((with_reducible refine bel_trans ?_ (by assumption))))

theorem step_top (prio pc : Int) (r : Regs) (A : Option Addr) (c : Nat) (l : List Ins) (w : World) (hc : l.length ≤ c) (hA : InsAt w A l) (hwf : InsWf l) :
    Calls Try.prog 29 #[.agg #[.int .i64 prio, .slice A l.length c], .int .i64 pc, .agg #[.int .i32 (r).r0, .int .i32 (r).r1, .int .i32 (r).r2, .int .i32 (r).r3]] w (resPost w (stepTop prio l pc r)) := by
  unfold stepTop
  by_cases h : (checkS prio l).1 ≠ 0 ∨ pc < 0 ∨ (l.length : Int) ≤ pc
  · rw [if_pos h]
    refine step_top_badK prio pc r A c l w hc hA hwf _ rfl ?_
    by_cases h1 : (checkS prio l).1 = 0
    · have h1' : ((checkS prio l).1 != 0) = false := by rw [h1]; rfl
      right
      rcases h with h | h | h
      · exact absurd h1 h
      · exact .inl ⟨h1', h⟩
      · exact .inr ⟨h1', by omega, h⟩
    · exact .inl (by rw [bne_iff_ne]; exact h1)
  · rw [if_neg h]
    obtain ⟨k, rfl⟩ := Int.eq_ofNat_of_zero_le (show 0 ≤ pc by omega)
    have hk : k < l.length := by omega
    have e : l.getD (Int.toNat (k : Int)) default = l[k] := by simp [List.getD, List.getElem?_eq_getElem hk]
    rw [e]
    exact step_top_good prio r A c l w hc hA hwf (checkS prio l).2 (by rw [← show (checkS prio l).1 = 0 by omega]) k hk _ rfl

end Go.Proofs.Ytkegdcnnankokaa
