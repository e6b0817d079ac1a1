/-
exec.Run: a run of any program.
-/
import Derived.Test.YtkegdcnnankokaaRunPost
import Derived.Test.YtkegdcnnankokaaExecStep2
namespace Go.Proofs.Ytkegdcnnankokaa
set_option linter.unusedVariables false
set_option linter.unusedSimpArgs false
open Go.RowKit

set_option maxHeartbeats 4000000 in
theorem run_bad (prio : Int) (r : Regs) (A : Option Addr) (c : Nat) (l : List Ins) (w : World) (fuel : Int) (hf : 0 < fuel) (hf2 : fuel ≤ 65536) (hc : l.length ≤ c) (hA : InsAt w A l) (hwf : InsWf l) (E : Int × Int) (hE : checkS prio l = E) (h : (E.1 != 0) = true) :
    Calls Try.prog 32 #[.agg #[.int .i64 prio, .slice A l.length c], .agg #[.int .i32 (r).r0, .int .i32 (r).r1, .int .i32 (r).r2, .int .i32 (r).r3], .int .i64 fuel] w (runPost w ⟨0, r, [], 14, 0, -1⟩) := by
  have HC := fun w (hA : InsAt w A l) => check_any prio A c l w hc hA hwf
  rw [hE] at HC
  have HA := Lib.hid hA
  clear hA hE hwf
  obtain ⟨E1, E2⟩ := E
  simp only at h
  have HC' := Lib.hid HC
  clear HC
  go_enter Try.func32, Try.ntmps32
  go_wp2_with fail
  refine (HC'.out _ (HA.out.below (by repeat (first | exact bel_refl _ | with_reducible apply bel_alloc | with_reducible apply bel_ext | with_reducible apply bel_drew | with_reducible apply bel_drewN | ((with_reducible refine bel_set ?_ (by simp <;> omega))) | ((with_reducible refine bel_trans ?_ (by assumption))))))).mono ?_
  rintro e wx1 ⟨rfl, hb1⟩; obtain ⟨os1, d1, rfl⟩ := World.ext_of_below hb1; clear hb1
  go_wp2_with fail
  go_region_with (go_at_call 60; refine (bad_any _).mono ?_; rintro e wx2 ⟨rfl, hb2⟩; obtain ⟨os2, d2, rfl⟩ := World.ext_of_below hb2; clear hb2)
  all_goals go_wp2_with fail
  all_goals
    refine bodyPost_ret (v := .tuple #[.int .i64 (0), .agg #[.int .i32 (r).r0, .int .i32 (r).r1, .int .i32 (r).r2, .int .i32 (r).r3], .slice none 0 0, .agg #[.int .i64 (14), .int .i64 (0), .int .i32 ((-1))]]) (by simp [results, Try.results32, go_sem] <;> first | rfl | exact ⟨rfl, rfl, rfl, rfl⟩ | decide) rfl ?_
    exact runPost_mk (q := ⟨0, r, [], 14, 0, -1⟩) (by repeat (first | exact bel_refl _ | with_reducible apply bel_alloc | with_reducible apply bel_ext | with_reducible apply bel_drew | with_reducible apply bel_drewN | ((with_reducible refine bel_set ?_ (by simp <;> omega))) | ((with_reducible refine bel_trans ?_ (by assumption))))) (own_nil_row _ _ _ _)

set_option maxHeartbeats 4000000 in
theorem run_zero (prio : Int) (r : Regs) (A : Option Addr) (c : Nat) (l : List Ins) (w : World) (fuel : Int) (hf : ¬ 0 < fuel) (hc : l.length ≤ c) (hA : InsAt w A l) (hwf : InsWf l) :
    Calls Try.prog 32 #[.agg #[.int .i64 prio, .slice A l.length c], .agg #[.int .i32 (r).r0, .int .i32 (r).r1, .int .i32 (r).r2, .int .i32 (r).r3], .int .i64 fuel] w (runPost w ⟨0, r, [], 0, 0, 0⟩) := by
  have HC := fun w (hA : InsAt w A l) => check_any prio A c l w hc hA hwf
  have HA := Lib.hid hA
  clear hA hwf
  generalize checkS prio l = E at HC
  obtain ⟨E1, E2⟩ := E
  have HC' := Lib.hid HC
  clear HC
  have hf2 : fuel ≤ 65536 := by omega
  by_cases h : E1 = 0
  · have h' : (E1 != 0) = false := by rw [h]; rfl
    clear h
    go_enter Try.func32, Try.ntmps32
    go_wp2_with fail
    refine (HC'.out _ (HA.out.below (by repeat (first | exact bel_refl _ | with_reducible apply bel_alloc | with_reducible apply bel_ext | with_reducible apply bel_drew | with_reducible apply bel_drewN | ((with_reducible refine bel_set ?_ (by simp <;> omega))) | ((with_reducible refine bel_trans ?_ (by assumption))))))).mono ?_
    rintro e wx1 ⟨rfl, hb1⟩; obtain ⟨os1, d1, rfl⟩ := World.ext_of_below hb1; clear hb1
    go_wp2_with fail
    refine wp_loop_rounds 1 ?_
    rw [rounds_succ]
    go_wp2_with fail
    all_goals (first | go_region | skip)
    all_goals go_wp2
    all_goals
      refine bodyPost_ret (v := .tuple #[.int .i64 (0), .agg #[.int .i32 (r).r0, .int .i32 (r).r1, .int .i32 (r).r2, .int .i32 (r).r3], .slice none 0 0, .agg #[.int .i64 (0), .int .i64 (0), .int .i32 (0)]]) (by simp [results, Try.results32, go_sem] <;> first | rfl | exact ⟨rfl, rfl, rfl, rfl⟩ | decide) rfl ?_
      exact runPost_mk (q := ⟨0, r, [], 0, 0, 0⟩) (by repeat (first | exact bel_refl _ | with_reducible apply bel_alloc | with_reducible apply bel_ext | with_reducible apply bel_drew | with_reducible apply bel_drewN | ((with_reducible refine bel_set ?_ (by simp <;> omega))) | ((with_reducible refine bel_trans ?_ (by assumption))))) (own_nil_row _ _ _ _)
  · have h' : (E1 != 0) = true := by rw [bne_iff_ne]; exact h
    clear h
    go_enter Try.func32, Try.ntmps32
    go_wp2_with fail
    refine (HC'.out _ (HA.out.below (by repeat (first | exact bel_refl _ | with_reducible apply bel_alloc | with_reducible apply bel_ext | with_reducible apply bel_drew | with_reducible apply bel_drewN | ((with_reducible refine bel_set ?_ (by simp <;> omega))) | ((with_reducible refine bel_trans ?_ (by assumption))))))).mono ?_
    rintro e wx1 ⟨rfl, hb1⟩; obtain ⟨os1, d1, rfl⟩ := World.ext_of_below hb1; clear hb1
    go_wp2_with fail
    refine wp_loop_rounds 1 ?_
    rw [rounds_succ]
    go_wp2_with fail
    all_goals (first | go_region | skip)
    all_goals go_wp2
    all_goals
      refine bodyPost_ret (v := .tuple #[.int .i64 (0), .agg #[.int .i32 (r).r0, .int .i32 (r).r1, .int .i32 (r).r2, .int .i32 (r).r3], .slice none 0 0, .agg #[.int .i64 (0), .int .i64 (0), .int .i32 (0)]]) (by simp [results, Try.results32, go_sem] <;> first | rfl | exact ⟨rfl, rfl, rfl, rfl⟩ | decide) rfl ?_
      exact runPost_mk (q := ⟨0, r, [], 0, 0, 0⟩) (by repeat (first | exact bel_refl _ | with_reducible apply bel_alloc | with_reducible apply bel_ext | with_reducible apply bel_drew | with_reducible apply bel_drewN | ((with_reducible refine bel_set ?_ (by simp <;> omega))) | ((with_reducible refine bel_trans ?_ (by assumption))))) (own_nil_row _ _ _ _)

set_option maxRecDepth 100000 in
set_option maxHeartbeats 16000000 in
theorem run_good (prio : Int) (r0 : Regs) (A : Option Addr) (c : Nat) (l : List Ins) (w : World) (K : Nat) (hK : K ≤ 65536) (hc : l.length ≤ c) (hA : InsAt w A l) (hwf : InsWf l) (E2 : Int) (hE : checkS prio l = (0, E2)) (res : RunRes) (hres : runT prio l K 0 r0 [] = res) :
    Calls Try.prog 32 #[.agg #[.int .i64 prio, .slice A l.length c], .agg #[.int .i32 (r0).r0, .int .i32 (r0).r1, .int .i32 (r0).r2, .int .i32 (r0).r3], .int .i64 K] w (runPost w res) := by
  have hok := checkS_ok (prio := prio) (l := l) (by rw [hE])
  obtain ⟨hpos, hlen, hall⟩ := hok
  have hall' := Lib.hid hall
  have hE' := Lib.hid hE
  have hres' := Lib.hid hres
  have HC := fun w (hA : InsAt w A l) => check_any prio A c l w hc hA hwf
  rw [hE] at HC
  have HA := Lib.hid hA
  have HC' := Lib.hid HC
  have Hwf := Lib.hid hwf
  clear hA hE hwf HC hall hres
  have hKi : (K : Int) ≤ 65536 := by omega
  go_enter Try.func32, Try.ntmps32
  go_wp2_with fail
  refine (HC'.out _ (HA.out.below (by repeat (first | exact bel_refl _ | with_reducible apply bel_alloc | with_reducible apply bel_ext | with_reducible apply bel_drew | with_reducible apply bel_drewN | ((with_reducible refine bel_set ?_ (by simp <;> omega))) | ((with_reducible refine bel_trans ?_ (by assumption))))))).mono ?_
  rintro e wx1 ⟨rfl, hb1⟩; obtain ⟨os1, d1, rfl⟩ := World.ext_of_below hb1; clear hb1
  go_wp2_with fail
  go_loopw [6, 8, 29] (fun p v i wr => ∃ (k pc : Nat) (r : Regs) (t : List Int) (e0 e1 e2 : Int) (os : Array Obj) (d : Nat), k ≤ K ∧ pc < l.length ∧ p = .int .i64 pc ∧ i = .int .i64 k ∧ runT prio l (K - k) pc r t = res ∧ t.length ≤ k ∧
      wr = ((((w.alloc (.cells #[.int .i64 prio, .slice A l.length c] 43)).alloc (.cells #[.int .i32 r0.r0, .int .i32 r0.r1, .int .i32 r0.r2, .int .i32 r0.r3] 44)).alloc (.cells #[.int .i32 r.r0, .int .i32 r.r1, .int .i32 r.r2, .int .i32 r.r3] 44)).alloc (.cells #[.int .i64 e0, .int .i64 e1, .int .i32 e2] 47)).ext os d ∧
      OwnE (w.heap.size + 1 + 1 + 1 + 1) os 21 1 v t.length (t.map (Value.int .i32))) (fun _ _ i _ => K - (intOf i).toNat)
  case atStart => exact ⟨0, 0, r0, [], 0, 0, 0, os1, d1, Nat.zero_le _, hpos, rfl, rfl, hres'.out, Nat.le_refl _, rfl, OwnE.nil _ _ _ _⟩
  case round =>
    obtain ⟨k, pc, r, t, e0, e1, e2, os, d, hk, hpc, rfl, rfl, hrun, htl, rfl, hown⟩ := hrel
    by_cases hlt : k < K
    · have hlt' : (k : Int) < K := by omega
      have hSt := stepTop_good (prio := prio) (l := l) (by rw [hE'.out]) hpc r
      have hPl := stepS_place (prio := prio) (l := l) (by rw [hE'.out]) hpc r
      have hS0 := fun w => step_any l[pc] pc l.length r w (by omega) (by omega) (by omega) (hall'.out pc hpc)
      obtain ⟨ad, rfl, c0, c1, c2, c3⟩ := HA.out pc hpc
      have hin := World.inBlk_of_cell c0
      generalize stepS l[pc] pc r = q at hSt hPl hS0
      have hd : K - k = (K - k - 1) + 1 := by omega
      rw [hd] at hrun
      have HS := Lib.hid hS0
      clear hS0 hd
      obtain ⟨qpc, qrs, qop, qreg, qn⟩ := q
      simp only at hPl
      by_cases h0 : qop = 0
      · subst h0
        have hr := (runT_on hSt (.inl rfl)).symm.trans hrun
        obtain ⟨n1, n2⟩ := hPl (by decide)
        obtain ⟨pc', rfl⟩ := Int.eq_ofNat_of_zero_le n1
        have Hr := Lib.hid hr
        clear hr hrun hSt hPl
        go_wp2_with fail
        go_region_with (go_at_call 61; refine (HS.out _).mono ?_; rintro e wx2 ⟨rfl, hb2⟩; obtain ⟨os2, d2, rfl⟩ := World.ext_of_below hb2; clear hb2)
        all_goals go_wp2_with fail
        all_goals
          go_roundw
          case rel => exact ⟨k + 1, pc', qrs, t, 0, qreg, qn, _, _, by omega, by omega, rfl, by go_num, (by rw [show K - (k + 1) = K - k - 1 by omega]; exact Hr.out), by omega, rfl, hown.app _⟩
          case measure => simp [intOf]; omega
      by_cases h6 : qop = 6
      · subst h6
        have hr := (runT_on hSt (.inr rfl)).symm.trans hrun
        obtain ⟨n1, n2⟩ := hPl (by decide)
        obtain ⟨pc', rfl⟩ := Int.eq_ofNat_of_zero_le n1
        have Hr := Lib.hid hr
        clear hr hrun hSt hPl h0
        go_wp2_with fail
        go_region_with (go_at_call 61; refine (HS.out _).mono ?_; rintro e wx2 ⟨rfl, hb2⟩; obtain ⟨os2, d2, rfl⟩ := World.ext_of_below hb2; clear hb2)
        all_goals go_wp2_with fail
        all_goals
          go_roundw
          case rel => exact ⟨k + 1, pc', qrs, t, 6, qreg, qn, _, _, by omega, by omega, rfl, by go_num, (by rw [show K - (k + 1) = K - k - 1 by omega]; exact Hr.out), by omega, rfl, hown.app _⟩
          case measure => simp [intOf]; omega
      by_cases h13 : qop = 13
      · subst h13
        have hr := (runT_out hSt rfl).symm.trans hrun
        obtain ⟨n1, n2⟩ := hPl (by decide)
        obtain ⟨pc', rfl⟩ := Int.eq_ofNat_of_zero_le n1
        have Hr := Lib.hid hr
        clear hr hrun hSt hPl h0 h6
        go_wp2_with fail
        go_region_with (go_at_call 61; refine (HS.out _).mono ?_; rintro e wx2 ⟨rfl, hb2⟩; obtain ⟨os2, d2, rfl⟩ := World.ext_of_below hb2; clear hb2)
        all_goals go_wp2_with (at_builtin; refine wpList_append_ext _ _ _ rfl _ _ 55 21 (.int .i32 0) 1 4 rfl Try.underlying55 info_i32 rfl (by decide) (by decide) u8 t.length 1 (t.map (Value.int .i32)) _ _ ?_ rfl rfl rfl ?_ ?_ ?_ ?_; simp; simp [Value.oneCell']; (refine OwnE.app ?_ _; simpa using hown); omega; intro v2 os3 d3 hown3 _ _)
        all_goals
          go_roundw
          case rel => exact ⟨k + 1, pc', qrs, t ++ [qn], 13, qreg, qn, os3, d3, by omega, by omega, rfl, by go_num, (by rw [show K - (k + 1) = K - k - 1 by omega]; exact Hr.out), (by simp; omega), rfl, by simpa using hown3⟩
          case measure => simp [intOf]; omega
      · have hr := (runT_end hSt h0 h6 h13).symm.trans hrun
        subst hr
        have b0 : (qop == 0) = false := beq_eq_false_iff_ne.2 h0
        have b6 : (qop == 6) = false := beq_eq_false_iff_ne.2 h6
        have b13 : (qop == 13) = false := beq_eq_false_iff_ne.2 h13
        clear h0 h6 h13 hrun hSt hPl
        go_wp2_with fail
        go_region_with (go_at_call 61; refine (HS.out _).mono ?_; rintro e wx2 ⟨rfl, hb2⟩; obtain ⟨os2, d2, rfl⟩ := World.ext_of_below hb2; clear hb2)
        all_goals go_wp2_with fail
        all_goals (first | go_region | skip)
        all_goals go_wp2
        all_goals
          refine bodyPost_ret (v := .tuple #[.int .i64 (qpc), .agg #[.int .i32 (qrs).r0, .int .i32 (qrs).r1, .int .i32 (qrs).r2, .int .i32 (qrs).r3], u8, .agg #[.int .i64 (qop), .int .i64 (qreg), .int .i32 (qn)]]) (by simp [results, Try.results32, go_sem] <;> first | rfl | exact ⟨rfl, rfl, rfl, rfl⟩ | decide) rfl ?_
          exact runPost_mk (q := ⟨qpc, qrs, t, qop, qreg, qn⟩) (by repeat (first | exact bel_refl _ | with_reducible apply bel_alloc | with_reducible apply bel_ext | with_reducible apply bel_drew | with_reducible apply bel_drewN | ((with_reducible refine bel_set ?_ (by simp <;> omega))) | ((with_reducible refine bel_trans ?_ (by assumption))))) ((OwnE.app (by simpa using hown) _).row_at _ _ (by simp; omega))
    · have hge : ¬ (k : Int) < K := by omega
      have hK0 : K - k = 0 := by omega
      rw [hK0] at hrun
      subst hrun
      clear hK0
      go_wp2_with fail
      all_goals (first | go_region | skip)
      all_goals go_wp2
      all_goals
        refine bodyPost_ret (v := .tuple #[.int .i64 (pc), .agg #[.int .i32 (r).r0, .int .i32 (r).r1, .int .i32 (r).r2, .int .i32 (r).r3], u8, .agg #[.int .i64 (0), .int .i64 (0), .int .i32 (0)]]) (by simp [results, Try.results32, go_sem] <;> first | rfl | exact ⟨rfl, rfl, rfl, rfl⟩ | decide) rfl ?_
        exact runPost_mk (q := ⟨pc, r, t, 0, 0, 0⟩) (by repeat (first | exact bel_refl _ | with_reducible apply bel_alloc | with_reducible apply bel_ext | with_reducible apply bel_drew | with_reducible apply bel_drewN | ((with_reducible refine bel_set ?_ (by simp <;> omega))) | ((with_reducible refine bel_trans ?_ (by assumption))))) ((by simpa using hown : OwnE _ _ _ _ _ _ _).row_at _ _ (by simp; omega))

end Go.Proofs.Ytkegdcnnankokaa
