/-
The reference's Run (pinfoldref10): it answers what exec.Run answers.
-/
import Derived.Test.YtkegdcnnankokaaRunPost
import Derived.Test.YtkegdcnnankokaaRefStep2
namespace Go.Proofs.Ytkegdcnnankokaa
set_option linter.unusedVariables false
set_option linter.unusedSimpArgs false
open Go.RowKit

set_option maxRecDepth 100000 in
set_option maxHeartbeats 16000000 in
theorem rrun_any (prio : Int) (r0 : Regs) (hr0 : r0.ok) (A : Option Addr) (c : Nat) (l : List Ins) (w : World) (fuel : Int) (K : Nat) (hfK : K = fuel.toNat) (hK : K ≤ 65535) (hc : l.length ≤ c) (hA : InsAt w A l) (hwf : InsWf l) (res : RunRes) (hres : runT prio l K 0 r0 [] = res) :
    Calls Try.prog 33 #[.agg #[.int .i64 prio, .slice A l.length c], .agg #[.int .i32 (r0).r0, .int .i32 (r0).r1, .int .i32 (r0).r2, .int .i32 (r0).r3], .int .i64 fuel] w (runPost w res) := by
  have hres' := Lib.hid hres
  have HA := Lib.hid hA
  have Hwf := Lib.hid hwf
  have HfK := Lib.hid hfK
  clear hA hwf hres hfK
  go_enter Try.func33, Try.ntmps33
  go_wp2_with fail
  go_loopw [10, 11, 12] (fun p v i wr => ∃ (k : Nat) (pc : Int) (r : Regs) (t : List Int) (os : Array Obj) (d : Nat), k ≤ K ∧ r.ok ∧ p = .int .i64 pc ∧ i = .int .i64 k ∧ runT prio l (K - k) pc r t = res ∧ t.length ≤ k ∧
      wr = ((((w.alloc (.cells #[.int .i64 prio, .slice A l.length c] 43)).alloc (.cells #[.int .i32 r.r0, .int .i32 r.r1, .int .i32 r.r2, .int .i32 r.r3] 44)).alloc (.cells #[.int .i32 0, .int .i32 0, .int .i32 0, .int .i32 0] 44)).alloc (.cells #[.int .i64 0, .int .i64 0, .int .i32 0] 47)).ext os d ∧
      OwnE (w.heap.size + 1 + 1 + 1 + 1) os 21 1 v t.length (t.map (Value.int .i32))) (fun _ _ i _ => K - (intOf i).toNat)
  case atStart => exact ⟨0, 0, r0, [], #[], _, Nat.zero_le _, hr0, rfl, rfl, hres'.out, Nat.le_refl _, World.ext_self _, OwnE.nil _ _ _ _⟩
  case round =>
    obtain ⟨k, pc, r, t, os, d, hk, hr, rfl, rfl, hrun, htl, rfl, hown⟩ := hrel
    by_cases hlt : k < K
    · have hlt' : (k : Int) < fuel := by have := HfK.out; omega
      have hk2 : (k : Int) < 65536 := by omega
      have HS0 := fun w (hA : InsAt w A l) => rstep_top prio pc r hr A c l w hc hA Hwf.out
      have hqok := stepTop_ok (prio := prio) Hwf.out pc hr
      have hSt : stepTop prio l pc r = stepTop prio l pc r := rfl
      generalize hq : stepTop prio l pc r = q at HS0 hqok hSt
      have Hq := Lib.hid hq
      clear hSt hq
      have hd : K - k = (K - k - 1) + 1 := by omega
      rw [hd] at hrun
      have HS := Lib.hid HS0
      clear HS0 hd
      obtain ⟨qpc, qrs, qop, qreg, qn⟩ := q
      simp only at hqok
      by_cases h0 : qop = 0
      · subst h0
        have hr' := (runT_on Hq.out (.inl rfl)).symm.trans hrun
        have Hr := Lib.hid hr'
        clear hr' hrun
        go_wp2_with fail
        refine (HS.out _ (HA.out.below (by repeat (first | exact bel_refl _ | with_reducible apply bel_alloc | with_reducible apply bel_ext | with_reducible apply bel_drew | with_reducible apply bel_drewN | ((with_reducible refine bel_set ?_ (by simp <;> omega))) | ((with_reducible refine bel_trans ?_ (by assumption))))))).mono ?_
        rintro e wx2 ⟨rfl, hb2⟩; obtain ⟨os2, d2, rfl⟩ := World.ext_of_below hb2; clear hb2
        go_wp2_with fail
        go_roundw
        case rel => exact ⟨k + 1, qpc, qrs, t, _, _, by omega, hqok, rfl, by go_num, (by rw [show K - (k + 1) = K - k - 1 by omega]; exact Hr.out), by omega, (by rw [World.ext_alloc, World.ext_alloc]), ((hown.app _).push _).push _⟩
        case measure => simp [intOf]; omega
      by_cases h6 : qop = 6
      · subst h6
        have hr' := (runT_on Hq.out (.inr rfl)).symm.trans hrun
        have Hr := Lib.hid hr'
        clear hr' hrun h0
        go_wp2_with fail
        refine (HS.out _ (HA.out.below (by repeat (first | exact bel_refl _ | with_reducible apply bel_alloc | with_reducible apply bel_ext | with_reducible apply bel_drew | with_reducible apply bel_drewN | ((with_reducible refine bel_set ?_ (by simp <;> omega))) | ((with_reducible refine bel_trans ?_ (by assumption))))))).mono ?_
        rintro e wx2 ⟨rfl, hb2⟩; obtain ⟨os2, d2, rfl⟩ := World.ext_of_below hb2; clear hb2
        go_wp2_with fail
        go_roundw
        case rel => exact ⟨k + 1, qpc, qrs, t, _, _, by omega, hqok, rfl, by go_num, (by rw [show K - (k + 1) = K - k - 1 by omega]; exact Hr.out), by omega, (by rw [World.ext_alloc, World.ext_alloc]), ((hown.app _).push _).push _⟩
        case measure => simp [intOf]; omega
      by_cases h13 : qop = 13
      · subst h13
        have hr' := (runT_out Hq.out rfl).symm.trans hrun
        have Hr := Lib.hid hr'
        clear hr' hrun h0 h6
        go_wp2_with fail
        refine (HS.out _ (HA.out.below (by repeat (first | exact bel_refl _ | with_reducible apply bel_alloc | with_reducible apply bel_ext | with_reducible apply bel_drew | with_reducible apply bel_drewN | ((with_reducible refine bel_set ?_ (by simp <;> omega))) | ((with_reducible refine bel_trans ?_ (by assumption))))))).mono ?_
        rintro e wx2 ⟨rfl, hb2⟩; obtain ⟨os2, d2, rfl⟩ := World.ext_of_below hb2; clear hb2
        go_wp2_with (at_builtin; rw [World.ext_alloc _ _ _ (.cells #[.int .i32 qrs.r0, .int .i32 qrs.r1, .int .i32 qrs.r2, .int .i32 qrs.r3] 44), World.ext_alloc _ _ _ (.cells #[.int .i64 13, .int .i64 qreg, .int .i32 qn] 47)]; refine wpList_append_ext _ _ _ rfl _ _ 55 21 (.int .i32 0) 1 4 rfl Try.underlying55 info_i32 rfl (by decide) (by decide) u11 t.length 1 (t.map (Value.int .i32)) _ _ ?_ rfl rfl rfl ?_ ?_ ?_ ?_; (simp; omega); simp [Value.oneCell']; (refine OwnE.push (OwnE.push (OwnE.app ?_ _) _) _; simpa using hown); omega; intro v2 os3 d3 hown3 _ _)
        go_roundw
        case rel => exact ⟨k + 1, qpc, qrs, t ++ [qn], os3, d3, by omega, hqok, rfl, by go_num, (by rw [show K - (k + 1) = K - k - 1 by omega]; exact Hr.out), (by simp; omega), rfl, by simpa using hown3⟩
        case measure => simp [intOf]; omega
      · have hr' := (runT_end Hq.out h0 h6 h13).symm.trans hrun
        subst hr'
        have b0 : (qop != 0) = true := by rw [bne_iff_ne]; exact h0
        have b6 : (qop != 6) = true := by rw [bne_iff_ne]; exact h6
        have b13 : (qop == 13) = false := beq_eq_false_iff_ne.2 h13
        clear h0 h6 h13 hrun
        go_wp2_with fail
        refine (HS.out _ (HA.out.below (by repeat (first | exact bel_refl _ | with_reducible apply bel_alloc | with_reducible apply bel_ext | with_reducible apply bel_drew | with_reducible apply bel_drewN | ((with_reducible refine bel_set ?_ (by simp <;> omega))) | ((with_reducible refine bel_trans ?_ (by assumption))))))).mono ?_
        rintro e wx2 ⟨rfl, hb2⟩; obtain ⟨os2, d2, rfl⟩ := World.ext_of_below hb2; clear hb2
        go_wp2_with fail
        all_goals (first | go_region | skip)
        all_goals go_wp2
        all_goals
          refine bodyPost_ret (v := .tuple #[.int .i64 (qpc), .agg #[.int .i32 (qrs).r0, .int .i32 (qrs).r1, .int .i32 (qrs).r2, .int .i32 (qrs).r3], u11, .agg #[.int .i64 (qop), .int .i64 (qreg), .int .i32 (qn)]]) (by simp [results, Try.results33, go_sem] <;> first | rfl | exact ⟨rfl, rfl, rfl, rfl⟩ | decide) rfl ?_
          exact runPost_mk (q := ⟨qpc, qrs, t, qop, qreg, qn⟩) (by repeat (first | exact bel_refl _ | with_reducible apply bel_alloc | with_reducible apply bel_ext | with_reducible apply bel_drew | with_reducible apply bel_drewN | ((with_reducible refine bel_set ?_ (by simp <;> omega))) | ((with_reducible refine bel_trans ?_ (by assumption))))) ((((OwnE.app (by simpa using hown) _).row_at _ _ (by simp; omega)).alloc _).alloc _)
    · have hge : ¬ (k : Int) < fuel := by have := HfK.out; omega
      have hK0 : K - k = 0 := by omega
      rw [hK0] at hrun
      subst hrun
      clear hK0
      go_wp2_with fail
      all_goals (first | go_region | skip)
      all_goals go_wp2
      all_goals
        refine bodyPost_ret (v := .tuple #[.int .i64 (pc), .agg #[.int .i32 (r).r0, .int .i32 (r).r1, .int .i32 (r).r2, .int .i32 (r).r3], u11, .agg #[.int .i64 (0), .int .i64 (0), .int .i32 (0)]]) (by simp [results, Try.results33, go_sem] <;> first | rfl | exact ⟨rfl, rfl, rfl, rfl⟩ | decide) rfl ?_
        exact runPost_mk (q := ⟨pc, r, t, 0, 0, 0⟩) (by repeat (first | exact bel_refl _ | with_reducible apply bel_alloc | with_reducible apply bel_ext | with_reducible apply bel_drew | with_reducible apply bel_drewN | ((with_reducible refine bel_set ?_ (by simp <;> omega))) | ((with_reducible refine bel_trans ?_ (by assumption))))) ((by simpa using hown : OwnE _ _ _ _ _ _ _).row_at _ _ (by simp; omega))

end Go.Proofs.Ytkegdcnnankokaa
