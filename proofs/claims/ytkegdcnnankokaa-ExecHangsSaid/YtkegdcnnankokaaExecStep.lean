/-
exec.step, one instruction: what it answers for each op, registers in range; exec.bad.
-/
import Derived.Test.YtkegdcnnankokaaExecSpec
namespace Go.Proofs.Ytkegdcnnankokaa
set_option linter.unusedVariables false
set_option linter.unusedSimpArgs false
open Go.RowKit

set_option maxHeartbeats 4000000 in
theorem step1 (a b n pc : Int) (r : Regs) (w : World) (h0 : 0 ≤ pc) (h1 : pc ≤ 100) (ha : 0 ≤ a) (ha' : a < 4) :
    Calls Try.prog 61 #[.agg #[.int .i64 1, .int .i64 a, .int .i64 b, .int .i32 n], .int .i64 pc, .agg #[.int .i32 (r).r0, .int .i32 (r).r1, .int .i32 (r).r2, .int .i32 (r).r3]] w
      (resPost w ⟨pc + 1, r.set a n, 0, 0, 0⟩) := by
  have hgs := fun v => arr_set r v ha ha'
  go_enter Try.func61, Try.ntmps61
  go_wp2
  all_goals (first | go_region | skip)
  all_goals go_wp2
  all_goals (first | go_region | skip)
  all_goals go_wp2
  refine bodyPost_ret (v := .tuple #[.int .i64 _, .agg #[_, _, _, _], .agg #[_, _, _]]) (by simp [results, Try.results61, go_sem] <;> first | rfl | exact ⟨rfl, rfl, rfl, rfl⟩ | decide) rfl ⟨rfl, ?_⟩
  repeat (first | exact bel_refl _ | with_reducible apply bel_alloc | with_reducible apply bel_ext | with_reducible apply bel_drew | with_reducible apply bel_drewN | ((with_reducible refine bel_set ?_ (by simp <;> omega))) | ((with_reducible refine bel_trans ?_ (by assumption))))

set_option maxHeartbeats 4000000 in
theorem step2 (a b n pc : Int) (r : Regs) (w : World) (h0 : 0 ≤ pc) (h1 : pc ≤ 100) (ha : 0 ≤ a) (ha' : a < 4) (hb : 0 ≤ b) (hb' : b < 4) :
    Calls Try.prog 61 #[.agg #[.int .i64 2, .int .i64 a, .int .i64 b, .int .i32 n], .int .i64 pc, .agg #[.int .i32 (r).r0, .int .i32 (r).r1, .int .i32 (r).r2, .int .i32 (r).r3]] w
      (resPost w ⟨pc + 1, r.set a (wrap32 (r.get a + r.get b)), 0, 0, 0⟩) := by
  have hga := arr_get r ha ha'; have hgal := arr_getL r ha ha'
  have hgb := arr_get r hb hb'; have hgbl := arr_getL r hb hb'
  have hgs := fun v => arr_set r v ha ha'
  go_enter Try.func61, Try.ntmps61
  go_wp2
  all_goals (first | go_region | skip)
  all_goals go_wp2
  all_goals (first | go_region | skip)
  all_goals go_wp2
  refine bodyPost_ret (v := .tuple #[.int .i64 _, .agg #[_, _, _, _], .agg #[_, _, _]]) (by simp [results, Try.results61, go_sem] <;> first | rfl | exact ⟨rfl, rfl, rfl, rfl⟩ | decide) rfl ⟨rfl, ?_⟩
  repeat (first | exact bel_refl _ | with_reducible apply bel_alloc | with_reducible apply bel_ext | with_reducible apply bel_drew | with_reducible apply bel_drewN | ((with_reducible refine bel_set ?_ (by simp <;> omega))) | ((with_reducible refine bel_trans ?_ (by assumption))))

set_option maxHeartbeats 4000000 in
theorem step3 (a b n pc : Int) (r : Regs) (w : World) (h0 : 0 ≤ pc) (h1 : pc ≤ 100) (ha : 0 ≤ a) (ha' : a < 4) (hb : 0 ≤ b) (hb' : b < 4) :
    Calls Try.prog 61 #[.agg #[.int .i64 3, .int .i64 a, .int .i64 b, .int .i32 n], .int .i64 pc, .agg #[.int .i32 (r).r0, .int .i32 (r).r1, .int .i32 (r).r2, .int .i32 (r).r3]] w
      (resPost w ⟨pc + 1, r.set a (wrap32 (r.get a - r.get b)), 0, 0, 0⟩) := by
  have hga := arr_get r ha ha'; have hgal := arr_getL r ha ha'
  have hgb := arr_get r hb hb'; have hgbl := arr_getL r hb hb'
  have hgs := fun v => arr_set r v ha ha'
  go_enter Try.func61, Try.ntmps61
  go_wp2
  all_goals (first | go_region | skip)
  all_goals go_wp2
  all_goals (first | go_region | skip)
  all_goals go_wp2
  refine bodyPost_ret (v := .tuple #[.int .i64 _, .agg #[_, _, _, _], .agg #[_, _, _]]) (by simp [results, Try.results61, go_sem] <;> first | rfl | exact ⟨rfl, rfl, rfl, rfl⟩ | decide) rfl ⟨rfl, ?_⟩
  repeat (first | exact bel_refl _ | with_reducible apply bel_alloc | with_reducible apply bel_ext | with_reducible apply bel_drew | with_reducible apply bel_drewN | ((with_reducible refine bel_set ?_ (by simp <;> omega))) | ((with_reducible refine bel_trans ?_ (by assumption))))

set_option maxHeartbeats 4000000 in
theorem step4 (a b n pc : Int) (r : Regs) (w : World) (h0 : 0 ≤ pc) (h1 : pc ≤ 100) (hn : 0 ≤ n) (hn' : n < 100) :
    Calls Try.prog 61 #[.agg #[.int .i64 4, .int .i64 a, .int .i64 b, .int .i32 n], .int .i64 pc, .agg #[.int .i32 (r).r0, .int .i32 (r).r1, .int .i32 (r).r2, .int .i32 (r).r3]] w
      (resPost w ⟨n, r, 0, 0, 0⟩) := by
  go_enter Try.func61, Try.ntmps61
  go_wp2
  all_goals (first | go_region | skip)
  all_goals go_wp2
  all_goals (first | go_region | skip)
  all_goals go_wp2
  refine bodyPost_ret (v := .tuple #[.int .i64 _, .agg #[_, _, _, _], .agg #[_, _, _]]) (by simp [results, Try.results61, go_sem] <;> first | rfl | exact ⟨rfl, rfl, rfl, rfl⟩ | decide) rfl ⟨rfl, ?_⟩
  repeat (first | exact bel_refl _ | with_reducible apply bel_alloc | with_reducible apply bel_ext | with_reducible apply bel_drew | with_reducible apply bel_drewN | ((with_reducible refine bel_set ?_ (by simp <;> omega))) | ((with_reducible refine bel_trans ?_ (by assumption))))

set_option maxHeartbeats 4000000 in
theorem step5z (a b n pc : Int) (r : Regs) (w : World) (h0 : 0 ≤ pc) (h1 : pc ≤ 100) (ha : 0 ≤ a) (ha' : a < 4) (hn : 0 ≤ n) (hn' : n < 100) (hz : r.get a = 0) :
    Calls Try.prog 61 #[.agg #[.int .i64 5, .int .i64 a, .int .i64 b, .int .i32 n], .int .i64 pc, .agg #[.int .i32 (r).r0, .int .i32 (r).r1, .int .i32 (r).r2, .int .i32 (r).r3]] w
      (resPost w ⟨pc + 1, r, 0, 0, 0⟩) := by
  have hga := arr_get r ha ha'; have hgal := arr_getL r ha ha'
  have hz' : (r.get a != 0) = false := by rw [hz]; rfl
  clear hz
  go_enter Try.func61, Try.ntmps61
  go_wp2
  all_goals (first | go_region | skip)
  all_goals go_wp2
  all_goals (first | go_region | skip)
  all_goals go_wp2
  refine bodyPost_ret (v := .tuple #[.int .i64 _, .agg #[_, _, _, _], .agg #[_, _, _]]) (by simp [results, Try.results61, go_sem] <;> first | rfl | exact ⟨rfl, rfl, rfl, rfl⟩ | decide) rfl ⟨rfl, ?_⟩
  repeat (first | exact bel_refl _ | with_reducible apply bel_alloc | with_reducible apply bel_ext | with_reducible apply bel_drew | with_reducible apply bel_drewN | ((with_reducible refine bel_set ?_ (by simp <;> omega))) | ((with_reducible refine bel_trans ?_ (by assumption))))

set_option maxHeartbeats 4000000 in
theorem step5n (a b n pc : Int) (r : Regs) (w : World) (h0 : 0 ≤ pc) (h1 : pc ≤ 100) (ha : 0 ≤ a) (ha' : a < 4) (hn : 0 ≤ n) (hn' : n < 100) (hz : r.get a ≠ 0) :
    Calls Try.prog 61 #[.agg #[.int .i64 5, .int .i64 a, .int .i64 b, .int .i32 n], .int .i64 pc, .agg #[.int .i32 (r).r0, .int .i32 (r).r1, .int .i32 (r).r2, .int .i32 (r).r3]] w
      (resPost w ⟨n, r, 0, 0, 0⟩) := by
  have hga := arr_get r ha ha'; have hgal := arr_getL r ha ha'
  have hz' : (r.get a != 0) = true := by rw [bne_iff_ne]; exact hz
  clear hz
  go_enter Try.func61, Try.ntmps61
  go_wp2
  all_goals (first | go_region | skip)
  all_goals go_wp2
  all_goals (first | go_region | skip)
  all_goals go_wp2
  refine bodyPost_ret (v := .tuple #[.int .i64 _, .agg #[_, _, _, _], .agg #[_, _, _]]) (by simp [results, Try.results61, go_sem] <;> first | rfl | exact ⟨rfl, rfl, rfl, rfl⟩ | decide) rfl ⟨rfl, ?_⟩
  repeat (first | exact bel_refl _ | with_reducible apply bel_alloc | with_reducible apply bel_ext | with_reducible apply bel_drew | with_reducible apply bel_drewN | ((with_reducible refine bel_set ?_ (by simp <;> omega))) | ((with_reducible refine bel_trans ?_ (by assumption))))

set_option maxHeartbeats 4000000 in
theorem step6 (a b n pc : Int) (r : Regs) (w : World) (h0 : 0 ≤ pc) (h1 : pc ≤ 100)  :
    Calls Try.prog 61 #[.agg #[.int .i64 6, .int .i64 a, .int .i64 b, .int .i32 n], .int .i64 pc, .agg #[.int .i32 (r).r0, .int .i32 (r).r1, .int .i32 (r).r2, .int .i32 (r).r3]] w
      (resPost w ⟨pc + 1, r, 6, 0, 0⟩) := by
  go_enter Try.func61, Try.ntmps61
  go_wp2
  all_goals (first | go_region | skip)
  all_goals go_wp2
  all_goals (first | go_region | skip)
  all_goals go_wp2
  refine bodyPost_ret (v := .tuple #[.int .i64 _, .agg #[_, _, _, _], .agg #[_, _, _]]) (by simp [results, Try.results61, go_sem] <;> first | rfl | exact ⟨rfl, rfl, rfl, rfl⟩ | decide) rfl ⟨rfl, ?_⟩
  repeat (first | exact bel_refl _ | with_reducible apply bel_alloc | with_reducible apply bel_ext | with_reducible apply bel_drew | with_reducible apply bel_drewN | ((with_reducible refine bel_set ?_ (by simp <;> omega))) | ((with_reducible refine bel_trans ?_ (by assumption))))

set_option maxHeartbeats 4000000 in
theorem step8 (a b n pc : Int) (r : Regs) (w : World) (h0 : 0 ≤ pc) (h1 : pc ≤ 100) (ha : 0 ≤ a) (ha' : a < 4) :
    Calls Try.prog 61 #[.agg #[.int .i64 8, .int .i64 a, .int .i64 b, .int .i32 n], .int .i64 pc, .agg #[.int .i32 (r).r0, .int .i32 (r).r1, .int .i32 (r).r2, .int .i32 (r).r3]] w
      (resPost w ⟨pc + 1, r, 8, b, r.get a⟩) := by
  have hga := arr_get r ha ha'; have hgal := arr_getL r ha ha'
  go_enter Try.func61, Try.ntmps61
  go_wp2
  all_goals (first | go_region | skip)
  all_goals go_wp2
  all_goals (first | go_region | skip)
  all_goals go_wp2
  refine bodyPost_ret (v := .tuple #[.int .i64 _, .agg #[_, _, _, _], .agg #[_, _, _]]) (by simp [results, Try.results61, go_sem] <;> first | rfl | exact ⟨rfl, rfl, rfl, rfl⟩ | decide) rfl ⟨rfl, ?_⟩
  repeat (first | exact bel_refl _ | with_reducible apply bel_alloc | with_reducible apply bel_ext | with_reducible apply bel_drew | with_reducible apply bel_drewN | ((with_reducible refine bel_set ?_ (by simp <;> omega))) | ((with_reducible refine bel_trans ?_ (by assumption))))

set_option maxHeartbeats 4000000 in
theorem step11 (a b n pc : Int) (r : Regs) (w : World) (h0 : 0 ≤ pc) (h1 : pc ≤ 100) (ha : 0 ≤ a) (ha' : a < 4) :
    Calls Try.prog 61 #[.agg #[.int .i64 11, .int .i64 a, .int .i64 b, .int .i32 n], .int .i64 pc, .agg #[.int .i32 (r).r0, .int .i32 (r).r1, .int .i32 (r).r2, .int .i32 (r).r3]] w
      (resPost w ⟨pc + 1, r, 11, 0, r.get a⟩) := by
  have hga := arr_get r ha ha'; have hgal := arr_getL r ha ha'
  go_enter Try.func61, Try.ntmps61
  go_wp2
  all_goals (first | go_region | skip)
  all_goals go_wp2
  all_goals (first | go_region | skip)
  all_goals go_wp2
  refine bodyPost_ret (v := .tuple #[.int .i64 _, .agg #[_, _, _, _], .agg #[_, _, _]]) (by simp [results, Try.results61, go_sem] <;> first | rfl | exact ⟨rfl, rfl, rfl, rfl⟩ | decide) rfl ⟨rfl, ?_⟩
  repeat (first | exact bel_refl _ | with_reducible apply bel_alloc | with_reducible apply bel_ext | with_reducible apply bel_drew | with_reducible apply bel_drewN | ((with_reducible refine bel_set ?_ (by simp <;> omega))) | ((with_reducible refine bel_trans ?_ (by assumption))))

set_option maxHeartbeats 4000000 in
theorem step13 (a b n pc : Int) (r : Regs) (w : World) (h0 : 0 ≤ pc) (h1 : pc ≤ 100) (ha : 0 ≤ a) (ha' : a < 4) :
    Calls Try.prog 61 #[.agg #[.int .i64 13, .int .i64 a, .int .i64 b, .int .i32 n], .int .i64 pc, .agg #[.int .i32 (r).r0, .int .i32 (r).r1, .int .i32 (r).r2, .int .i32 (r).r3]] w
      (resPost w ⟨pc + 1, r, 13, 0, r.get a⟩) := by
  have hga := arr_get r ha ha'; have hgal := arr_getL r ha ha'
  go_enter Try.func61, Try.ntmps61
  go_wp2
  all_goals (first | go_region | skip)
  all_goals go_wp2
  all_goals (first | go_region | skip)
  all_goals go_wp2
  refine bodyPost_ret (v := .tuple #[.int .i64 _, .agg #[_, _, _, _], .agg #[_, _, _]]) (by simp [results, Try.results61, go_sem] <;> first | rfl | exact ⟨rfl, rfl, rfl, rfl⟩ | decide) rfl ⟨rfl, ?_⟩
  repeat (first | exact bel_refl _ | with_reducible apply bel_alloc | with_reducible apply bel_ext | with_reducible apply bel_drew | with_reducible apply bel_drewN | ((with_reducible refine bel_set ?_ (by simp <;> omega))) | ((with_reducible refine bel_trans ?_ (by assumption))))

set_option maxHeartbeats 4000000 in
theorem step14 (a b n pc : Int) (r : Regs) (w : World) (h0 : 0 ≤ pc) (h1 : pc ≤ 100) (ha : 0 ≤ a) (ha' : a < 4) :
    Calls Try.prog 61 #[.agg #[.int .i64 14, .int .i64 a, .int .i64 b, .int .i32 n], .int .i64 pc, .agg #[.int .i32 (r).r0, .int .i32 (r).r1, .int .i32 (r).r2, .int .i32 (r).r3]] w
      (resPost w ⟨pc, r, 14, 0, r.get a⟩) := by
  have hga := arr_get r ha ha'; have hgal := arr_getL r ha ha'
  go_enter Try.func61, Try.ntmps61
  go_wp2
  all_goals (first | go_region | skip)
  all_goals go_wp2
  all_goals (first | go_region | skip)
  all_goals go_wp2
  refine bodyPost_ret (v := .tuple #[.int .i64 _, .agg #[_, _, _, _], .agg #[_, _, _]]) (by simp [results, Try.results61, go_sem] <;> first | rfl | exact ⟨rfl, rfl, rfl, rfl⟩ | decide) rfl ⟨rfl, ?_⟩
  repeat (first | exact bel_refl _ | with_reducible apply bel_alloc | with_reducible apply bel_ext | with_reducible apply bel_drew | with_reducible apply bel_drewN | ((with_reducible refine bel_set ?_ (by simp <;> omega))) | ((with_reducible refine bel_trans ?_ (by assumption))))

set_option maxHeartbeats 4000000 in
theorem step7 (a b n pc : Int) (r : Regs) (w : World) (h0 : 0 ≤ pc) (h1 : pc ≤ 100)  :
    Calls Try.prog 61 #[.agg #[.int .i64 7, .int .i64 a, .int .i64 b, .int .i32 n], .int .i64 pc, .agg #[.int .i32 (r).r0, .int .i32 (r).r1, .int .i32 (r).r2, .int .i32 (r).r3]] w
      (resPost w ⟨pc + 1, r, 7, a, n⟩) := by
  go_enter Try.func61, Try.ntmps61
  go_wp2
  all_goals (first | go_region | skip)
  all_goals go_wp2
  all_goals (first | go_region | skip)
  all_goals go_wp2
  refine bodyPost_ret (v := .tuple #[.int .i64 _, .agg #[_, _, _, _], .agg #[_, _, _]]) (by simp [results, Try.results61, go_sem] <;> first | rfl | exact ⟨rfl, rfl, rfl, rfl⟩ | decide) rfl ⟨rfl, ?_⟩
  repeat (first | exact bel_refl _ | with_reducible apply bel_alloc | with_reducible apply bel_ext | with_reducible apply bel_drew | with_reducible apply bel_drewN | ((with_reducible refine bel_set ?_ (by simp <;> omega))) | ((with_reducible refine bel_trans ?_ (by assumption))))

set_option maxHeartbeats 4000000 in
theorem step9 (a b n pc : Int) (r : Regs) (w : World) (h0 : 0 ≤ pc) (h1 : pc ≤ 100)  :
    Calls Try.prog 61 #[.agg #[.int .i64 9, .int .i64 a, .int .i64 b, .int .i32 n], .int .i64 pc, .agg #[.int .i32 (r).r0, .int .i32 (r).r1, .int .i32 (r).r2, .int .i32 (r).r3]] w
      (resPost w ⟨pc + 1, r, 9, a, n⟩) := by
  go_enter Try.func61, Try.ntmps61
  go_wp2
  all_goals (first | go_region | skip)
  all_goals go_wp2
  all_goals (first | go_region | skip)
  all_goals go_wp2
  refine bodyPost_ret (v := .tuple #[.int .i64 _, .agg #[_, _, _, _], .agg #[_, _, _]]) (by simp [results, Try.results61, go_sem] <;> first | rfl | exact ⟨rfl, rfl, rfl, rfl⟩ | decide) rfl ⟨rfl, ?_⟩
  repeat (first | exact bel_refl _ | with_reducible apply bel_alloc | with_reducible apply bel_ext | with_reducible apply bel_drew | with_reducible apply bel_drewN | ((with_reducible refine bel_set ?_ (by simp <;> omega))) | ((with_reducible refine bel_trans ?_ (by assumption))))

set_option maxHeartbeats 4000000 in
theorem step10 (a b n pc : Int) (r : Regs) (w : World) (h0 : 0 ≤ pc) (h1 : pc ≤ 100)  :
    Calls Try.prog 61 #[.agg #[.int .i64 10, .int .i64 a, .int .i64 b, .int .i32 n], .int .i64 pc, .agg #[.int .i32 (r).r0, .int .i32 (r).r1, .int .i32 (r).r2, .int .i32 (r).r3]] w
      (resPost w ⟨pc + 1, r, 10, a, n⟩) := by
  go_enter Try.func61, Try.ntmps61
  go_wp2
  all_goals (first | go_region | skip)
  all_goals go_wp2
  all_goals (first | go_region | skip)
  all_goals go_wp2
  refine bodyPost_ret (v := .tuple #[.int .i64 _, .agg #[_, _, _, _], .agg #[_, _, _]]) (by simp [results, Try.results61, go_sem] <;> first | rfl | exact ⟨rfl, rfl, rfl, rfl⟩ | decide) rfl ⟨rfl, ?_⟩
  repeat (first | exact bel_refl _ | with_reducible apply bel_alloc | with_reducible apply bel_ext | with_reducible apply bel_drew | with_reducible apply bel_drewN | ((with_reducible refine bel_set ?_ (by simp <;> omega))) | ((with_reducible refine bel_trans ?_ (by assumption))))

set_option maxHeartbeats 4000000 in
theorem step12 (a b n pc : Int) (r : Regs) (w : World) (h0 : 0 ≤ pc) (h1 : pc ≤ 100)  :
    Calls Try.prog 61 #[.agg #[.int .i64 12, .int .i64 a, .int .i64 b, .int .i32 n], .int .i64 pc, .agg #[.int .i32 (r).r0, .int .i32 (r).r1, .int .i32 (r).r2, .int .i32 (r).r3]] w
      (resPost w ⟨pc + 1, r, 12, a, n⟩) := by
  go_enter Try.func61, Try.ntmps61
  go_wp2
  all_goals (first | go_region | skip)
  all_goals go_wp2
  all_goals (first | go_region | skip)
  all_goals go_wp2
  refine bodyPost_ret (v := .tuple #[.int .i64 _, .agg #[_, _, _, _], .agg #[_, _, _]]) (by simp [results, Try.results61, go_sem] <;> first | rfl | exact ⟨rfl, rfl, rfl, rfl⟩ | decide) rfl ⟨rfl, ?_⟩
  repeat (first | exact bel_refl _ | with_reducible apply bel_alloc | with_reducible apply bel_ext | with_reducible apply bel_drew | with_reducible apply bel_drewN | ((with_reducible refine bel_set ?_ (by simp <;> omega))) | ((with_reducible refine bel_trans ?_ (by assumption))))

theorem step_any (x : Ins) (pc len : Int) (r : Regs) (w : World) (h0 : 0 ≤ pc) (h1 : pc ≤ 100) (hlen : len ≤ 100) (hx : insOK x len) :
    Calls Try.prog 61 #[.agg #[.int .i64 (x).op, .int .i64 (x).a, .int .i64 (x).b, .int .i32 (x).n], .int .i64 pc, .agg #[.int .i32 (r).r0, .int .i32 (r).r1, .int .i32 (r).r2, .int .i32 (r).r3]] w (resPost w (stepS x pc r)) := by
  obtain ⟨⟨o1, o2⟩, ⟨a1, a2⟩, ⟨b1, b2⟩, hj⟩ := insOK_parts hx
  obtain ⟨op, a, b, n⟩ := x
  simp only at o1 o2 a1 a2 b1 b2 hj
  have ho : op = 1 ∨ op = 2 ∨ op = 3 ∨ op = 4 ∨ op = 5 ∨ op = 6 ∨ op = 7 ∨ op = 8 ∨ op = 9 ∨ op = 10 ∨ op = 11 ∨ op = 12 ∨ op = 13 ∨ op = 14 := by omega
  rcases ho with rfl | rfl | rfl | rfl | rfl | rfl | rfl | rfl | rfl | rfl | rfl | rfl | rfl | rfl
  · exact step1 a b n pc r w h0 h1 a1 a2
  · exact step2 a b n pc r w h0 h1 a1 a2 b1 b2
  · exact step3 a b n pc r w h0 h1 a1 a2 b1 b2
  · obtain ⟨n1, n2⟩ := hj (.inl rfl)
    exact step4 a b n pc r w h0 h1 n1 (by omega)
  · obtain ⟨n1, n2⟩ := hj (.inr rfl)
    by_cases hz : r.get a = 0
    · have e : stepS ⟨5, a, b, n⟩ pc r = ⟨pc + 1, r, 0, 0, 0⟩ := by simp [stepS, hz]
      rw [e]; exact step5z a b n pc r w h0 h1 a1 a2 n1 (by omega) hz
    · have e : stepS ⟨5, a, b, n⟩ pc r = ⟨n, r, 0, 0, 0⟩ := by simp [stepS, hz]
      rw [e]; exact step5n a b n pc r w h0 h1 a1 a2 n1 (by omega) hz
  · exact step6 a b n pc r w h0 h1
  · exact step7 a b n pc r w h0 h1
  · exact step8 a b n pc r w h0 h1 a1 a2
  · exact step9 a b n pc r w h0 h1
  · exact step10 a b n pc r w h0 h1
  · exact step11 a b n pc r w h0 h1 a1 a2
  · exact step12 a b n pc r w h0 h1
  · exact step13 a b n pc r w h0 h1 a1 a2
  · exact step14 a b n pc r w h0 h1 a1 a2

set_option maxHeartbeats 1000000 in
theorem bad_any (w : World) : Calls Try.prog 60 #[] w fun e w' => e = .returned (.agg #[.int .i64 14, .int .i64 0, .int .i32 (-1)]) ∧ Below w.heap.size w w' := by
  go_enter Try.func60, Try.ntmps60
  go_wp2
  refine bodyPost_ret (v := .agg #[_, _, _]) (by simp [results, Try.results60, go_sem] <;> first | rfl | decide) rfl ⟨rfl, ?_⟩
  repeat (first | exact bel_refl _ | with_reducible apply bel_alloc | with_reducible apply bel_ext | with_reducible apply bel_drew | with_reducible apply bel_drewN | ((with_reducible refine bel_set ?_ (by simp <;> omega))) | ((with_reducible refine bel_trans ?_ (by assumption))))

end Go.Proofs.Ytkegdcnnankokaa
