/-
The reference's round and Step (pinfoldref10): they answer what exec.Step answers.
-/
import Derived.Test.YtkegdcnnankokaaExecSpec
import Derived.Test.YtkegdcnnankokaaRefCheck
import Derived.IntWalk
import Derived.Test.YtkegdcnnankokaaTail
namespace Go.Proofs.Ytkegdcnnankokaa
set_option linter.unusedVariables false
set_option linter.unusedSimpArgs false
open Go.RowKit

theorem tmod_emod (n : Int) : Int.tmod n 4294967296 % 4294967296 = n % 4294967296 := by
  rw [Int.tmod_def, Int.sub_emod, Int.mul_emod_right]; simp
theorem round_low {n : Int} (h : Int.tmod n 4294967296 % 4294967296 < 2147483648) : Int.tmod n 4294967296 % 4294967296 = wrap32 n := by
  rw [tmod_emod] at *; unfold wrap32; omega
theorem round_high {n : Int} (h : 2147483648 ≤ Int.tmod n 4294967296 % 4294967296) : Int.tmod n 4294967296 % 4294967296 - 4294967296 = wrap32 n := by
  rw [tmod_emod] at *; unfold wrap32; omega

set_option maxHeartbeats 1000000 in
theorem round_any (n : Int) (w : World) (h0 : -8589934592 ≤ n) (h1 : n ≤ 8589934592) :
    Calls Try.prog 63 #[.int .i64 n] w fun e w' => e = .returned (.int .i32 (wrap32 n)) ∧ w' = w := by
  have hb : -4294967296 < Int.tmod n 4294967296 := by
    have := Int.lt_tmod_of_pos n (show (0 : Int) < 4294967296 by decide)
    omega
  have hb' := Int.tmod_lt_of_pos n (show (0 : Int) < 4294967296 by decide)
  have HL := Lib.hid (@round_low n)
  have HH := Lib.hid (@round_high n)
  go_enter Try.func63, Try.ntmps63
  go_wp2
  all_goals
    go_ret
    exact ⟨ret_int (by first | exact HL.out ‹_› | exact HH.out ‹_›), rfl⟩

set_option maxRecDepth 100000 in
set_option maxHeartbeats 4000000 in
theorem rstep1 (prio : Int) (r : Regs) (ad : Addr) (c : Nat) (l : List Ins) (w : World) (hc : l.length ≤ c) (hA : InsAt w (some ad) l) (E2 : Int) (HC : Hid (∀ w, InsAt w (some ad) l → Calls Try.prog 62 #[.agg #[.int .i64 prio, .slice (some ad) l.length c]] w (twoPost w (0, E2)))) (k : Nat) (hk : k < l.length) (hlen : l.length ≤ 64) (a b n : Int) (ha : 0 ≤ a) (ha' : a < 4)
    (c0 : w.cell? (ad.add (k * 4)) = some (.int .i64 1)) (c1 : w.cell? ⟨(ad.add (k * 4)).block, (ad.add (k * 4)).off + 1, none⟩ = some (.int .i64 a)) (c2 : w.cell? ⟨(ad.add (k * 4)).block, (ad.add (k * 4)).off + 2, none⟩ = some (.int .i64 b)) (c3 : w.cell? ⟨(ad.add (k * 4)).block, (ad.add (k * 4)).off + 3, none⟩ = some (.int .i32 n)) :
    Calls Try.prog 30 #[.agg #[.int .i64 prio, .slice (some ad) l.length c], .int .i64 k, .agg #[.int .i32 (r).r0, .int .i32 (r).r1, .int .i32 (r).r2, .int .i32 (r).r3]] w
      (resPost w ⟨k + 1, r.set a n, 0, 0, 0⟩) := by
  have hgs := fun v => arr_set r v ha ha'
  have hlt := World.inBlk_of_cell c0
  have HA := Lib.hid hA
  clear hA
  go_enter Try.func30, Try.ntmps30
  go_wp2_with fail
  refine (HC.out _ (HA.out.below (by repeat (first | exact bel_refl _ | with_reducible apply bel_alloc | with_reducible apply bel_ext | with_reducible apply bel_drew | with_reducible apply bel_drewN | ((with_reducible refine bel_set ?_ (by simp <;> omega))) | ((with_reducible refine bel_trans ?_ (by assumption))))))).mono ?_
  rintro e wx1 ⟨rfl, hb1⟩; obtain ⟨os1, d1, rfl⟩ := World.ext_of_below hb1; clear hb1
  go_wp2_with fail
  all_goals (first | go_region | skip)
  all_goals go_wp2
  all_goals
    refine bodyPost_ret (v := .tuple #[.int .i64 _, .agg #[_, _, _, _], .agg #[_, _, _]]) (by simp [results, Try.results30, go_sem] <;> first | rfl | exact ⟨rfl, rfl, rfl, rfl⟩ | decide) rfl ⟨rfl, ?_⟩
    repeat (first | exact bel_refl _ | with_reducible apply bel_alloc | with_reducible apply bel_ext | with_reducible apply bel_drew | with_reducible apply bel_drewN | ((with_reducible refine bel_set ?_ (by simp <;> omega))) | ((with_reducible refine bel_trans ?_ (by assumption))))

set_option maxRecDepth 100000 in
set_option maxHeartbeats 4000000 in
theorem rstep2 (prio : Int) (r : Regs) (ad : Addr) (c : Nat) (l : List Ins) (w : World) (hc : l.length ≤ c) (hA : InsAt w (some ad) l) (E2 : Int) (HC : Hid (∀ w, InsAt w (some ad) l → Calls Try.prog 62 #[.agg #[.int .i64 prio, .slice (some ad) l.length c]] w (twoPost w (0, E2)))) (k : Nat) (hk : k < l.length) (hlen : l.length ≤ 64) (a b n : Int) (ha : 0 ≤ a) (ha' : a < 4) (hb : 0 ≤ b) (hb' : b < 4) (hra : in32 (r.get a)) (hrb : in32 (r.get b))
    (c0 : w.cell? (ad.add (k * 4)) = some (.int .i64 2)) (c1 : w.cell? ⟨(ad.add (k * 4)).block, (ad.add (k * 4)).off + 1, none⟩ = some (.int .i64 a)) (c2 : w.cell? ⟨(ad.add (k * 4)).block, (ad.add (k * 4)).off + 2, none⟩ = some (.int .i64 b)) (c3 : w.cell? ⟨(ad.add (k * 4)).block, (ad.add (k * 4)).off + 3, none⟩ = some (.int .i32 n)) :
    Calls Try.prog 30 #[.agg #[.int .i64 prio, .slice (some ad) l.length c], .int .i64 k, .agg #[.int .i32 (r).r0, .int .i32 (r).r1, .int .i32 (r).r2, .int .i32 (r).r3]] w
      (resPost w ⟨k + 1, r.set a (wrap32 (r.get a + r.get b)), 0, 0, 0⟩) := by
  have hga := arr_get r ha ha'; have hgal := arr_getL r ha ha'
  have hgb := arr_get r hb hb'; have hgbl := arr_getL r hb hb'
  have hgs := fun v => arr_set r v ha ha'
  unfold in32 at hra hrb; obtain ⟨ra1, ra2⟩ := hra; obtain ⟨rb1, rb2⟩ := hrb; have hS1 : -8589934592 ≤ r.get a + r.get b := (by omega); have hS2 : r.get a + r.get b ≤ 8589934592 := (by omega); have q1 : IntKind.i64.wrap (r.get a) = r.get a := IntWalk.i64_in _ (by omega); have q2 : IntKind.i64.wrap (r.get b) = r.get b := IntWalk.i64_in _ (by omega); have q3 : IntKind.i64.wrap (r.get a + r.get b) = r.get a + r.get b := IntWalk.i64_in _ (by omega)
  have hlt := World.inBlk_of_cell c0
  have HA := Lib.hid hA
  clear hA
  go_enter Try.func30, Try.ntmps30
  go_wp2_with fail
  refine (HC.out _ (HA.out.below (by repeat (first | exact bel_refl _ | with_reducible apply bel_alloc | with_reducible apply bel_ext | with_reducible apply bel_drew | with_reducible apply bel_drewN | ((with_reducible refine bel_set ?_ (by simp <;> omega))) | ((with_reducible refine bel_trans ?_ (by assumption))))))).mono ?_
  rintro e wx1 ⟨rfl, hb1⟩; obtain ⟨os1, d1, rfl⟩ := World.ext_of_below hb1; clear hb1
  go_wp2_with fail
  refine region_tail 15 (by kernel_rfl) (by kernel_rfl) _ rfl ?_
  simp only [List.take_succ_cons, List.take_zero, List.drop_succ_cons, List.drop_zero]
  repeat still_step
  still_call (round_any _ _ hS1 hS2)
  repeat still_step
  refine wpStill_nil ?_
  clear q1 q2 q3
  go_wp2_with fail
  all_goals (first | go_region | skip)
  all_goals go_wp2
  all_goals
    refine bodyPost_ret (v := .tuple #[.int .i64 _, .agg #[_, _, _, _], .agg #[_, _, _]]) (by simp [results, Try.results30, go_sem] <;> first | rfl | exact ⟨rfl, rfl, rfl, rfl⟩ | decide) rfl ⟨rfl, ?_⟩
    repeat (first | exact bel_refl _ | with_reducible apply bel_alloc | with_reducible apply bel_ext | with_reducible apply bel_drew | with_reducible apply bel_drewN | ((with_reducible refine bel_set ?_ (by simp <;> omega))) | ((with_reducible refine bel_trans ?_ (by assumption))))

set_option maxRecDepth 100000 in
set_option maxHeartbeats 4000000 in
theorem rstep3 (prio : Int) (r : Regs) (ad : Addr) (c : Nat) (l : List Ins) (w : World) (hc : l.length ≤ c) (hA : InsAt w (some ad) l) (E2 : Int) (HC : Hid (∀ w, InsAt w (some ad) l → Calls Try.prog 62 #[.agg #[.int .i64 prio, .slice (some ad) l.length c]] w (twoPost w (0, E2)))) (k : Nat) (hk : k < l.length) (hlen : l.length ≤ 64) (a b n : Int) (ha : 0 ≤ a) (ha' : a < 4) (hb : 0 ≤ b) (hb' : b < 4) (hra : in32 (r.get a)) (hrb : in32 (r.get b))
    (c0 : w.cell? (ad.add (k * 4)) = some (.int .i64 3)) (c1 : w.cell? ⟨(ad.add (k * 4)).block, (ad.add (k * 4)).off + 1, none⟩ = some (.int .i64 a)) (c2 : w.cell? ⟨(ad.add (k * 4)).block, (ad.add (k * 4)).off + 2, none⟩ = some (.int .i64 b)) (c3 : w.cell? ⟨(ad.add (k * 4)).block, (ad.add (k * 4)).off + 3, none⟩ = some (.int .i32 n)) :
    Calls Try.prog 30 #[.agg #[.int .i64 prio, .slice (some ad) l.length c], .int .i64 k, .agg #[.int .i32 (r).r0, .int .i32 (r).r1, .int .i32 (r).r2, .int .i32 (r).r3]] w
      (resPost w ⟨k + 1, r.set a (wrap32 (r.get a - r.get b)), 0, 0, 0⟩) := by
  have hga := arr_get r ha ha'; have hgal := arr_getL r ha ha'
  have hgb := arr_get r hb hb'; have hgbl := arr_getL r hb hb'
  have hgs := fun v => arr_set r v ha ha'
  unfold in32 at hra hrb; obtain ⟨ra1, ra2⟩ := hra; obtain ⟨rb1, rb2⟩ := hrb; have hS1 : -8589934592 ≤ r.get a - r.get b := (by omega); have hS2 : r.get a - r.get b ≤ 8589934592 := (by omega); have q1 : IntKind.i64.wrap (r.get a) = r.get a := IntWalk.i64_in _ (by omega); have q2 : IntKind.i64.wrap (r.get b) = r.get b := IntWalk.i64_in _ (by omega); have q3 : IntKind.i64.wrap (r.get a - r.get b) = r.get a - r.get b := IntWalk.i64_in _ (by omega)
  have hlt := World.inBlk_of_cell c0
  have HA := Lib.hid hA
  clear hA
  go_enter Try.func30, Try.ntmps30
  go_wp2_with fail
  refine (HC.out _ (HA.out.below (by repeat (first | exact bel_refl _ | with_reducible apply bel_alloc | with_reducible apply bel_ext | with_reducible apply bel_drew | with_reducible apply bel_drewN | ((with_reducible refine bel_set ?_ (by simp <;> omega))) | ((with_reducible refine bel_trans ?_ (by assumption))))))).mono ?_
  rintro e wx1 ⟨rfl, hb1⟩; obtain ⟨os1, d1, rfl⟩ := World.ext_of_below hb1; clear hb1
  go_wp2_with fail
  refine region_tail 15 (by kernel_rfl) (by kernel_rfl) _ rfl ?_
  simp only [List.take_succ_cons, List.take_zero, List.drop_succ_cons, List.drop_zero]
  repeat still_step
  still_call (round_any _ _ hS1 hS2)
  repeat still_step
  refine wpStill_nil ?_
  clear q1 q2 q3
  go_wp2_with fail
  all_goals (first | go_region | skip)
  all_goals go_wp2
  all_goals
    refine bodyPost_ret (v := .tuple #[.int .i64 _, .agg #[_, _, _, _], .agg #[_, _, _]]) (by simp [results, Try.results30, go_sem] <;> first | rfl | exact ⟨rfl, rfl, rfl, rfl⟩ | decide) rfl ⟨rfl, ?_⟩
    repeat (first | exact bel_refl _ | with_reducible apply bel_alloc | with_reducible apply bel_ext | with_reducible apply bel_drew | with_reducible apply bel_drewN | ((with_reducible refine bel_set ?_ (by simp <;> omega))) | ((with_reducible refine bel_trans ?_ (by assumption))))

set_option maxRecDepth 100000 in
set_option maxHeartbeats 4000000 in
theorem rstep4 (prio : Int) (r : Regs) (ad : Addr) (c : Nat) (l : List Ins) (w : World) (hc : l.length ≤ c) (hA : InsAt w (some ad) l) (E2 : Int) (HC : Hid (∀ w, InsAt w (some ad) l → Calls Try.prog 62 #[.agg #[.int .i64 prio, .slice (some ad) l.length c]] w (twoPost w (0, E2)))) (k : Nat) (hk : k < l.length) (hlen : l.length ≤ 64) (a b n : Int) (hn : 0 ≤ n) (hn' : n < 100)
    (c0 : w.cell? (ad.add (k * 4)) = some (.int .i64 4)) (c1 : w.cell? ⟨(ad.add (k * 4)).block, (ad.add (k * 4)).off + 1, none⟩ = some (.int .i64 a)) (c2 : w.cell? ⟨(ad.add (k * 4)).block, (ad.add (k * 4)).off + 2, none⟩ = some (.int .i64 b)) (c3 : w.cell? ⟨(ad.add (k * 4)).block, (ad.add (k * 4)).off + 3, none⟩ = some (.int .i32 n)) :
    Calls Try.prog 30 #[.agg #[.int .i64 prio, .slice (some ad) l.length c], .int .i64 k, .agg #[.int .i32 (r).r0, .int .i32 (r).r1, .int .i32 (r).r2, .int .i32 (r).r3]] w
      (resPost w ⟨n, r, 0, 0, 0⟩) := by
  have hlt := World.inBlk_of_cell c0
  have HA := Lib.hid hA
  clear hA
  go_enter Try.func30, Try.ntmps30
  go_wp2_with fail
  refine (HC.out _ (HA.out.below (by repeat (first | exact bel_refl _ | with_reducible apply bel_alloc | with_reducible apply bel_ext | with_reducible apply bel_drew | with_reducible apply bel_drewN | ((with_reducible refine bel_set ?_ (by simp <;> omega))) | ((with_reducible refine bel_trans ?_ (by assumption))))))).mono ?_
  rintro e wx1 ⟨rfl, hb1⟩; obtain ⟨os1, d1, rfl⟩ := World.ext_of_below hb1; clear hb1
  go_wp2_with fail
  all_goals (first | go_region | skip)
  all_goals go_wp2
  all_goals
    refine bodyPost_ret (v := .tuple #[.int .i64 _, .agg #[_, _, _, _], .agg #[_, _, _]]) (by simp [results, Try.results30, go_sem] <;> first | rfl | exact ⟨rfl, rfl, rfl, rfl⟩ | decide) rfl ⟨rfl, ?_⟩
    repeat (first | exact bel_refl _ | with_reducible apply bel_alloc | with_reducible apply bel_ext | with_reducible apply bel_drew | with_reducible apply bel_drewN | ((with_reducible refine bel_set ?_ (by simp <;> omega))) | ((with_reducible refine bel_trans ?_ (by assumption))))

set_option maxRecDepth 100000 in
set_option maxHeartbeats 4000000 in
theorem rstep5z (prio : Int) (r : Regs) (ad : Addr) (c : Nat) (l : List Ins) (w : World) (hc : l.length ≤ c) (hA : InsAt w (some ad) l) (E2 : Int) (HC : Hid (∀ w, InsAt w (some ad) l → Calls Try.prog 62 #[.agg #[.int .i64 prio, .slice (some ad) l.length c]] w (twoPost w (0, E2)))) (k : Nat) (hk : k < l.length) (hlen : l.length ≤ 64) (a b n : Int) (ha : 0 ≤ a) (ha' : a < 4) (hn : 0 ≤ n) (hn' : n < 100) (hz : r.get a = 0)
    (c0 : w.cell? (ad.add (k * 4)) = some (.int .i64 5)) (c1 : w.cell? ⟨(ad.add (k * 4)).block, (ad.add (k * 4)).off + 1, none⟩ = some (.int .i64 a)) (c2 : w.cell? ⟨(ad.add (k * 4)).block, (ad.add (k * 4)).off + 2, none⟩ = some (.int .i64 b)) (c3 : w.cell? ⟨(ad.add (k * 4)).block, (ad.add (k * 4)).off + 3, none⟩ = some (.int .i32 n)) :
    Calls Try.prog 30 #[.agg #[.int .i64 prio, .slice (some ad) l.length c], .int .i64 k, .agg #[.int .i32 (r).r0, .int .i32 (r).r1, .int .i32 (r).r2, .int .i32 (r).r3]] w
      (resPost w ⟨k + 1, r, 0, 0, 0⟩) := by
  have hga := arr_get r ha ha'; have hgal := arr_getL r ha ha'
  have hz' : (r.get a != 0) = false := by rw [hz]; rfl
  clear hz
  have hlt := World.inBlk_of_cell c0
  have HA := Lib.hid hA
  clear hA
  go_enter Try.func30, Try.ntmps30
  go_wp2_with fail
  refine (HC.out _ (HA.out.below (by repeat (first | exact bel_refl _ | with_reducible apply bel_alloc | with_reducible apply bel_ext | with_reducible apply bel_drew | with_reducible apply bel_drewN | ((with_reducible refine bel_set ?_ (by simp <;> omega))) | ((with_reducible refine bel_trans ?_ (by assumption))))))).mono ?_
  rintro e wx1 ⟨rfl, hb1⟩; obtain ⟨os1, d1, rfl⟩ := World.ext_of_below hb1; clear hb1
  go_wp2_with fail
  all_goals (first | go_region | skip)
  all_goals go_wp2
  all_goals
    refine bodyPost_ret (v := .tuple #[.int .i64 _, .agg #[_, _, _, _], .agg #[_, _, _]]) (by simp [results, Try.results30, go_sem] <;> first | rfl | exact ⟨rfl, rfl, rfl, rfl⟩ | decide) rfl ⟨rfl, ?_⟩
    repeat (first | exact bel_refl _ | with_reducible apply bel_alloc | with_reducible apply bel_ext | with_reducible apply bel_drew | with_reducible apply bel_drewN | ((with_reducible refine bel_set ?_ (by simp <;> omega))) | ((with_reducible refine bel_trans ?_ (by assumption))))

set_option maxRecDepth 100000 in
set_option maxHeartbeats 4000000 in
theorem rstep5n (prio : Int) (r : Regs) (ad : Addr) (c : Nat) (l : List Ins) (w : World) (hc : l.length ≤ c) (hA : InsAt w (some ad) l) (E2 : Int) (HC : Hid (∀ w, InsAt w (some ad) l → Calls Try.prog 62 #[.agg #[.int .i64 prio, .slice (some ad) l.length c]] w (twoPost w (0, E2)))) (k : Nat) (hk : k < l.length) (hlen : l.length ≤ 64) (a b n : Int) (ha : 0 ≤ a) (ha' : a < 4) (hn : 0 ≤ n) (hn' : n < 100) (hz : r.get a ≠ 0)
    (c0 : w.cell? (ad.add (k * 4)) = some (.int .i64 5)) (c1 : w.cell? ⟨(ad.add (k * 4)).block, (ad.add (k * 4)).off + 1, none⟩ = some (.int .i64 a)) (c2 : w.cell? ⟨(ad.add (k * 4)).block, (ad.add (k * 4)).off + 2, none⟩ = some (.int .i64 b)) (c3 : w.cell? ⟨(ad.add (k * 4)).block, (ad.add (k * 4)).off + 3, none⟩ = some (.int .i32 n)) :
    Calls Try.prog 30 #[.agg #[.int .i64 prio, .slice (some ad) l.length c], .int .i64 k, .agg #[.int .i32 (r).r0, .int .i32 (r).r1, .int .i32 (r).r2, .int .i32 (r).r3]] w
      (resPost w ⟨n, r, 0, 0, 0⟩) := by
  have hga := arr_get r ha ha'; have hgal := arr_getL r ha ha'
  have hz' : (r.get a != 0) = true := by rw [bne_iff_ne]; exact hz
  clear hz
  have hlt := World.inBlk_of_cell c0
  have HA := Lib.hid hA
  clear hA
  go_enter Try.func30, Try.ntmps30
  go_wp2_with fail
  refine (HC.out _ (HA.out.below (by repeat (first | exact bel_refl _ | with_reducible apply bel_alloc | with_reducible apply bel_ext | with_reducible apply bel_drew | with_reducible apply bel_drewN | ((with_reducible refine bel_set ?_ (by simp <;> omega))) | ((with_reducible refine bel_trans ?_ (by assumption))))))).mono ?_
  rintro e wx1 ⟨rfl, hb1⟩; obtain ⟨os1, d1, rfl⟩ := World.ext_of_below hb1; clear hb1
  go_wp2_with fail
  all_goals (first | go_region | skip)
  all_goals go_wp2
  all_goals
    refine bodyPost_ret (v := .tuple #[.int .i64 _, .agg #[_, _, _, _], .agg #[_, _, _]]) (by simp [results, Try.results30, go_sem] <;> first | rfl | exact ⟨rfl, rfl, rfl, rfl⟩ | decide) rfl ⟨rfl, ?_⟩
    repeat (first | exact bel_refl _ | with_reducible apply bel_alloc | with_reducible apply bel_ext | with_reducible apply bel_drew | with_reducible apply bel_drewN | ((with_reducible refine bel_set ?_ (by simp <;> omega))) | ((with_reducible refine bel_trans ?_ (by assumption))))

set_option maxRecDepth 100000 in
set_option maxHeartbeats 4000000 in
theorem rstep6 (prio : Int) (r : Regs) (ad : Addr) (c : Nat) (l : List Ins) (w : World) (hc : l.length ≤ c) (hA : InsAt w (some ad) l) (E2 : Int) (HC : Hid (∀ w, InsAt w (some ad) l → Calls Try.prog 62 #[.agg #[.int .i64 prio, .slice (some ad) l.length c]] w (twoPost w (0, E2)))) (k : Nat) (hk : k < l.length) (hlen : l.length ≤ 64) (a b n : Int) 
    (c0 : w.cell? (ad.add (k * 4)) = some (.int .i64 6)) (c1 : w.cell? ⟨(ad.add (k * 4)).block, (ad.add (k * 4)).off + 1, none⟩ = some (.int .i64 a)) (c2 : w.cell? ⟨(ad.add (k * 4)).block, (ad.add (k * 4)).off + 2, none⟩ = some (.int .i64 b)) (c3 : w.cell? ⟨(ad.add (k * 4)).block, (ad.add (k * 4)).off + 3, none⟩ = some (.int .i32 n)) :
    Calls Try.prog 30 #[.agg #[.int .i64 prio, .slice (some ad) l.length c], .int .i64 k, .agg #[.int .i32 (r).r0, .int .i32 (r).r1, .int .i32 (r).r2, .int .i32 (r).r3]] w
      (resPost w ⟨k + 1, r, 6, 0, 0⟩) := by
  have hlt := World.inBlk_of_cell c0
  have HA := Lib.hid hA
  clear hA
  go_enter Try.func30, Try.ntmps30
  go_wp2_with fail
  refine (HC.out _ (HA.out.below (by repeat (first | exact bel_refl _ | with_reducible apply bel_alloc | with_reducible apply bel_ext | with_reducible apply bel_drew | with_reducible apply bel_drewN | ((with_reducible refine bel_set ?_ (by simp <;> omega))) | ((with_reducible refine bel_trans ?_ (by assumption))))))).mono ?_
  rintro e wx1 ⟨rfl, hb1⟩; obtain ⟨os1, d1, rfl⟩ := World.ext_of_below hb1; clear hb1
  go_wp2_with fail
  all_goals (first | go_region | skip)
  all_goals go_wp2
  all_goals
    refine bodyPost_ret (v := .tuple #[.int .i64 _, .agg #[_, _, _, _], .agg #[_, _, _]]) (by simp [results, Try.results30, go_sem] <;> first | rfl | exact ⟨rfl, rfl, rfl, rfl⟩ | decide) rfl ⟨rfl, ?_⟩
    repeat (first | exact bel_refl _ | with_reducible apply bel_alloc | with_reducible apply bel_ext | with_reducible apply bel_drew | with_reducible apply bel_drewN | ((with_reducible refine bel_set ?_ (by simp <;> omega))) | ((with_reducible refine bel_trans ?_ (by assumption))))

set_option maxRecDepth 100000 in
set_option maxHeartbeats 4000000 in
theorem rstep8 (prio : Int) (r : Regs) (ad : Addr) (c : Nat) (l : List Ins) (w : World) (hc : l.length ≤ c) (hA : InsAt w (some ad) l) (E2 : Int) (HC : Hid (∀ w, InsAt w (some ad) l → Calls Try.prog 62 #[.agg #[.int .i64 prio, .slice (some ad) l.length c]] w (twoPost w (0, E2)))) (k : Nat) (hk : k < l.length) (hlen : l.length ≤ 64) (a b n : Int) (ha : 0 ≤ a) (ha' : a < 4)
    (c0 : w.cell? (ad.add (k * 4)) = some (.int .i64 8)) (c1 : w.cell? ⟨(ad.add (k * 4)).block, (ad.add (k * 4)).off + 1, none⟩ = some (.int .i64 a)) (c2 : w.cell? ⟨(ad.add (k * 4)).block, (ad.add (k * 4)).off + 2, none⟩ = some (.int .i64 b)) (c3 : w.cell? ⟨(ad.add (k * 4)).block, (ad.add (k * 4)).off + 3, none⟩ = some (.int .i32 n)) :
    Calls Try.prog 30 #[.agg #[.int .i64 prio, .slice (some ad) l.length c], .int .i64 k, .agg #[.int .i32 (r).r0, .int .i32 (r).r1, .int .i32 (r).r2, .int .i32 (r).r3]] w
      (resPost w ⟨k + 1, r, 8, b, r.get a⟩) := by
  have hga := arr_get r ha ha'; have hgal := arr_getL r ha ha'
  have hlt := World.inBlk_of_cell c0
  have HA := Lib.hid hA
  clear hA
  go_enter Try.func30, Try.ntmps30
  go_wp2_with fail
  refine (HC.out _ (HA.out.below (by repeat (first | exact bel_refl _ | with_reducible apply bel_alloc | with_reducible apply bel_ext | with_reducible apply bel_drew | with_reducible apply bel_drewN | ((with_reducible refine bel_set ?_ (by simp <;> omega))) | ((with_reducible refine bel_trans ?_ (by assumption))))))).mono ?_
  rintro e wx1 ⟨rfl, hb1⟩; obtain ⟨os1, d1, rfl⟩ := World.ext_of_below hb1; clear hb1
  go_wp2_with fail
  all_goals (first | go_region | skip)
  all_goals go_wp2
  all_goals
    refine bodyPost_ret (v := .tuple #[.int .i64 _, .agg #[_, _, _, _], .agg #[_, _, _]]) (by simp [results, Try.results30, go_sem] <;> first | rfl | exact ⟨rfl, rfl, rfl, rfl⟩ | decide) rfl ⟨rfl, ?_⟩
    repeat (first | exact bel_refl _ | with_reducible apply bel_alloc | with_reducible apply bel_ext | with_reducible apply bel_drew | with_reducible apply bel_drewN | ((with_reducible refine bel_set ?_ (by simp <;> omega))) | ((with_reducible refine bel_trans ?_ (by assumption))))

set_option maxRecDepth 100000 in
set_option maxHeartbeats 4000000 in
theorem rstep11 (prio : Int) (r : Regs) (ad : Addr) (c : Nat) (l : List Ins) (w : World) (hc : l.length ≤ c) (hA : InsAt w (some ad) l) (E2 : Int) (HC : Hid (∀ w, InsAt w (some ad) l → Calls Try.prog 62 #[.agg #[.int .i64 prio, .slice (some ad) l.length c]] w (twoPost w (0, E2)))) (k : Nat) (hk : k < l.length) (hlen : l.length ≤ 64) (a b n : Int) (ha : 0 ≤ a) (ha' : a < 4)
    (c0 : w.cell? (ad.add (k * 4)) = some (.int .i64 11)) (c1 : w.cell? ⟨(ad.add (k * 4)).block, (ad.add (k * 4)).off + 1, none⟩ = some (.int .i64 a)) (c2 : w.cell? ⟨(ad.add (k * 4)).block, (ad.add (k * 4)).off + 2, none⟩ = some (.int .i64 b)) (c3 : w.cell? ⟨(ad.add (k * 4)).block, (ad.add (k * 4)).off + 3, none⟩ = some (.int .i32 n)) :
    Calls Try.prog 30 #[.agg #[.int .i64 prio, .slice (some ad) l.length c], .int .i64 k, .agg #[.int .i32 (r).r0, .int .i32 (r).r1, .int .i32 (r).r2, .int .i32 (r).r3]] w
      (resPost w ⟨k + 1, r, 11, 0, r.get a⟩) := by
  have hga := arr_get r ha ha'; have hgal := arr_getL r ha ha'
  have hlt := World.inBlk_of_cell c0
  have HA := Lib.hid hA
  clear hA
  go_enter Try.func30, Try.ntmps30
  go_wp2_with fail
  refine (HC.out _ (HA.out.below (by repeat (first | exact bel_refl _ | with_reducible apply bel_alloc | with_reducible apply bel_ext | with_reducible apply bel_drew | with_reducible apply bel_drewN | ((with_reducible refine bel_set ?_ (by simp <;> omega))) | ((with_reducible refine bel_trans ?_ (by assumption))))))).mono ?_
  rintro e wx1 ⟨rfl, hb1⟩; obtain ⟨os1, d1, rfl⟩ := World.ext_of_below hb1; clear hb1
  go_wp2_with fail
  all_goals (first | go_region | skip)
  all_goals go_wp2
  all_goals
    refine bodyPost_ret (v := .tuple #[.int .i64 _, .agg #[_, _, _, _], .agg #[_, _, _]]) (by simp [results, Try.results30, go_sem] <;> first | rfl | exact ⟨rfl, rfl, rfl, rfl⟩ | decide) rfl ⟨rfl, ?_⟩
    repeat (first | exact bel_refl _ | with_reducible apply bel_alloc | with_reducible apply bel_ext | with_reducible apply bel_drew | with_reducible apply bel_drewN | ((with_reducible refine bel_set ?_ (by simp <;> omega))) | ((with_reducible refine bel_trans ?_ (by assumption))))

set_option maxRecDepth 100000 in
set_option maxHeartbeats 4000000 in
theorem rstep13 (prio : Int) (r : Regs) (ad : Addr) (c : Nat) (l : List Ins) (w : World) (hc : l.length ≤ c) (hA : InsAt w (some ad) l) (E2 : Int) (HC : Hid (∀ w, InsAt w (some ad) l → Calls Try.prog 62 #[.agg #[.int .i64 prio, .slice (some ad) l.length c]] w (twoPost w (0, E2)))) (k : Nat) (hk : k < l.length) (hlen : l.length ≤ 64) (a b n : Int) (ha : 0 ≤ a) (ha' : a < 4)
    (c0 : w.cell? (ad.add (k * 4)) = some (.int .i64 13)) (c1 : w.cell? ⟨(ad.add (k * 4)).block, (ad.add (k * 4)).off + 1, none⟩ = some (.int .i64 a)) (c2 : w.cell? ⟨(ad.add (k * 4)).block, (ad.add (k * 4)).off + 2, none⟩ = some (.int .i64 b)) (c3 : w.cell? ⟨(ad.add (k * 4)).block, (ad.add (k * 4)).off + 3, none⟩ = some (.int .i32 n)) :
    Calls Try.prog 30 #[.agg #[.int .i64 prio, .slice (some ad) l.length c], .int .i64 k, .agg #[.int .i32 (r).r0, .int .i32 (r).r1, .int .i32 (r).r2, .int .i32 (r).r3]] w
      (resPost w ⟨k + 1, r, 13, 0, r.get a⟩) := by
  have hga := arr_get r ha ha'; have hgal := arr_getL r ha ha'
  have hlt := World.inBlk_of_cell c0
  have HA := Lib.hid hA
  clear hA
  go_enter Try.func30, Try.ntmps30
  go_wp2_with fail
  refine (HC.out _ (HA.out.below (by repeat (first | exact bel_refl _ | with_reducible apply bel_alloc | with_reducible apply bel_ext | with_reducible apply bel_drew | with_reducible apply bel_drewN | ((with_reducible refine bel_set ?_ (by simp <;> omega))) | ((with_reducible refine bel_trans ?_ (by assumption))))))).mono ?_
  rintro e wx1 ⟨rfl, hb1⟩; obtain ⟨os1, d1, rfl⟩ := World.ext_of_below hb1; clear hb1
  go_wp2_with fail
  all_goals (first | go_region | skip)
  all_goals go_wp2
  all_goals
    refine bodyPost_ret (v := .tuple #[.int .i64 _, .agg #[_, _, _, _], .agg #[_, _, _]]) (by simp [results, Try.results30, go_sem] <;> first | rfl | exact ⟨rfl, rfl, rfl, rfl⟩ | decide) rfl ⟨rfl, ?_⟩
    repeat (first | exact bel_refl _ | with_reducible apply bel_alloc | with_reducible apply bel_ext | with_reducible apply bel_drew | with_reducible apply bel_drewN | ((with_reducible refine bel_set ?_ (by simp <;> omega))) | ((with_reducible refine bel_trans ?_ (by assumption))))

set_option maxRecDepth 100000 in
set_option maxHeartbeats 4000000 in
theorem rstep14 (prio : Int) (r : Regs) (ad : Addr) (c : Nat) (l : List Ins) (w : World) (hc : l.length ≤ c) (hA : InsAt w (some ad) l) (E2 : Int) (HC : Hid (∀ w, InsAt w (some ad) l → Calls Try.prog 62 #[.agg #[.int .i64 prio, .slice (some ad) l.length c]] w (twoPost w (0, E2)))) (k : Nat) (hk : k < l.length) (hlen : l.length ≤ 64) (a b n : Int) (ha : 0 ≤ a) (ha' : a < 4)
    (c0 : w.cell? (ad.add (k * 4)) = some (.int .i64 14)) (c1 : w.cell? ⟨(ad.add (k * 4)).block, (ad.add (k * 4)).off + 1, none⟩ = some (.int .i64 a)) (c2 : w.cell? ⟨(ad.add (k * 4)).block, (ad.add (k * 4)).off + 2, none⟩ = some (.int .i64 b)) (c3 : w.cell? ⟨(ad.add (k * 4)).block, (ad.add (k * 4)).off + 3, none⟩ = some (.int .i32 n)) :
    Calls Try.prog 30 #[.agg #[.int .i64 prio, .slice (some ad) l.length c], .int .i64 k, .agg #[.int .i32 (r).r0, .int .i32 (r).r1, .int .i32 (r).r2, .int .i32 (r).r3]] w
      (resPost w ⟨k, r, 14, 0, r.get a⟩) := by
  have hga := arr_get r ha ha'; have hgal := arr_getL r ha ha'
  have hlt := World.inBlk_of_cell c0
  have HA := Lib.hid hA
  clear hA
  go_enter Try.func30, Try.ntmps30
  go_wp2_with fail
  refine (HC.out _ (HA.out.below (by repeat (first | exact bel_refl _ | with_reducible apply bel_alloc | with_reducible apply bel_ext | with_reducible apply bel_drew | with_reducible apply bel_drewN | ((with_reducible refine bel_set ?_ (by simp <;> omega))) | ((with_reducible refine bel_trans ?_ (by assumption))))))).mono ?_
  rintro e wx1 ⟨rfl, hb1⟩; obtain ⟨os1, d1, rfl⟩ := World.ext_of_below hb1; clear hb1
  go_wp2_with fail
  all_goals (first | go_region | skip)
  all_goals go_wp2
  all_goals
    refine bodyPost_ret (v := .tuple #[.int .i64 _, .agg #[_, _, _, _], .agg #[_, _, _]]) (by simp [results, Try.results30, go_sem] <;> first | rfl | exact ⟨rfl, rfl, rfl, rfl⟩ | decide) rfl ⟨rfl, ?_⟩
    repeat (first | exact bel_refl _ | with_reducible apply bel_alloc | with_reducible apply bel_ext | with_reducible apply bel_drew | with_reducible apply bel_drewN | ((with_reducible refine bel_set ?_ (by simp <;> omega))) | ((with_reducible refine bel_trans ?_ (by assumption))))

set_option maxRecDepth 100000 in
set_option maxHeartbeats 4000000 in
theorem rstep7 (prio : Int) (r : Regs) (ad : Addr) (c : Nat) (l : List Ins) (w : World) (hc : l.length ≤ c) (hA : InsAt w (some ad) l) (E2 : Int) (HC : Hid (∀ w, InsAt w (some ad) l → Calls Try.prog 62 #[.agg #[.int .i64 prio, .slice (some ad) l.length c]] w (twoPost w (0, E2)))) (k : Nat) (hk : k < l.length) (hlen : l.length ≤ 64) (a b n : Int) 
    (c0 : w.cell? (ad.add (k * 4)) = some (.int .i64 7)) (c1 : w.cell? ⟨(ad.add (k * 4)).block, (ad.add (k * 4)).off + 1, none⟩ = some (.int .i64 a)) (c2 : w.cell? ⟨(ad.add (k * 4)).block, (ad.add (k * 4)).off + 2, none⟩ = some (.int .i64 b)) (c3 : w.cell? ⟨(ad.add (k * 4)).block, (ad.add (k * 4)).off + 3, none⟩ = some (.int .i32 n)) :
    Calls Try.prog 30 #[.agg #[.int .i64 prio, .slice (some ad) l.length c], .int .i64 k, .agg #[.int .i32 (r).r0, .int .i32 (r).r1, .int .i32 (r).r2, .int .i32 (r).r3]] w
      (resPost w ⟨k + 1, r, 7, a, n⟩) := by
  have hlt := World.inBlk_of_cell c0
  have HA := Lib.hid hA
  clear hA
  go_enter Try.func30, Try.ntmps30
  go_wp2_with fail
  refine (HC.out _ (HA.out.below (by repeat (first | exact bel_refl _ | with_reducible apply bel_alloc | with_reducible apply bel_ext | with_reducible apply bel_drew | with_reducible apply bel_drewN | ((with_reducible refine bel_set ?_ (by simp <;> omega))) | ((with_reducible refine bel_trans ?_ (by assumption))))))).mono ?_
  rintro e wx1 ⟨rfl, hb1⟩; obtain ⟨os1, d1, rfl⟩ := World.ext_of_below hb1; clear hb1
  go_wp2_with fail
  all_goals (first | go_region | skip)
  all_goals go_wp2
  all_goals
    refine bodyPost_ret (v := .tuple #[.int .i64 _, .agg #[_, _, _, _], .agg #[_, _, _]]) (by simp [results, Try.results30, go_sem] <;> first | rfl | exact ⟨rfl, rfl, rfl, rfl⟩ | decide) rfl ⟨rfl, ?_⟩
    repeat (first | exact bel_refl _ | with_reducible apply bel_alloc | with_reducible apply bel_ext | with_reducible apply bel_drew | with_reducible apply bel_drewN | ((with_reducible refine bel_set ?_ (by simp <;> omega))) | ((with_reducible refine bel_trans ?_ (by assumption))))

set_option maxRecDepth 100000 in
set_option maxHeartbeats 4000000 in
theorem rstep9 (prio : Int) (r : Regs) (ad : Addr) (c : Nat) (l : List Ins) (w : World) (hc : l.length ≤ c) (hA : InsAt w (some ad) l) (E2 : Int) (HC : Hid (∀ w, InsAt w (some ad) l → Calls Try.prog 62 #[.agg #[.int .i64 prio, .slice (some ad) l.length c]] w (twoPost w (0, E2)))) (k : Nat) (hk : k < l.length) (hlen : l.length ≤ 64) (a b n : Int) 
    (c0 : w.cell? (ad.add (k * 4)) = some (.int .i64 9)) (c1 : w.cell? ⟨(ad.add (k * 4)).block, (ad.add (k * 4)).off + 1, none⟩ = some (.int .i64 a)) (c2 : w.cell? ⟨(ad.add (k * 4)).block, (ad.add (k * 4)).off + 2, none⟩ = some (.int .i64 b)) (c3 : w.cell? ⟨(ad.add (k * 4)).block, (ad.add (k * 4)).off + 3, none⟩ = some (.int .i32 n)) :
    Calls Try.prog 30 #[.agg #[.int .i64 prio, .slice (some ad) l.length c], .int .i64 k, .agg #[.int .i32 (r).r0, .int .i32 (r).r1, .int .i32 (r).r2, .int .i32 (r).r3]] w
      (resPost w ⟨k + 1, r, 9, a, n⟩) := by
  have hlt := World.inBlk_of_cell c0
  have HA := Lib.hid hA
  clear hA
  go_enter Try.func30, Try.ntmps30
  go_wp2_with fail
  refine (HC.out _ (HA.out.below (by repeat (first | exact bel_refl _ | with_reducible apply bel_alloc | with_reducible apply bel_ext | with_reducible apply bel_drew | with_reducible apply bel_drewN | ((with_reducible refine bel_set ?_ (by simp <;> omega))) | ((with_reducible refine bel_trans ?_ (by assumption))))))).mono ?_
  rintro e wx1 ⟨rfl, hb1⟩; obtain ⟨os1, d1, rfl⟩ := World.ext_of_below hb1; clear hb1
  go_wp2_with fail
  all_goals (first | go_region | skip)
  all_goals go_wp2
  all_goals
    refine bodyPost_ret (v := .tuple #[.int .i64 _, .agg #[_, _, _, _], .agg #[_, _, _]]) (by simp [results, Try.results30, go_sem] <;> first | rfl | exact ⟨rfl, rfl, rfl, rfl⟩ | decide) rfl ⟨rfl, ?_⟩
    repeat (first | exact bel_refl _ | with_reducible apply bel_alloc | with_reducible apply bel_ext | with_reducible apply bel_drew | with_reducible apply bel_drewN | ((with_reducible refine bel_set ?_ (by simp <;> omega))) | ((with_reducible refine bel_trans ?_ (by assumption))))

set_option maxRecDepth 100000 in
set_option maxHeartbeats 4000000 in
theorem rstep10 (prio : Int) (r : Regs) (ad : Addr) (c : Nat) (l : List Ins) (w : World) (hc : l.length ≤ c) (hA : InsAt w (some ad) l) (E2 : Int) (HC : Hid (∀ w, InsAt w (some ad) l → Calls Try.prog 62 #[.agg #[.int .i64 prio, .slice (some ad) l.length c]] w (twoPost w (0, E2)))) (k : Nat) (hk : k < l.length) (hlen : l.length ≤ 64) (a b n : Int) 
    (c0 : w.cell? (ad.add (k * 4)) = some (.int .i64 10)) (c1 : w.cell? ⟨(ad.add (k * 4)).block, (ad.add (k * 4)).off + 1, none⟩ = some (.int .i64 a)) (c2 : w.cell? ⟨(ad.add (k * 4)).block, (ad.add (k * 4)).off + 2, none⟩ = some (.int .i64 b)) (c3 : w.cell? ⟨(ad.add (k * 4)).block, (ad.add (k * 4)).off + 3, none⟩ = some (.int .i32 n)) :
    Calls Try.prog 30 #[.agg #[.int .i64 prio, .slice (some ad) l.length c], .int .i64 k, .agg #[.int .i32 (r).r0, .int .i32 (r).r1, .int .i32 (r).r2, .int .i32 (r).r3]] w
      (resPost w ⟨k + 1, r, 10, a, n⟩) := by
  have hlt := World.inBlk_of_cell c0
  have HA := Lib.hid hA
  clear hA
  go_enter Try.func30, Try.ntmps30
  go_wp2_with fail
  refine (HC.out _ (HA.out.below (by repeat (first | exact bel_refl _ | with_reducible apply bel_alloc | with_reducible apply bel_ext | with_reducible apply bel_drew | with_reducible apply bel_drewN | ((with_reducible refine bel_set ?_ (by simp <;> omega))) | ((with_reducible refine bel_trans ?_ (by assumption))))))).mono ?_
  rintro e wx1 ⟨rfl, hb1⟩; obtain ⟨os1, d1, rfl⟩ := World.ext_of_below hb1; clear hb1
  go_wp2_with fail
  all_goals (first | go_region | skip)
  all_goals go_wp2
  all_goals
    refine bodyPost_ret (v := .tuple #[.int .i64 _, .agg #[_, _, _, _], .agg #[_, _, _]]) (by simp [results, Try.results30, go_sem] <;> first | rfl | exact ⟨rfl, rfl, rfl, rfl⟩ | decide) rfl ⟨rfl, ?_⟩
    repeat (first | exact bel_refl _ | with_reducible apply bel_alloc | with_reducible apply bel_ext | with_reducible apply bel_drew | with_reducible apply bel_drewN | ((with_reducible refine bel_set ?_ (by simp <;> omega))) | ((with_reducible refine bel_trans ?_ (by assumption))))

set_option maxRecDepth 100000 in
set_option maxHeartbeats 4000000 in
theorem rstep12 (prio : Int) (r : Regs) (ad : Addr) (c : Nat) (l : List Ins) (w : World) (hc : l.length ≤ c) (hA : InsAt w (some ad) l) (E2 : Int) (HC : Hid (∀ w, InsAt w (some ad) l → Calls Try.prog 62 #[.agg #[.int .i64 prio, .slice (some ad) l.length c]] w (twoPost w (0, E2)))) (k : Nat) (hk : k < l.length) (hlen : l.length ≤ 64) (a b n : Int) 
    (c0 : w.cell? (ad.add (k * 4)) = some (.int .i64 12)) (c1 : w.cell? ⟨(ad.add (k * 4)).block, (ad.add (k * 4)).off + 1, none⟩ = some (.int .i64 a)) (c2 : w.cell? ⟨(ad.add (k * 4)).block, (ad.add (k * 4)).off + 2, none⟩ = some (.int .i64 b)) (c3 : w.cell? ⟨(ad.add (k * 4)).block, (ad.add (k * 4)).off + 3, none⟩ = some (.int .i32 n)) :
    Calls Try.prog 30 #[.agg #[.int .i64 prio, .slice (some ad) l.length c], .int .i64 k, .agg #[.int .i32 (r).r0, .int .i32 (r).r1, .int .i32 (r).r2, .int .i32 (r).r3]] w
      (resPost w ⟨k + 1, r, 12, a, n⟩) := by
  have hlt := World.inBlk_of_cell c0
  have HA := Lib.hid hA
  clear hA
  go_enter Try.func30, Try.ntmps30
  go_wp2_with fail
  refine (HC.out _ (HA.out.below (by repeat (first | exact bel_refl _ | with_reducible apply bel_alloc | with_reducible apply bel_ext | with_reducible apply bel_drew | with_reducible apply bel_drewN | ((with_reducible refine bel_set ?_ (by simp <;> omega))) | ((with_reducible refine bel_trans ?_ (by assumption))))))).mono ?_
  rintro e wx1 ⟨rfl, hb1⟩; obtain ⟨os1, d1, rfl⟩ := World.ext_of_below hb1; clear hb1
  go_wp2_with fail
  all_goals (first | go_region | skip)
  all_goals go_wp2
  all_goals
    refine bodyPost_ret (v := .tuple #[.int .i64 _, .agg #[_, _, _, _], .agg #[_, _, _]]) (by simp [results, Try.results30, go_sem] <;> first | rfl | exact ⟨rfl, rfl, rfl, rfl⟩ | decide) rfl ⟨rfl, ?_⟩
    repeat (first | exact bel_refl _ | with_reducible apply bel_alloc | with_reducible apply bel_ext | with_reducible apply bel_drew | with_reducible apply bel_drewN | ((with_reducible refine bel_set ?_ (by simp <;> omega))) | ((with_reducible refine bel_trans ?_ (by assumption))))

end Go.Proofs.Ytkegdcnnankokaa
