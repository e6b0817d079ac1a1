/-
The statement ExecSplits, its own function.
-/
import Derived.Test.YtkegdcnnankokaaWalkExecSplits
namespace Go.Proofs.Ytkegdcnnankokaa
set_option linter.unusedVariables false
set_option linter.unusedSimpArgs false
open Go.RowKit
set_option maxHeartbeats 1000000 in
theorem execSplits_any (prio : Int) (r0 : Regs) (A : Option Addr) (c : Nat) (l : List Ins) (w : World) (m n : Int) (hm : 0 ≤ m ∧ m ≤ 18446744073709551615) (hn : 0 ≤ n ∧ n ≤ 18446744073709551615) (hc : l.length ≤ c) (hA : InsAt w A l) (hwf : InsWf l) :
    Calls Try.prog 9 #[.agg #[.int .i64 prio, .slice A l.length c], .agg #[.int .i32 (r0).r0, .int .i32 (r0).r1, .int .i32 (r0).r2, .int .i32 (r0).r3], .agg #[.int .u64 m, .int .u64 n]] w fun e w' => e = .returned (.bool true) ∧ Below w.heap.size w w' := by
  obtain ⟨a, ha⟩ := Int.eq_ofNat_of_zero_le (show 0 ≤ m % 100 by omega)
  obtain ⟨b, hb⟩ := Int.eq_ofNat_of_zero_le (show 0 ≤ n % 100 by omega)
  have H := Lib.hid (fun w (hA : InsAt w A l) => splits_any prio r0 A c l w a b (by omega) (by omega) hc hA hwf)
  have HA := Lib.hid hA
  have ta : m.tmod 100 = a := by rw [Int.tmod_eq_emod_of_nonneg hm.1, ha]
  have tb : n.tmod 100 = b := by rw [Int.tmod_eq_emod_of_nonneg hn.1, hb]
  have ha2 : (a : Int) < 100 := by omega
  have hb2 : (b : Int) < 100 := by omega
  clear hA hwf hc
  go_enter Try.func9, Try.ntmps9
  go_wp2_with fail
  refine (lives_any _).mono ?_
  rintro e wx1 ⟨rfl, hb1⟩; obtain ⟨os1, d1, rfl⟩ := World.ext_of_below hb1; clear hb1
  go_wp2_with fail
  refine (H.out _ (HA.out.below (by repeat (first | exact bel_refl _ | with_reducible apply bel_alloc | with_reducible apply bel_ext | with_reducible apply bel_drew | with_reducible apply bel_drewN | ((with_reducible refine bel_set ?_ (by simp <;> omega))) | ((with_reducible refine bel_trans ?_ (by assumption))))))).mono ?_
  rintro e wx2 ⟨rfl, hb2⟩; obtain ⟨os2, d2, rfl⟩ := World.ext_of_below hb2; clear hb2
  go_wp2_with fail
  go_ret
  refine ⟨rfl, ?_⟩
  repeat (first | exact bel_refl _ | with_reducible apply bel_alloc | with_reducible apply bel_ext | with_reducible apply bel_drew | with_reducible apply bel_drewN | ((with_reducible refine bel_set ?_ (by simp <;> omega))) | ((with_reducible refine bel_trans ?_ (by assumption))))
end Go.Proofs.Ytkegdcnnankokaa
