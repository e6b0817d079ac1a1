/-
HeapNobody walked: a heap that there isn't has nothing, and takes nothing.
-/
import Derived.Test.YtkegdcnnankokaaHeapSorts
namespace Go.Proofs.Ytkegdcnnankokaa.Hpi
set_option linter.unusedVariables false
set_option linter.unusedSimpArgs false
open Go.Maps Go.RowKit Go.Proofs.YtkegdcnnankokaaW.PrintWords Go.Proofs.YtkegdcnnankokaaW.PrintLast Go.Proofs.YtkegdcnnankokaaW.PrintMore Hp
open Hps (lives_any)
section
variable (w : World)
set_option maxRecDepth 100000 in
theorem len_no : Calls Try.prog 40 #[.pointer none] w fun e w' => e = .returned (.int .i64 0) ∧ w' = w := by
  go_enter Try.func40, Try.ntmps40
  go_wp2
  go_ret
  exact ⟨rfl, rfl⟩
set_option maxRecDepth 100000 in
theorem put_no (when x : Int) : Calls Try.prog 36 #[.pointer none, .int .i64 when, .int .i64 x] w fun e w' => e = .returned (.bool false) ∧ w' = w := by
  go_enter Try.func36, Try.ntmps36
  go_wp2
  go_ret
  exact ⟨rfl, rfl⟩
set_option maxRecDepth 100000 in
theorem drop_no (x : Int) : Calls Try.prog 45 #[.pointer none, .int .i64 x] w fun e w' => e = .returned (.bool false) ∧ w' = w := by
  go_enter Try.func45, Try.ntmps45
  go_wp2
  go_ret
  exact ⟨rfl, rfl⟩
set_option maxRecDepth 100000 in
theorem when_no (x : Int) : Calls Try.prog 44 #[.pointer none, .int .i64 x] w fun e w' => e = .returned (.tuple #[.int .i64 0, .bool false]) ∧ w' = w := by
  go_enter Try.func44, Try.ntmps44
  go_wp2
  go_ret2
  exact ⟨rfl, rfl⟩
set_option maxRecDepth 100000 in
theorem all_no : Calls Try.prog 46 #[.pointer none] w fun e w' => e = .returned (.slice none 0 0) ∧ w' = w := by
  go_enter Try.func46, Try.ntmps46
  go_wp2
  go_ret
  exact ⟨rfl, rfl⟩
set_option maxRecDepth 100000 in
theorem first_no : Calls Try.prog 43 #[.pointer none] w fun e w' => e = .returned (.tuple #[.int .i64 0, .int .i64 0, .bool false]) ∧ w' = w := by
  have hLen := fun V => Aside0.mk (len_no V)
  go_enter Try.func43, Try.ntmps43
  go_wp2_with (first
    | (go_at_call 40; refine ((hLen _).out).mono ?_; rintro e w1 ⟨rfl, rfl⟩)
    | fail)
  go_ret3
  exact ⟨rfl, rfl⟩
set_option maxRecDepth 100000 in
theorem pop_no : Calls Try.prog 37 #[.pointer none] w fun e w' => e = .returned (.tuple #[.int .i64 0, .int .i64 0, .bool false]) ∧ w' = w := by
  have hLen := fun V => Aside0.mk (len_no V)
  go_enter Try.func37, Try.ntmps37
  go_wp2_with (first
    | (go_at_call 40; refine ((hLen _).out).mono ?_; rintro e w1 ⟨rfl, rfl⟩)
    | fail)
  go_ret3
  exact ⟨rfl, rfl⟩
set_option maxRecDepth 100000 in
set_option maxHeartbeats 8000000 in
theorem due_no (now : Int) : Calls Try.prog 39 #[.pointer none, .int .i64 now] w fun e w' => e = .returned (.slice none 0 0) ∧ w' = w := by
  have hF := fun V => Aside0.mk (first_no V)
  go_enter Try.func39, Try.ntmps39
  go_wp2
  go_loopw [4] (fun v4 wr => v4 = .slice none 0 0 ∧ wr = w) (fun _ _ => 0)
  case atStart => exact ⟨rfl, rfl⟩
  case round =>
    obtain ⟨rfl, rfl⟩ := hrel
    go_wp2_with (first
      | (go_at_call 43; refine ((hF _).out).mono ?_; rintro e w9 ⟨rfl, hw9⟩; rw [hw9]; clear hw9)
      | fail)
    go_ret
    exact ⟨rfl, rfl⟩
end
set_option maxRecDepth 100000 in
set_option maxHeartbeats 8000000 in
theorem heapNobody_any (a0 a1 : Int) (w : World) :
    Calls Try.prog 13 #[.int .i64 a0, .int .i64 a1] w fun e w' => e = .returned (.bool true) ∧ Below w.heap.size w w' := by
  have h1 := Aside0.mk (first_no w)
  have h2 := Aside0.mk (pop_no w)
  have h3 := Aside0.mk (when_no w a1)
  have h4 := Aside0.mk (put_no w a0 a1)
  have h5 := Aside0.mk (drop_no w a1)
  have h6 := Aside0.mk (len_no w)
  have h7 := Aside0.mk (due_no w a0)
  have h8 := Aside0.mk (all_no w)
  have h9 := Aside0.mk (lives_any w)
  go_enter Try.func13, Try.ntmps13
  go_wp2_with (first
    | (go_at_call 43; refine (h1.out).mono ?_; rintro e w9 ⟨rfl, hw9⟩; rw [hw9]; clear hw9)
    | (go_at_call 37; refine (h2.out).mono ?_; rintro e w9 ⟨rfl, hw9⟩; rw [hw9]; clear hw9)
    | (go_at_call 44; refine (h3.out).mono ?_; rintro e w9 ⟨rfl, hw9⟩; rw [hw9]; clear hw9)
    | (go_at_call 36; refine (h4.out).mono ?_; rintro e w9 ⟨rfl, hw9⟩; rw [hw9]; clear hw9)
    | (go_at_call 45; refine (h5.out).mono ?_; rintro e w9 ⟨rfl, hw9⟩; rw [hw9]; clear hw9)
    | (go_at_call 40; refine (h6.out).mono ?_; rintro e w9 ⟨rfl, hw9⟩; rw [hw9]; clear hw9)
    | (go_at_call 39; refine (h7.out).mono ?_; rintro e w9 ⟨rfl, hw9⟩; rw [hw9]; clear hw9)
    | (go_at_call 46; refine (h8.out).mono ?_; rintro e w9 ⟨rfl, hw9⟩; rw [hw9]; clear hw9)
    | (go_at_call 38; refine (h9.out).mono ?_; rintro e w9 ⟨rfl, B9⟩)
    | fail)
  go_ret
  exact ⟨rfl, B9⟩
end Go.Proofs.Ytkegdcnnankokaa.Hpi
