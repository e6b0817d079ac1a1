/-
gantt's closures: is an event an instruction of a worker's? of a task's?
-/
import Derived.Test.YtkegdcnnankokaaPGanx0
namespace Go.Proofs.Ytkegdcnnankokaa.PGan
set_option linter.unusedVariables false
set_option linter.unusedSimpArgs false
open Go.RowKit Go.Proofs.YtkegdcnnankokaaW.PrintWords Go.Proofs.YtkegdcnnankokaaW.PrintLast Go.Proofs.YtkegdcnnankokaaW.PrintMore
theorem cap_on {w : World} {c : Addr} {v : Value} (h : w.cell? c = some v) (o : Obj) : (w.alloc o).cell? c = some v := by
  exact ((Below.refl w.heap.size w).alloc (Nat.le_refl _) o).cell (World.block_lt_of_cell? _ _ h) |>.trans h
def gantt_Busy_1.f (a0_0 : Int) (a0_1 : Int) (a0_2 : Int) (a0_3 : Int) (a0_4 : Int) (a1 : Int) : Option (Bool) := some (a0_0 == 3 && a0_2 == a1)
theorem gantt_Busy_1.calls (a0_0 : Int) (a0_1 : Int) (a0_2 : Int) (a0_3 : Int) (a0_4 : Int) (a1 : Int) (r : Bool) (w : World) (h : gantt_Busy_1.f a0_0 a0_1 a0_2 a0_3 a0_4 a1 = some r) (cap_ : Addr) (hcap_ : w.cell? cap_ = some (.int .i64 a1)) :
    Calls Try.prog 56 #[.agg #[.int .i64 a0_0, .int .i64 a0_1, .int .i64 a0_2, .int .i64 a0_3, .int .i64 a0_4], .pointer (some cap_)] w fun e w' => e = .returned (.bool r) ∧ Below w.heap.size w w' := by
  obtain rfl := Option.some.inj h
  have hc := cap_on hcap_
  have hu84 := Try.underlying36
  by_cases hk : a0_0 = 3
  · have hk1 : (a0_0 == 3) = true := by simpa using hk
    have hk2 : ((a0_0 == 3 && a0_2 == a1) : Bool) = (a0_2 == a1) := by rw [hk1]; rfl
    rw [hk2]
    clear hk
    go_enter Try.func56, Try.ntmps56
    go_wp2
    go_ret
    exact ⟨rfl, xa (Below.refl _ _) _⟩
  · have hk1 : (a0_0 == 3) = false := by simpa using hk
    have hk2 : ((a0_0 == 3 && a0_2 == a1) : Bool) = false := by rw [hk1]; rfl
    rw [hk2]
    clear hk
    go_enter Try.func56, Try.ntmps56
    go_wp2
    go_ret
    exact ⟨rfl, xa (Below.refl _ _) _⟩
def gantt_Ran_1.f (a0_0 : Int) (a0_1 : Int) (a0_2 : Int) (a0_3 : Int) (a0_4 : Int) (a1 : Int) : Option (Bool) := some (a0_0 == 3 && a0_1 == a1)
theorem gantt_Ran_1.calls (a0_0 : Int) (a0_1 : Int) (a0_2 : Int) (a0_3 : Int) (a0_4 : Int) (a1 : Int) (r : Bool) (w : World) (h : gantt_Ran_1.f a0_0 a0_1 a0_2 a0_3 a0_4 a1 = some r) (cap_ : Addr) (hcap_ : w.cell? cap_ = some (.int .i64 a1)) :
    Calls Try.prog 57 #[.agg #[.int .i64 a0_0, .int .i64 a0_1, .int .i64 a0_2, .int .i64 a0_3, .int .i64 a0_4], .pointer (some cap_)] w fun e w' => e = .returned (.bool r) ∧ Below w.heap.size w w' := by
  obtain rfl := Option.some.inj h
  have hc := cap_on hcap_
  have hu84 := Try.underlying36
  by_cases hk : a0_0 = 3
  · have hk1 : (a0_0 == 3) = true := by simpa using hk
    have hk2 : ((a0_0 == 3 && a0_1 == a1) : Bool) = (a0_1 == a1) := by rw [hk1]; rfl
    rw [hk2]
    clear hk
    go_enter Try.func57, Try.ntmps57
    go_wp2
    go_ret
    exact ⟨rfl, xa (Below.refl _ _) _⟩
  · have hk1 : (a0_0 == 3) = false := by simpa using hk
    have hk2 : ((a0_0 == 3 && a0_1 == a1) : Bool) = false := by rw [hk1]; rfl
    rw [hk2]
    clear hk
    go_enter Try.func57, Try.ntmps57
    go_wp2
    go_ret
    exact ⟨rfl, xa (Below.refl _ _) _⟩
end Go.Proofs.Ytkegdcnnankokaa.PGan
