/-
event's closures: is an event a task's? is it of a kind and a task's?
-/
import Derived.Test.YtidhcdifmcffcaaPCenx0
namespace Go.Proofs.Ytidhcdifmcffcaa.PCen
set_option linter.unusedVariables false
set_option linter.unusedSimpArgs false
open Go.RowKit Go.Proofs.YtidhcdifmcffcaaW.PrintWords Go.Proofs.YtidhcdifmcffcaaW.PrintLast Go.Proofs.YtidhcdifmcffcaaW.PrintMore
def event_Task_1.f (a0_0 : Int) (a0_1 : Int) (a0_2 : Int) (a0_3 : Int) (a0_4 : Int) (a1 : Int) : Option (Bool) := some (a0_1 == a1)
def event_Count_1.f (a0_0 : Int) (a0_1 : Int) (a0_2 : Int) (a0_3 : Int) (a0_4 : Int) (a1 : Int) (a2 : Int) : Option (Bool) := some (a0_0 == a1 && a0_1 == a2)
theorem cap_on {w : World} {c : Addr} {v : Value} (h : w.cell? c = some v) (o : Obj) : (w.alloc o).cell? c = some v := by
  exact ((Below.refl w.heap.size w).alloc (Nat.le_refl _) o).cell (World.block_lt_of_cell? _ _ h) |>.trans h
theorem event_Task_1.calls (a0_0 : Int) (a0_1 : Int) (a0_2 : Int) (a0_3 : Int) (a0_4 : Int) (a1 : Int) (r : Bool) (w : World) (h : event_Task_1.f a0_0 a0_1 a0_2 a0_3 a0_4 a1 = some r) (cap_ : Addr) (hcap_ : w.cell? cap_ = some (.int .i64 a1)) :
    Calls Try.prog 96 #[.agg #[.int .i64 a0_0, .int .i64 a0_1, .int .i64 a0_2, .int .i64 a0_3, .int .i64 a0_4], .pointer (some cap_)] w fun e w' => e = .returned (.bool r) ∧ Below w.heap.size w w' := by
  obtain rfl := Option.some.inj h
  have hc := cap_on hcap_
  have hu84 := Try.underlying84
  go_enter Try.func96, Try.ntmps96
  go_wp2
  go_ret
  exact ⟨rfl, xa (Below.refl _ _) _⟩
theorem event_Count_1.calls (a0_0 : Int) (a0_1 : Int) (a0_2 : Int) (a0_3 : Int) (a0_4 : Int) (a1 : Int) (a2 : Int) (r : Bool) (w : World) (h : event_Count_1.f a0_0 a0_1 a0_2 a0_3 a0_4 a1 a2 = some r) (cap_ cap2_ : Addr) (hcap_ : w.cell? cap_ = some (.int .i64 a1)) (hcap2_ : w.cell? cap2_ = some (.int .i64 a2)) :
    Calls Try.prog 97 #[.agg #[.int .i64 a0_0, .int .i64 a0_1, .int .i64 a0_2, .int .i64 a0_3, .int .i64 a0_4], .pointer (some cap_), .pointer (some cap2_)] w fun e w' => e = .returned (.bool r) ∧ Below w.heap.size w w' := by
  obtain rfl := Option.some.inj h
  have hc := cap_on hcap_
  have hc2 := cap_on hcap2_
  have hu84 := Try.underlying84
  by_cases hk : a0_0 = a1
  · have hk1 : (a0_0 == a1) = true := by simpa using hk
    have hk2 : ((a0_0 == a1 && a0_1 == a2) : Bool) = (a0_1 == a2) := by rw [hk1]; rfl
    rw [hk2]
    clear hk
    go_enter Try.func97, Try.ntmps97
    go_wp2
    go_ret
    exact ⟨rfl, xa (Below.refl _ _) _⟩
  · have hk1 : (a0_0 == a1) = false := by simpa using hk
    have hk2 : ((a0_0 == a1 && a0_1 == a2) : Bool) = false := by rw [hk1]; rfl
    rw [hk2]
    clear hk
    go_enter Try.func97, Try.ntmps97
    go_wp2
    go_ret
    exact ⟨rfl, xa (Below.refl _ _) _⟩
end Go.Proofs.Ytidhcdifmcffcaa.PCen
