/-
census.Histogram's closure: is the captured number less than a bound?
-/
import Derived.Test.YtidhcdifmcffcaaPCenx0
namespace Go.Proofs.Ytidhcdifmcffcaa.PCen
set_option linter.unusedVariables false
set_option linter.unusedSimpArgs false
open Go.RowKit Go.Proofs.YtidhcdifmcffcaaW.PrintWords Go.Proofs.YtidhcdifmcffcaaW.PrintLast Go.Proofs.YtidhcdifmcffcaaW.PrintMore
def census_Histogram_1.f (a0 : Int) (a1 : Int) : Option (Bool) := some (decide (a1 < a0))
theorem census_Histogram_1.calls (a0 : Int) (a1 : Int) (r : Bool) (w : World) (h : census_Histogram_1.f a0 a1 = some r) (cap_ : Addr) (hcap_ : w.cell? cap_ = some (.int .i64 a1)) :
    Calls Try.prog 73 #[.int .i64 a0, .pointer (some cap_)] w fun e w' => e = .returned (.bool r) ∧ Below w.heap.size w w' := by
  obtain rfl := Option.some.inj h
  go_enter Try.func73, Try.ntmps73
  go_wp2
  go_ret
  exact ⟨rfl, Below.refl _ _⟩
end Go.Proofs.Ytidhcdifmcffcaa.PCen
