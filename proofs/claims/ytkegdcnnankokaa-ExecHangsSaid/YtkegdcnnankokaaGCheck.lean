/-
The reference's Check of a program, in the printed contracts' form (walked by hand: RefCheck).
-/
import Derived.Test.YtkegdcnnankokaaPLintx0
import Derived.Test.YtkegdcnnankokaaRefCheck
import Derived.Test.YtkegdcnnankokaaExecSpec
namespace Go.Proofs.Ytkegdcnnankokaa.PLint
set_option linter.unusedVariables false
set_option linter.unusedSimpArgs false
open Go.RowKit Go.Proofs.YtkegdcnnankokaaW.PrintWords Go.Proofs.YtkegdcnnankokaaW.PrintLast Go.Proofs.YtkegdcnnankokaaW.PrintMore
def toIns (x : S109) : Ins := ⟨x.f0, x.f1, x.f2, x.f3⟩
def in32B (l : List S109) : Bool := l.all fun x => decide (-2147483648 ≤ x.f3 ∧ x.f3 ≤ 2147483647)
theorem insAt_of {w : World} {A : Option Addr} {l : List S109} (h : Kd.C k109 w A l.length l) : InsAt w A (l.map toIns) := by
  intro i hi
  have hi' : i < l.length := by simpa using hi
  obtain ⟨ad, e, c0, c1, c2, c3⟩ := at_T109 h (i : Int) (by omega) (by omega)
  have er : rd_T109 l (i : Int) = l[i] := by simp [rd_T109, List.getElem?_eq_getElem hi']
  rw [er, Int.toNat_natCast] at c0 c1 c2 c3
  refine ⟨ad, e, ?_, ?_, ?_, ?_⟩
  · simpa [toIns] using c0
  · simpa [toIns] using c1
  · simpa [toIns] using c2
  · simpa [toIns] using c3
theorem insWf_of {l : List S109} (h : in32B l = true) : InsWf (l.map toIns) := by
  intro x hx
  obtain ⟨y, hy, rfl⟩ := List.mem_map.1 hx
  have := List.all_eq_true.1 h y hy
  simpa [toIns] using this
def pinfoldref09_Check.f (a0_0 : Int) (l0_1 : List S109) : Option (Int × Int) := if in32B l0_1 = true then some (checkS a0_0 (l0_1.map toIns)) else none
theorem pinfoldref09_Check.calls (a0_0 : Int) (A0_1 : Option Addr) (c0_1 : Nat) (l0_1 : List (S109)) (r1 : Int) (r2 : Int) (w : World) (hr0_1 : Kd.C k109 w A0_1 l0_1.length l0_1) (hc0_1 : l0_1.length ≤ c0_1) (h : pinfoldref09_Check.f a0_0 l0_1 = some (r1, r2)) :
    Calls Try.prog 62 #[.agg #[.int .i64 a0_0, .slice A0_1 l0_1.length c0_1]] w fun e w' => e = .returned (.tuple #[.int .i64 r1, .int .i64 r2]) ∧ Below w.heap.size w w' := by
  unfold pinfoldref09_Check.f at h
  split at h
  · rename_i h32
    have := rcheck_any a0_0 A0_1 c0_1 (l0_1.map toIns) w (by simpa using hc0_1) (insAt_of hr0_1) (insWf_of h32)
    rw [Option.some.inj h, List.length_map] at this
    exact this
  · cases h
end Go.Proofs.Ytkegdcnnankokaa.PLint
