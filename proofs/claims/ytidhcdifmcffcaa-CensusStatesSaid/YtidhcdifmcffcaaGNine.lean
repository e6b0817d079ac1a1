/-
An array of nine whole numbers, told as a struct, read at a variable place (a stand-in's equation: census.Kinds' number is only a name here; no contract of it is told).
-/
import Derived.Test.YtidhcdifmcffcaaPCenx0
import Derived.Test.YtidhcdifmcffcaaPureKit
namespace Go.Proofs.Ytidhcdifmcffcaa.PCen
set_option linter.unusedVariables false
set_option linter.unusedSimpArgs false
open Go.RowKit Go.Proofs.YtidhcdifmcffcaaW.PrintWords Go.Proofs.YtidhcdifmcffcaaW.PrintLast Go.Proofs.YtidhcdifmcffcaaW.PrintMore
def census_Kinds.f (a0_0 a0_1 a0_2 a0_3 a0_4 a0_5 a0_6 a0_7 a0_8 a1 : Int) : Option (Int) := if 0 ≤ a1 ∧ a1 < 9 then some (rd [a0_0, a0_1, a0_2, a0_3, a0_4, a0_5, a0_6, a0_7, a0_8] a1) else none
theorem nine_at {a0 a1 a2 a3 a4 a5 a6 a7 a8 k t : Int} {w : World} {g : Nat} {ty : TypeId} {fz : Nat × Nat} (h : census_Kinds.f a0 a1 a2 a3 a4 a5 a6 a7 a8 k = some t)
    (hb : w.heap[g]? = some (.cells #[.int .i64 a0, .int .i64 a1, .int .i64 a2, .int .i64 a3, .int .i64 a4, .int .i64 a5, .int .i64 a6, .int .i64 a7, .int .i64 a8] ty fz)) :
    decide (0 ≤ k) = true ∧ decide (k < 9) = true ∧ w.cell? ⟨g, k.toNat, none⟩ = some (.int .i64 t) := by
  unfold census_Kinds.f at h
  split at h
  · rename_i hk
    obtain rfl := Option.some.inj h
    refine ⟨by simpa using hk.1, by simpa using hk.2, ?_⟩
    obtain ⟨i, rfl⟩ := Int.eq_ofNat_of_zero_le hk.1
    have hi : i < 9 := by omega
    simp only [World.cell?, hb]
    match i, hi with
    | 0, _ => rfl
    | 1, _ => rfl
    | 2, _ => rfl
    | 3, _ => rfl
    | 4, _ => rfl
    | 5, _ => rfl
    | 6, _ => rfl
    | 7, _ => rfl
    | 8, _ => rfl
  · cases h
end Go.Proofs.Ytidhcdifmcffcaa.PCen
