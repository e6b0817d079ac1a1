/-
An argument of type [2]uint.
-/
import Derived.Test.YtkegdcnnankokaaExecArgs
namespace Go.Proofs.Ytkegdcnnankokaa
set_option linter.unusedVariables false
set_option linter.unusedSimpArgs false
open Go.ChangeShapes Go.WideShapes Go.ChangeAt Go.RowKit
theorem cellsU64 : Try.prog.cellsOf 52 = 1 := by kernel_rfl
theorem cellsUints : Try.prog.cellsOf 60 = 2 := by kernel_rfl
set_option maxRecDepth 100000 in
theorem open_uints {w : World} {v : Value} {b0 : Nat} {r : Reach} {H : Type} {enc : TypeId × Value → H} {base : Nat} {spare : Nat → Bool} {held : Bool} {d : DataW H} {p : List MemPlace}
    (hv : Value.okWide Try.prog w r b0 60 v) (h : DataW.Trod enc Try.prog w base spare held 60 v d p) : ∃ m n : Int, v = .agg #[.int .u64 m, .int .u64 n] ∧ (0 ≤ m ∧ m ≤ 18446744073709551615) ∧ (0 ≤ n ∧ n ≤ 18446744073709551615) := by
  obtain ⟨cs, rfl⟩ : ∃ cs, v = .agg cs := by
    simp only [Value.okWide, Try.underlying60] at hv
    obtain ⟨cs, h1, _⟩ := hv
    exact ⟨cs, h1⟩
  obtain ⟨f, hf⟩ := rep_of_Trod h
  obtain ⟨g, hl, hf⟩ := rep_array Try.underlying60 hf
  rw [cellsUints] at hl
  obtain ⟨l⟩ := cs
  obtain ⟨c0, c1, rfl⟩ := list2 hl
  rw [cellsU64] at hf
  have h0 : Rep Try.prog w g 52 [c0] := hf 0 (by omega)
  have h1 : Rep Try.prog w g 52 [c1] := hf 1 (by omega)
  obtain ⟨a, e0, w0⟩ := rep_int Try.underlying52 h0
  obtain ⟨b, e1, w1⟩ := rep_int Try.underlying52 h1
  simp [Value.cells] at e0 e1
  subst e0 e1
  exact ⟨a, b, rfl, wf_u64 w0, wf_u64 w1⟩
end Go.Proofs.Ytkegdcnnankokaa
