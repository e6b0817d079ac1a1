/-
Four registers, as they come in, beside a program (OpenProg).
-/
import Derived.Test.YtkegdcnnankokaaOpenBoth
import Derived.Test.YtkegdcnnankokaaExecSpec
namespace Go.Proofs.Ytkegdcnnankokaa
set_option linter.unusedVariables false
set_option linter.unusedSimpArgs false
open Go.RowKit Go.ChangeShapes Go.WideShapes

theorem cellsRegs : Try.prog.cellsOf 44 = 4 := by kernel_rfl
set_option maxRecDepth 100000 in
theorem open_regs {w : World} {v : Value} {b0 : Nat} {r : Reach} {H : Type} {enc : TypeId × Value → H} {base : Nat} {spare : Nat → Bool} {held : Bool} {d : DataW H} {p : List MemPlace}
    (hv : Value.okWide Try.prog w r b0 44 v) (h : DataW.Trod enc Try.prog w base spare held 44 v d p) : ∃ rs : Regs, v = .agg #[.int .i32 (rs).r0, .int .i32 (rs).r1, .int .i32 (rs).r2, .int .i32 (rs).r3] ∧ rs.ok := by
  obtain ⟨cs, rfl⟩ : ∃ cs, v = .agg cs := by
    simp only [Value.okWide, Try.underlying44] at hv
    obtain ⟨cs, h1, _⟩ := hv
    exact ⟨cs, h1⟩
  obtain ⟨f, hf⟩ := rep_of_Trod h
  obtain ⟨g, hl, hf⟩ := rep_array Try.underlying44 hf
  rw [cellsRegs] at hl
  obtain ⟨l⟩ := cs
  obtain ⟨c0, c1, c2, c3, rfl⟩ := list4 hl
  rw [cellsI32] at hf
  have h0 : Rep Try.prog w g 21 [c0] := hf 0 (by omega)
  have h1 : Rep Try.prog w g 21 [c1] := hf 1 (by omega)
  have h2 : Rep Try.prog w g 21 [c2] := hf 2 (by omega)
  have h3 : Rep Try.prog w g 21 [c3] := hf 3 (by omega)
  obtain ⟨a, e0, w0⟩ := rep_int Try.underlying21 h0
  obtain ⟨b, e1, w1⟩ := rep_int Try.underlying21 h1
  obtain ⟨c, e2, w2⟩ := rep_int Try.underlying21 h2
  obtain ⟨d, e3, w3⟩ := rep_int Try.underlying21 h3
  simp [Value.cells] at e0 e1 e2 e3
  subst e0 e1 e2 e3
  exact ⟨⟨a, b, c, d⟩, rfl, wf_i32 w0, wf_i32 w1, wf_i32 w2, wf_i32 w3⟩

end Go.Proofs.Ytkegdcnnankokaa
