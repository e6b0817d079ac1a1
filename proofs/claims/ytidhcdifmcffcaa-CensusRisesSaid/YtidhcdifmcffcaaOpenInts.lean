/-
Rows of whole numbers, and two whole numbers, as they come in.
-/
import Derived.Test.YtidhcdifmcffcaaReps
namespace Go.Proofs.Ytidhcdifmcffcaa
set_option linter.unusedVariables false
set_option linter.unusedSimpArgs false
open Go.RowKit Go.ChangeShapes Go.WideShapes Go.Proofs.YtidhcdifmcffcaaW.PrintWords
theorem cellsI64 : Try.prog.cellsOf 3 = 1 := by kernel_rfl
theorem cellsU64 : Try.prog.cellsOf 26 = 1 := by kernel_rfl
theorem cellsUints : Try.prog.cellsOf 61 = 2 := by kernel_rfl
set_option maxRecDepth 100000 in
theorem rep_i64 {w : World} {f : Nat} {cs : List Value} (h : Rep Try.prog w f 3 cs) : ∃ x : Int, (Kd.int .i64).K w x cs ∧ True := by
  obtain ⟨n, e, _⟩ := rep_int Try.underlying3 h
  subst e
  exact ⟨n, by first | rfl | exact ⟨rfl⟩ | simp [Kd.int, Kd.scalar], trivial⟩
set_option maxRecDepth 100000 in
theorem open_row {w : World} {v : Value} {b0 : Nat} {r : Reach} {H : Type} {enc : TypeId × Value → H} {base : Nat} {spare : Nat → Bool} {held : Bool} {d : DataW H} {p : List MemPlace}
    (hv : Value.okWide Try.prog w r b0 29 v) (h : DataW.Trod enc Try.prog w base spare held 29 v d p) :
    ∃ (A : Option Addr) (c : Nat) (l : List Int), v = .slice A l.length c ∧ l.length ≤ c ∧ c ≤ maxLen ∧ Kd.C (Kd.int .i64) w A l.length l := by
  obtain ⟨a, n, c, rfl⟩ := okWide_slice Try.underlying29 hv
  obtain ⟨f, hf⟩ := rep_of_Trod h
  obtain ⟨A, c, l, e1, hlc, hcm, hA, _⟩ := row_of_rep (Kd.int .i64) _ Try.underlying29 (cellsI64.trans rfl) (fun _ _ h => rep_i64 h) hf
  exact ⟨A, c, l, by simpa [Value.cells] using e1, hlc, hcm, hA⟩
set_option maxRecDepth 100000 in
theorem open_uints {w : World} {v : Value} {b0 : Nat} {r : Reach} {H : Type} {enc : TypeId × Value → H} {base : Nat} {spare : Nat → Bool} {held : Bool} {d : DataW H} {p : List MemPlace}
    (hv : Value.okWide Try.prog w r b0 61 v) (h : DataW.Trod enc Try.prog w base spare held 61 v d p) : ∃ m n : Int, v = .agg #[.int .u64 m, .int .u64 n] ∧ (0 ≤ m ∧ m ≤ 18446744073709551615) ∧ (0 ≤ n ∧ n ≤ 18446744073709551615) := by
  obtain ⟨cs, rfl⟩ : ∃ cs, v = .agg cs := by
    simp only [Value.okWide, Try.underlying61] at hv
    obtain ⟨cs, h1, _⟩ := hv
    exact ⟨cs, h1⟩
  obtain ⟨f, hf⟩ := rep_of_Trod h
  obtain ⟨g, hl, hf⟩ := rep_array Try.underlying61 hf
  rw [cellsUints] at hl
  obtain ⟨l⟩ := cs
  obtain ⟨c0, c1, rfl⟩ := list2 hl
  rw [cellsU64] at hf
  have h0 : Rep Try.prog w g 26 [c0] := hf 0 (by omega)
  have h1 : Rep Try.prog w g 26 [c1] := hf 1 (by omega)
  obtain ⟨a, e0, w0⟩ := rep_int Try.underlying26 h0
  obtain ⟨b, e1, w1⟩ := rep_int Try.underlying26 h1
  simp [Value.cells] at e0 e1
  subst e0 e1
  exact ⟨a, b, rfl, wf_u64 w0, wf_u64 w1⟩
end Go.Proofs.Ytidhcdifmcffcaa
