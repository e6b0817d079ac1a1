/-
A row of whole numbers, as it comes in: each is of its kind.
-/
import Derived.Test.YtkegdcnnankokaaReps
namespace Go.Proofs.Ytkegdcnnankokaa
set_option linter.unusedVariables false
set_option linter.unusedSimpArgs false
open Go.RowKit Go.ChangeShapes Go.WideShapes Go.Proofs.YtkegdcnnankokaaW.PrintWords
theorem cellsI64W : Try.prog.cellsOf 3 = 1 := by kernel_rfl
set_option maxRecDepth 100000 in
theorem rep_i64w {w : World} {f : Nat} {cs : List Value} (h : Rep Try.prog w f 3 cs) : ∃ x : Int, (Kd.int .i64).K w x cs ∧ (Lit.int .i64 x).wf = true := by
  obtain ⟨n, e, hw⟩ := rep_int Try.underlying3 h
  subst e
  exact ⟨n, by first | rfl | exact ⟨rfl⟩ | simp [Kd.int, Kd.scalar], hw⟩
set_option maxRecDepth 100000 in
theorem open_roww {w : World} {v : Value} {b0 : Nat} {r : Reach} {H : Type} {enc : TypeId × Value → H} {base : Nat} {spare : Nat → Bool} {held : Bool} {d : DataW H} {p : List MemPlace}
    (hv : Value.okWide Try.prog w r b0 30 v) (h : DataW.Trod enc Try.prog w base spare held 30 v d p) :
    ∃ (A : Option Addr) (c : Nat) (l : List Int), v = .slice A l.length c ∧ l.length ≤ c ∧ Kd.C (Kd.int .i64) w A l.length l ∧ ∀ n ∈ l, (Lit.int .i64 n).wf = true := by
  obtain ⟨a, n, c, rfl⟩ := okWide_slice Try.underlying30 hv
  obtain ⟨f, hf⟩ := rep_of_Trod h
  obtain ⟨A, c, l, e1, hlc, hcm, hA, hQ⟩ := row_of_rep (Kd.int .i64) _ Try.underlying30 (cellsI64W.trans rfl) (fun _ _ h => rep_i64w h) hf
  exact ⟨A, c, l, by simpa [Value.cells] using e1, hlc, hA, hQ⟩
end Go.Proofs.Ytkegdcnnankokaa
