/-
A row of events, as it comes in: its numbers are of their kind.
-/
import Derived.Test.YtkegdcnnankokaaReps
import Derived.Test.YtkegdcnnankokaaPGanx0
namespace Go.Proofs.Ytkegdcnnankokaa
set_option linter.unusedVariables false
set_option linter.unusedSimpArgs false
open Go.RowKit Go.ChangeShapes Go.WideShapes Go.Proofs.YtkegdcnnankokaaW.PrintWords
theorem cellsEv : Try.prog.cellsOf 36 = 5 := by kernel_rfl
theorem cellsI64E : Try.prog.cellsOf 3 = 1 := by kernel_rfl
set_option maxRecDepth 100000 in
theorem rep_event {w : World} {f : Nat} {cs : List Value} (h : Rep Try.prog w f 36 cs) : ∃ x : PGan.S36, PGan.k36.K w x cs ∧ ((Lit.int .i64 x.f1).wf = true ∧ (Lit.int .i64 x.f2).wf = true) := by
  obtain ⟨g, hl, hf⟩ := rep_struct Try.underlying36 h
  rw [cellsEv] at hl
  obtain ⟨c0, c1, c2, c3, c4, rfl⟩ := list5 hl
  have h0 : Rep Try.prog w g 3 [c0] := by have h := hf 0 _ rfl; erw [cellsI64E] at h; exact h
  have h1 : Rep Try.prog w g 3 [c1] := by have h := hf 1 _ rfl; erw [cellsI64E] at h; exact h
  have h2 : Rep Try.prog w g 3 [c2] := by have h := hf 2 _ rfl; erw [cellsI64E] at h; exact h
  have h3 : Rep Try.prog w g 3 [c3] := by have h := hf 3 _ rfl; erw [cellsI64E] at h; exact h
  have h4 : Rep Try.prog w g 3 [c4] := by have h := hf 4 _ rfl; erw [cellsI64E] at h; exact h
  obtain ⟨a, e0, _⟩ := rep_int Try.underlying3 h0
  obtain ⟨b, e1, w1⟩ := rep_int Try.underlying3 h1
  obtain ⟨c, e2, w2⟩ := rep_int Try.underlying3 h2
  obtain ⟨d, e3, _⟩ := rep_int Try.underlying3 h3
  obtain ⟨e, e4, _⟩ := rep_int Try.underlying3 h4
  simp at e0 e1 e2 e3 e4
  subst e0 e1 e2 e3 e4
  exact ⟨⟨a, b, c, d, e⟩, PGan.k36_mk _ _, w1, w2⟩
set_option maxRecDepth 100000 in
theorem open_events {w : World} {v : Value} {b0 : Nat} {r : Reach} {H : Type} {enc : TypeId × Value → H} {base : Nat} {spare : Nat → Bool} {held : Bool} {d : DataW H} {p : List MemPlace}
    (hv : Value.okWide Try.prog w r b0 22 v) (h : DataW.Trod enc Try.prog w base spare held 22 v d p) :
    ∃ (A : Option Addr) (c : Nat) (l : List PGan.S36), v = .slice A l.length c ∧ l.length ≤ c ∧ Kd.C PGan.k36 w A l.length l ∧ ∀ x ∈ l, (Lit.int .i64 x.f1).wf = true ∧ (Lit.int .i64 x.f2).wf = true := by
  obtain ⟨a, n, c, rfl⟩ := okWide_slice Try.underlying22 hv
  obtain ⟨f, hf⟩ := rep_of_Trod h
  obtain ⟨A, c, l, e1, hlc, hcm, hA, hQ⟩ := row_of_rep PGan.k36 _ Try.underlying22 (cellsEv.trans rfl) (fun _ _ h => rep_event h) hf
  exact ⟨A, c, l, by simpa [Value.cells] using e1, hlc, hA, hQ⟩
end Go.Proofs.Ytkegdcnnankokaa
