/-
A program, as it comes in.
-/
import Derived.Test.YtgiimdoabkcoaaaReps
import Derived.Test.YtgiimdoabkcoaaaLintPure
namespace Go.Proofs.Ytgiimdoabkcoaaa
set_option linter.unusedVariables false
set_option linter.unusedSimpArgs false
open Go.RowKit Go.ChangeShapes Go.WideShapes Go.Proofs.YtgiimdoabkcoaaaW.PrintWords
theorem cellsProg : Try.prog.cellsOf 24 = 2 := by kernel_rfl
theorem cellsIns : Try.prog.cellsOf 41 = 4 := by kernel_rfl
theorem cellsI64 : Try.prog.cellsOf 3 = 1 := by kernel_rfl
theorem cellsI32 : Try.prog.cellsOf 21 = 1 := by kernel_rfl
theorem cellsCode : Try.prog.cellsOf 22 = 1 := by kernel_rfl
set_option maxRecDepth 100000 in
theorem rep_ins {w : World} {f : Nat} {cs : List Value} (h : Rep Try.prog w f 41 cs) : ∃ x : PLint.S41, PLint.k41.K w x cs ∧ (-2147483648 ≤ x.f3 ∧ x.f3 ≤ 2147483647) := by
  obtain ⟨g, hl, hf⟩ := rep_struct Try.underlying41 h
  rw [cellsIns] at hl
  obtain ⟨c0, c1, c2, c3, rfl⟩ := list4 hl
  have h0 : Rep Try.prog w g 3 [c0] := by have h := hf 0 _ rfl; erw [cellsI64] at h; exact h
  have h1 : Rep Try.prog w g 3 [c1] := by have h := hf 1 _ rfl; erw [cellsI64] at h; exact h
  have h2 : Rep Try.prog w g 3 [c2] := by have h := hf 2 _ rfl; erw [cellsI64] at h; exact h
  have h3 : Rep Try.prog w g 21 [c3] := by have h := hf 3 _ rfl; erw [cellsI32] at h; exact h
  obtain ⟨op, e0, _⟩ := rep_int Try.underlying3 h0
  obtain ⟨a, e1, _⟩ := rep_int Try.underlying3 h1
  obtain ⟨b, e2, _⟩ := rep_int Try.underlying3 h2
  obtain ⟨n, e3, w3⟩ := rep_int Try.underlying21 h3
  simp at e0 e1 e2 e3
  subst e0 e1 e2 e3
  exact ⟨⟨op, a, b, n⟩, PLint.k41_mk _ _, wf_i32 w3⟩
set_option maxRecDepth 100000 in
theorem rep_prog {w : World} {f : Nat} {cs : List Value} (h : Rep Try.prog w f 24 cs) :
    ∃ (prio : Int) (A : Option Addr) (c : Nat) (l : List PLint.S41), cs = [.int .i64 prio, .slice A l.length c] ∧ l.length ≤ c ∧ c ≤ maxLen ∧ Kd.C PLint.k41 w A l.length l ∧ PLint.W32 l := by
  obtain ⟨g, hl, hf⟩ := rep_struct Try.underlying24 h
  rw [cellsProg] at hl
  obtain ⟨c0, c1, rfl⟩ := list2 hl
  have h0 : Rep Try.prog w g 3 [c0] := by have h := hf 0 _ rfl; erw [cellsI64] at h; exact h
  have h1 : Rep Try.prog w g 22 [c1] := by have h := hf 1 _ rfl; erw [cellsCode] at h; exact h
  obtain ⟨prio, e0, _⟩ := rep_int Try.underlying3 h0
  obtain ⟨A, c, l, e1, hlc, hcm, hA, hwf⟩ := row_of_rep PLint.k41 _ Try.underlying22 (cellsIns.trans rfl) (fun _ _ h => rep_ins h) h1
  simp at e0
  subst e0
  exact ⟨prio, A, c, l, by simpa using e1, hlc, hcm, hA, hwf⟩
set_option maxRecDepth 100000 in
theorem open_prog {w : World} {v : Value} {b0 : Nat} {r : Reach} {H : Type} {enc : TypeId × Value → H} {base : Nat} {spare : Nat → Bool} {held : Bool} {d : DataW H} {p : List MemPlace}
    (hv : Value.okWide Try.prog w r b0 24 v) (h : DataW.Trod enc Try.prog w base spare held 24 v d p) :
    ∃ (prio : Int) (A : Option Addr) (c : Nat) (l : List PLint.S41), v = .agg #[.int .i64 prio, .slice A l.length c] ∧ l.length ≤ c ∧ c ≤ maxLen ∧ Kd.C PLint.k41 w A l.length l ∧ PLint.W32 l := by
  obtain ⟨cs, rfl, _⟩ := okWide_struct Try.underlying24 hv
  obtain ⟨f, hf⟩ := rep_of_Trod h
  obtain ⟨prio, A, c, l, e, h1, h2, h3, h4⟩ := rep_prog hf
  refine ⟨prio, A, c, l, ?_, h1, h2, h3, h4⟩
  congr 1
  apply Array.toList_inj.1
  exact e
end Go.Proofs.Ytgiimdoabkcoaaa
