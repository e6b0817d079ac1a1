/-
A program, as it comes in.
-/
import Derived.Test.YtkegdcnnankokaaReps
import Derived.Test.YtkegdcnnankokaaExecHangsPure
namespace Go.Proofs.Ytkegdcnnankokaa
set_option linter.unusedVariables false
set_option linter.unusedSimpArgs false
open Go.RowKit Go.ChangeShapes Go.WideShapes Go.Proofs.YtkegdcnnankokaaW.PrintWords
theorem cellsProg : Try.prog.cellsOf 43 = 2 := by kernel_rfl
theorem cellsIns : Try.prog.cellsOf 109 = 4 := by kernel_rfl
theorem cellsI64 : Try.prog.cellsOf 3 = 1 := by kernel_rfl
theorem cellsI32 : Try.prog.cellsOf 21 = 1 := by kernel_rfl
theorem cellsCode : Try.prog.cellsOf 41 = 1 := by kernel_rfl
set_option maxRecDepth 100000 in
theorem rep_ins {w : World} {f : Nat} {cs : List Value} (h : Rep Try.prog w f 109 cs) : ∃ x : PLint.S109, PLint.k109.K w x cs ∧ (-2147483648 ≤ x.f3 ∧ x.f3 ≤ 2147483647) := by
  obtain ⟨g, hl, hf⟩ := rep_struct Try.underlying109 h
  rw [cellsIns] at hl
  obtain ⟨c0, c1, c2, c3, rfl⟩ := list4 hl
  have h0 : Rep Try.prog w g 3 [c0] := by have h := hf 0 _ rfl; erw [cellsI64] at h; exact h
  have h1 : Rep Try.prog w g 3 [c1] := by have h := hf 1 _ rfl; erw [cellsI64] at h; exact h
  have h2 : Rep Try.prog w g 3 [c2] := by have h := hf 2 _ rfl; erw [cellsI64] at h; exact h
  have h3 : Rep Try.prog w g 21 [c3] := by have h := hf 3 _ rfl; erw [cellsI32] at h; exact h
  obtain ⟨op, e0, _⟩ := rep_int Try.underlying3 h0
  obtain ⟨a, e1, _⟩ := rep_int Try.underlying3 h1
  obtain ⟨b, e2, _⟩ := rep_int Try.underlying3 h2
  obtain ⟨n, e3, w3⟩ := rep_int Try.underlying21 h3
  simp at e0 e1 e2 e3
  subst e0 e1 e2 e3
  exact ⟨⟨op, a, b, n⟩, PLint.k109_mk _ _, wf_i32 w3⟩
set_option maxRecDepth 100000 in
theorem rep_prog {w : World} {f : Nat} {cs : List Value} (h : Rep Try.prog w f 43 cs) :
    ∃ (prio : Int) (A : Option Addr) (c : Nat) (l : List PLint.S109), cs = [.int .i64 prio, .slice A l.length c] ∧ l.length ≤ c ∧ c ≤ maxLen ∧ Kd.C PLint.k109 w A l.length l ∧ PLint.W32 l := by
  obtain ⟨g, hl, hf⟩ := rep_struct Try.underlying43 h
  rw [cellsProg] at hl
  obtain ⟨c0, c1, rfl⟩ := list2 hl
  have h0 : Rep Try.prog w g 3 [c0] := by have h := hf 0 _ rfl; erw [cellsI64] at h; exact h
  have h1 : Rep Try.prog w g 41 [c1] := by have h := hf 1 _ rfl; erw [cellsCode] at h; exact h
  obtain ⟨prio, e0, _⟩ := rep_int Try.underlying3 h0
  obtain ⟨A, c, l, e1, hlc, hcm, hA, hwf⟩ := row_of_rep PLint.k109 _ Try.underlying41 (cellsIns.trans rfl) (fun _ _ h => rep_ins h) h1
  simp at e0
  subst e0
  exact ⟨prio, A, c, l, by simpa using e1, hlc, hcm, hA, hwf⟩
set_option maxRecDepth 100000 in
theorem open_prog {w : World} {v : Value} {b0 : Nat} {r : Reach} {H : Type} {enc : TypeId × Value → H} {base : Nat} {spare : Nat → Bool} {held : Bool} {d : DataW H} {p : List MemPlace}
    (hv : Value.okWide Try.prog w r b0 43 v) (h : DataW.Trod enc Try.prog w base spare held 43 v d p) :
    ∃ (prio : Int) (A : Option Addr) (c : Nat) (l : List PLint.S109), v = .agg #[.int .i64 prio, .slice A l.length c] ∧ l.length ≤ c ∧ c ≤ maxLen ∧ Kd.C PLint.k109 w A l.length l ∧ PLint.W32 l := by
  obtain ⟨cs, rfl, _⟩ := okWide_struct Try.underlying43 hv
  obtain ⟨f, hf⟩ := rep_of_Trod h
  obtain ⟨prio, A, c, l, e, h1, h2, h3, h4⟩ := rep_prog hf
  refine ⟨prio, A, c, l, ?_, h1, h2, h3, h4⟩
  congr 1
  apply Array.toList_inj.1
  exact e

theorem cellsBoth : Try.prog.cellsOf 51 = 4 := by kernel_rfl
set_option maxRecDepth 100000 in
theorem open_both {w : World} {v : Value} {b0 : Nat} {r : Reach} {H : Type} {enc : TypeId × Value → H} {base : Nat} {spare : Nat → Bool} {held : Bool} {d : DataW H} {p : List MemPlace}
    (hv : Value.okWide Try.prog w r b0 51 v) (h : DataW.Trod enc Try.prog w base spare held 51 v d p) :
    ∃ (prio : Int) (A : Option Addr) (c : Nat) (l : List PLint.S109) (prio' : Int) (A' : Option Addr) (c' : Nat) (l' : List PLint.S109), v = .agg #[.int .i64 prio, .slice A l.length c, .int .i64 prio', .slice A' l'.length c'] ∧
      (l.length ≤ c ∧ Kd.C PLint.k109 w A l.length l ∧ PLint.W32 l) ∧ (l'.length ≤ c' ∧ Kd.C PLint.k109 w A' l'.length l' ∧ PLint.W32 l') := by
  obtain ⟨cs, rfl⟩ : ∃ cs, v = .agg cs := by
    simp only [Value.okWide, Try.underlying51] at hv
    obtain ⟨cs, h1, _⟩ := hv
    exact ⟨cs, h1⟩
  obtain ⟨f, hf⟩ := rep_of_Trod h
  obtain ⟨g, hl, hf⟩ := rep_array Try.underlying51 hf
  rw [cellsBoth] at hl
  obtain ⟨l⟩ := cs
  obtain ⟨c0, c1, c2, c3, rfl⟩ := list4 hl
  rw [cellsProg] at hf
  have h0 : Rep Try.prog w g 43 [c0, c1] := hf 0 (by omega)
  have h1 : Rep Try.prog w g 43 [c2, c3] := hf 1 (by omega)
  obtain ⟨prio, A, c, l, e, a1, a2, a3, a4⟩ := rep_prog h0
  obtain ⟨prio', A', c', l', e', b1, b2, b3, b4⟩ := rep_prog h1
  simp at e e'
  obtain ⟨rfl, rfl⟩ := e
  obtain ⟨rfl, rfl⟩ := e'
  exact ⟨prio, A, c, l, prio', A', c', l', rfl, ⟨a1, a3, a4⟩, ⟨b1, b3, b4⟩⟩
end Go.Proofs.Ytkegdcnnankokaa
