/-
A program, and four registers, as they come in.
-/
import Derived.Test.YtkegdcnnankokaaRead
import Derived.Test.YtkegdcnnankokaaExecSpec
namespace Go.Proofs.Ytkegdcnnankokaa
set_option linter.unusedVariables false
set_option linter.unusedSimpArgs false
open Go.RowKit Go.ChangeShapes Go.WideShapes

theorem cellsProg : Try.prog.cellsOf 43 = 2 := by kernel_rfl
theorem cellsIns : Try.prog.cellsOf 109 = 4 := by kernel_rfl
theorem cellsI64 : Try.prog.cellsOf 3 = 1 := by kernel_rfl
theorem cellsI32 : Try.prog.cellsOf 21 = 1 := by kernel_rfl
theorem cellsCode : Try.prog.cellsOf 41 = 1 := by kernel_rfl
theorem cellsRegs : Try.prog.cellsOf 44 = 4 := by kernel_rfl

set_option maxRecDepth 100000 in
theorem rep_ins {w : World} {f : Nat} {cs : List Value} (h : Rep Try.prog w f 109 cs) : ∃ x : Ins, cs = [.int .i64 x.op, .int .i64 x.a, .int .i64 x.b, .int .i32 x.n] ∧ -2147483648 ≤ x.n ∧ x.n ≤ 2147483647 := by
  obtain ⟨g, hl, hf⟩ := rep_struct Try.underlying109 h
  rw [cellsIns] at hl
  obtain ⟨c0, c1, c2, c3, rfl⟩ := list4 hl
  have h0 : Rep Try.prog w g 3 [c0] := by have h := hf 0 _ rfl; erw [cellsI64] at h; exact h
  have h1 : Rep Try.prog w g 3 [c1] := by have h := hf 1 _ rfl; erw [cellsI64] at h; exact h
  have h2 : Rep Try.prog w g 3 [c2] := by have h := hf 2 _ rfl; erw [cellsI64] at h; exact h
  have h3 : Rep Try.prog w g 21 [c3] := by have h := hf 3 _ rfl; erw [cellsI32] at h; exact h
  obtain ⟨op, e0, _⟩ := rep_int Try.underlying3 h0
  obtain ⟨a, e1, _⟩ := rep_int Try.underlying3 h1
  obtain ⟨b, e2, _⟩ := rep_int Try.underlying3 h2
  obtain ⟨n, e3, w3⟩ := rep_int Try.underlying21 h3
  simp at e0 e1 e2 e3
  subst e0 e1 e2 e3
  exact ⟨⟨op, a, b, n⟩, rfl, wf_i32 w3⟩

theorem rep_code {w : World} {f : Nat} {v : Value} (h : Rep Try.prog w f 41 [v]) : ∃ (A : Option Addr) (c : Nat) (l : List Ins), v = .slice A l.length c ∧ l.length ≤ c ∧ c ≤ maxLen ∧ InsAt w A l ∧ InsWf l := by
  obtain ⟨g, h⟩ := rep_slice Try.underlying41 h
  rcases h with h | ⟨a, len, cap, h, hl, hm, hx⟩
  · simp at h; subst h
    exact ⟨none, 0, [], rfl, by simp, by simp, fun i hi => absurd hi (by simp), fun x hx => absurd hx (by simp)⟩
  · simp at h; subst h
    rw [cellsIns] at hx
    obtain ⟨l, hll, hr⟩ := list_of_all len (fun i (x : Ins) => (w.cell? ((a.add (i * 4)).add 0) = some (.int .i64 x.op) ∧ w.cell? ((a.add (i * 4)).add 1) = some (.int .i64 x.a) ∧ w.cell? ((a.add (i * 4)).add 2) = some (.int .i64 x.b) ∧ w.cell? ((a.add (i * 4)).add 3) = some (.int .i32 x.n)) ∧ -2147483648 ≤ x.n ∧ x.n ≤ 2147483647) (by
      intro i hi
      obtain ⟨c, _, hc, hrep⟩ := hx i hi
      obtain ⟨x, rfl, hw⟩ := rep_ins hrep
      exact ⟨x, ⟨hc 0 _ rfl, hc 1 _ rfl, hc 2 _ rfl, hc 3 _ rfl⟩, hw⟩)
    subst hll
    refine ⟨some a, cap, l, rfl, hl, hm, fun i hi => ?_, fun x hx => ?_⟩
    · obtain ⟨⟨h0, h1, h2, h3⟩, _⟩ := hr i hi
      exact ⟨a, rfl, by simpa [Addr.add] using h0, by simpa [Addr.add] using h1, by simpa [Addr.add] using h2, by simpa [Addr.add] using h3⟩
    · obtain ⟨i, hi, rfl⟩ := List.getElem_of_mem hx
      exact (hr i hi).2

set_option maxRecDepth 100000 in
theorem rep_prog {w : World} {f : Nat} {cs : List Value} (h : Rep Try.prog w f 43 cs) :
    ∃ (prio : Int) (A : Option Addr) (c : Nat) (l : List Ins), cs = [.int .i64 prio, .slice A l.length c] ∧ l.length ≤ c ∧ c ≤ maxLen ∧ InsAt w A l ∧ InsWf l := by
  obtain ⟨g, hl, hf⟩ := rep_struct Try.underlying43 h
  rw [cellsProg] at hl
  obtain ⟨c0, c1, rfl⟩ := list2 hl
  have h0 : Rep Try.prog w g 3 [c0] := by have h := hf 0 _ rfl; erw [cellsI64] at h; exact h
  have h1 : Rep Try.prog w g 41 [c1] := by have h := hf 1 _ rfl; erw [cellsCode] at h; exact h
  obtain ⟨prio, e0, _⟩ := rep_int Try.underlying3 h0
  obtain ⟨A, c, l, e1, hlc, hcm, hA, hwf⟩ := rep_code h1
  simp at e0
  subst e0
  exact ⟨prio, A, c, l, by simpa using e1, hlc, hcm, hA, hwf⟩

set_option maxRecDepth 100000 in
theorem open_prog {w : World} {v : Value} {b0 : Nat} {r : Reach} {H : Type} {enc : TypeId × Value → H} {base : Nat} {spare : Nat → Bool} {held : Bool} {d : DataW H} {p : List MemPlace}
    (hv : Value.okWide Try.prog w r b0 43 v) (h : DataW.Trod enc Try.prog w base spare held 43 v d p) :
    ∃ (prio : Int) (A : Option Addr) (c : Nat) (l : List Ins), v = .agg #[.int .i64 prio, .slice A l.length c] ∧ l.length ≤ c ∧ c ≤ maxLen ∧ InsAt w A l ∧ InsWf l := by
  obtain ⟨cs, rfl, _⟩ := okWide_struct Try.underlying43 hv
  obtain ⟨f, hf⟩ := rep_of_Trod h
  obtain ⟨prio, A, c, l, e, h1, h2, h3, h4⟩ := rep_prog hf
  refine ⟨prio, A, c, l, ?_, h1, h2, h3, h4⟩
  congr 1
  apply Array.toList_inj.1
  exact e

set_option maxRecDepth 100000 in
theorem open_regs {w : World} {v : Value} {b0 : Nat} {r : Reach} {H : Type} {enc : TypeId × Value → H} {base : Nat} {spare : Nat → Bool} {held : Bool} {d : DataW H} {p : List MemPlace}
    (hv : Value.okWide Try.prog w r b0 44 v) (h : DataW.Trod enc Try.prog w base spare held 44 v d p) : ∃ rs : Regs, v = .agg #[.int .i32 (rs).r0, .int .i32 (rs).r1, .int .i32 (rs).r2, .int .i32 (rs).r3] ∧ rs.ok := by
  obtain ⟨cs, rfl⟩ : ∃ cs, v = .agg cs := by
    simp only [Value.okWide, Try.underlying44] at hv
    obtain ⟨cs, h1, _⟩ := hv
    exact ⟨cs, h1⟩
  obtain ⟨f, hf⟩ := rep_of_Trod h
  obtain ⟨g, hl, hf⟩ := rep_array Try.underlying44 hf
  rw [cellsRegs] at hl
  obtain ⟨l⟩ := cs
  obtain ⟨c0, c1, c2, c3, rfl⟩ := list4 hl
  rw [cellsI32] at hf
  have h0 : Rep Try.prog w g 21 [c0] := hf 0 (by omega)
  have h1 : Rep Try.prog w g 21 [c1] := hf 1 (by omega)
  have h2 : Rep Try.prog w g 21 [c2] := hf 2 (by omega)
  have h3 : Rep Try.prog w g 21 [c3] := hf 3 (by omega)
  obtain ⟨a, e0, w0⟩ := rep_int Try.underlying21 h0
  obtain ⟨b, e1, w1⟩ := rep_int Try.underlying21 h1
  obtain ⟨c, e2, w2⟩ := rep_int Try.underlying21 h2
  obtain ⟨d, e3, w3⟩ := rep_int Try.underlying21 h3
  simp [Value.cells] at e0 e1 e2 e3
  subst e0 e1 e2 e3
  exact ⟨⟨a, b, c, d⟩, rfl, wf_i32 w0, wf_i32 w1, wf_i32 w2, wf_i32 w3⟩

end Go.Proofs.Ytkegdcnnankokaa
