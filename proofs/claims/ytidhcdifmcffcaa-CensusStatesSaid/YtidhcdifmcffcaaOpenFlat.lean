/-
A machine without queues, as it comes in.
-/
import Derived.Test.YtidhcdifmcffcaaReps
import Derived.Test.YtidhcdifmcffcaaCensusStates
namespace Go.Proofs.Ytidhcdifmcffcaa
set_option linter.unusedVariables false
set_option linter.unusedSimpArgs false
open Go.RowKit Go.ChangeShapes Go.WideShapes Go.Proofs.YtidhcdifmcffcaaW.PrintWords
theorem cellsTaskF : Try.prog.cellsOf 74 = 8 := by kernel_rfl
theorem cellsFlatF : Try.prog.cellsOf 69 = 19 := by kernel_rfl
theorem cellsI64F : Try.prog.cellsOf 3 = 1 := by kernel_rfl
theorem cellsU64F : Try.prog.cellsOf 65 = 1 := by kernel_rfl
theorem cellsI32F : Try.prog.cellsOf 21 = 1 := by kernel_rfl
theorem cellsRegsF : Try.prog.cellsOf 72 = 4 := by kernel_rfl
theorem cellsSetF : Try.prog.cellsOf 67 = 16 := by kernel_rfl
theorem cellsTasksF : Try.prog.cellsOf 64 = 1 := by kernel_rfl
theorem cellsIntsF : Try.prog.cellsOf 29 = 1 := by kernel_rfl
theorem list8 {α : Type} {l : List α} (h : l.length = 8) : ∃ a b c d e f g i, l = [a, b, c, d, e, f, g, i] := by
  match l, h with
  | [a, b, c, d, e, f, g, i], _ => exact ⟨a, b, c, d, e, f, g, i, rfl⟩
theorem list16 {α : Type} {l : List α} (h : l.length = 16) : ∃ a0 a1 a2 a3 a4 a5 a6 a7 a8 a9 a10 a11 a12 a13 a14 a15, l = [a0, a1, a2, a3, a4, a5, a6, a7, a8, a9, a10, a11, a12, a13, a14, a15] := by
  match l, h with
  | [a0, a1, a2, a3, a4, a5, a6, a7, a8, a9, a10, a11, a12, a13, a14, a15], _ => exact ⟨a0, a1, a2, a3, a4, a5, a6, a7, a8, a9, a10, a11, a12, a13, a14, a15, rfl⟩
theorem list19 {α : Type} {l : List α} (h : l.length = 19) : ∃ a0 a1 a2 a3 a4 a5 a6 a7 a8 a9 a10 a11 a12 a13 a14 a15 a16 a17 a18, l = [a0, a1, a2, a3, a4, a5, a6, a7, a8, a9, a10, a11, a12, a13, a14, a15, a16, a17, a18] := by
  match l, h with
  | [a0, a1, a2, a3, a4, a5, a6, a7, a8, a9, a10, a11, a12, a13, a14, a15, a16, a17, a18], _ => exact ⟨a0, a1, a2, a3, a4, a5, a6, a7, a8, a9, a10, a11, a12, a13, a14, a15, a16, a17, a18, rfl⟩
set_option maxRecDepth 100000 in
theorem rep_regsF {w : World} {f : Nat} {cs : List Value} (h : Rep Try.prog w f 72 cs) : ∃ x : PCen.S72, cs = [.int .i32 x.f0, .int .i32 x.f1, .int .i32 x.f2, .int .i32 x.f3] := by
  obtain ⟨g, hl, hf⟩ := rep_array Try.underlying72 h
  rw [cellsRegsF] at hl
  obtain ⟨c0, c1, c2, c3, rfl⟩ := list4 hl
  rw [cellsI32F] at hf
  have h0 : Rep Try.prog w g 21 [c0] := hf 0 (by omega)
  have h1 : Rep Try.prog w g 21 [c1] := hf 1 (by omega)
  have h2 : Rep Try.prog w g 21 [c2] := hf 2 (by omega)
  have h3 : Rep Try.prog w g 21 [c3] := hf 3 (by omega)
  obtain ⟨a, e0, _⟩ := rep_int Try.underlying21 h0
  obtain ⟨b, e1, _⟩ := rep_int Try.underlying21 h1
  obtain ⟨c, e2, _⟩ := rep_int Try.underlying21 h2
  obtain ⟨d, e3, _⟩ := rep_int Try.underlying21 h3
  simp at e0 e1 e2 e3
  subst e0 e1 e2 e3
  exact ⟨⟨a, b, c, d⟩, rfl⟩
set_option maxRecDepth 100000 in
theorem rep_taskF {w : World} {f : Nat} {cs : List Value} (h : Rep Try.prog w f 74 cs) : ∃ x : PCen.S74, PCen.k74.K w x cs ∧ True := by
  obtain ⟨g, hl, hf⟩ := rep_struct Try.underlying74 h
  rw [cellsTaskF] at hl
  obtain ⟨c0, c1, c2, c3, c4, c5, c6, c7, rfl⟩ := list8 hl
  have h0 : Rep Try.prog w g 3 [c0] := by have h := hf 0 _ rfl; erw [cellsI64F] at h; exact h
  have h1 : Rep Try.prog w g 3 [c1] := by have h := hf 1 _ rfl; erw [cellsI64F] at h; exact h
  have h2 : Rep Try.prog w g 72 [c2, c3, c4, c5] := by have h := hf 2 _ rfl; erw [cellsRegsF] at h; exact h
  have h3 : Rep Try.prog w g 3 [c6] := by have h := hf 3 _ rfl; erw [cellsI64F] at h; exact h
  have h4 : Rep Try.prog w g 3 [c7] := by have h := hf 4 _ rfl; erw [cellsI64F] at h; exact h
  obtain ⟨a, e0, _⟩ := rep_int Try.underlying3 h0
  obtain ⟨b, e1, _⟩ := rep_int Try.underlying3 h1
  obtain ⟨rs, e2⟩ := rep_regsF h2
  obtain ⟨c, e3, _⟩ := rep_int Try.underlying3 h3
  obtain ⟨d, e4, _⟩ := rep_int Try.underlying3 h4
  simp at e0 e1 e2 e3 e4
  obtain ⟨rfl, rfl, rfl, rfl⟩ := e2
  subst e0 e1 e3 e4
  exact ⟨⟨a, b, rs, c, d⟩, PCen.k74_mk _ _, trivial⟩
set_option maxRecDepth 100000 in
theorem rep_intF {w : World} {f : Nat} {cs : List Value} (h : Rep Try.prog w f 3 cs) : ∃ x : Int, (Kd.int .i64).K w x cs ∧ True := by
  obtain ⟨n, e, _⟩ := rep_int Try.underlying3 h
  subst e
  exact ⟨n, by first | rfl | exact ⟨rfl⟩ | simp [Kd.int, Kd.scalar], trivial⟩
set_option maxRecDepth 100000 in
theorem rep_setF {w : World} {f : Nat} {cs : List Value} (h : Rep Try.prog w f 67 cs) : ∃ o1 o2 o3 o4 o5 o6 o7 o8 o9 o10 o11 o12 o13 o14 o15 o16 : Int, cs = [.int .u64 o1, .int .u64 o2, .int .u64 o3, .int .u64 o4, .int .u64 o5, .int .u64 o6, .int .u64 o7, .int .u64 o8, .int .u64 o9, .int .u64 o10, .int .u64 o11, .int .u64 o12, .int .u64 o13, .int .u64 o14, .int .u64 o15, .int .u64 o16] := by
  obtain ⟨g, hl, hf⟩ := rep_array Try.underlying67 h
  rw [cellsSetF] at hl
  obtain ⟨c0, c1, c2, c3, c4, c5, c6, c7, c8, c9, c10, c11, c12, c13, c14, c15, rfl⟩ := list16 hl
  rw [cellsU64F] at hf
  have h0 : Rep Try.prog w g 65 [c0] := hf 0 (by omega)
  obtain ⟨x0, e0, _⟩ := rep_int Try.underlying65 h0
  simp at e0
  subst e0
  have h1 : Rep Try.prog w g 65 [c1] := hf 1 (by omega)
  obtain ⟨x1, e1, _⟩ := rep_int Try.underlying65 h1
  simp at e1
  subst e1
  have h2 : Rep Try.prog w g 65 [c2] := hf 2 (by omega)
  obtain ⟨x2, e2, _⟩ := rep_int Try.underlying65 h2
  simp at e2
  subst e2
  have h3 : Rep Try.prog w g 65 [c3] := hf 3 (by omega)
  obtain ⟨x3, e3, _⟩ := rep_int Try.underlying65 h3
  simp at e3
  subst e3
  have h4 : Rep Try.prog w g 65 [c4] := hf 4 (by omega)
  obtain ⟨x4, e4, _⟩ := rep_int Try.underlying65 h4
  simp at e4
  subst e4
  have h5 : Rep Try.prog w g 65 [c5] := hf 5 (by omega)
  obtain ⟨x5, e5, _⟩ := rep_int Try.underlying65 h5
  simp at e5
  subst e5
  have h6 : Rep Try.prog w g 65 [c6] := hf 6 (by omega)
  obtain ⟨x6, e6, _⟩ := rep_int Try.underlying65 h6
  simp at e6
  subst e6
  have h7 : Rep Try.prog w g 65 [c7] := hf 7 (by omega)
  obtain ⟨x7, e7, _⟩ := rep_int Try.underlying65 h7
  simp at e7
  subst e7
  have h8 : Rep Try.prog w g 65 [c8] := hf 8 (by omega)
  obtain ⟨x8, e8, _⟩ := rep_int Try.underlying65 h8
  simp at e8
  subst e8
  have h9 : Rep Try.prog w g 65 [c9] := hf 9 (by omega)
  obtain ⟨x9, e9, _⟩ := rep_int Try.underlying65 h9
  simp at e9
  subst e9
  have h10 : Rep Try.prog w g 65 [c10] := hf 10 (by omega)
  obtain ⟨x10, e10, _⟩ := rep_int Try.underlying65 h10
  simp at e10
  subst e10
  have h11 : Rep Try.prog w g 65 [c11] := hf 11 (by omega)
  obtain ⟨x11, e11, _⟩ := rep_int Try.underlying65 h11
  simp at e11
  subst e11
  have h12 : Rep Try.prog w g 65 [c12] := hf 12 (by omega)
  obtain ⟨x12, e12, _⟩ := rep_int Try.underlying65 h12
  simp at e12
  subst e12
  have h13 : Rep Try.prog w g 65 [c13] := hf 13 (by omega)
  obtain ⟨x13, e13, _⟩ := rep_int Try.underlying65 h13
  simp at e13
  subst e13
  have h14 : Rep Try.prog w g 65 [c14] := hf 14 (by omega)
  obtain ⟨x14, e14, _⟩ := rep_int Try.underlying65 h14
  simp at e14
  subst e14
  have h15 : Rep Try.prog w g 65 [c15] := hf 15 (by omega)
  obtain ⟨x15, e15, _⟩ := rep_int Try.underlying65 h15
  simp at e15
  subst e15
  exact ⟨x0, x1, x2, x3, x4, x5, x6, x7, x8, x9, x10, x11, x12, x13, x14, x15, rfl⟩
set_option maxRecDepth 100000 in
theorem open_flat {w : World} {v : Value} {b0 : Nat} {r : Reach} {H : Type} {enc : TypeId × Value → H} {base : Nat} {spare : Nat → Bool} {held : Bool} {d : DataW H} {p : List MemPlace}
    (hv : Value.okWide Try.prog w r b0 69 v) (h : DataW.Trod enc Try.prog w base spare held 69 v d p) :
    ∃ (A : Option Addr) (c : Nat) (l : List PCen.S74) (o1 o2 o3 o4 o5 o6 o7 o8 o9 o10 o11 o12 o13 o14 o15 o16 : Int) (B : Option Addr) (cb : Nat) (m : List Int) (tm : Int), v = .agg #[.slice A l.length c, .int .u64 o1, .int .u64 o2, .int .u64 o3, .int .u64 o4, .int .u64 o5, .int .u64 o6, .int .u64 o7, .int .u64 o8, .int .u64 o9, .int .u64 o10, .int .u64 o11, .int .u64 o12, .int .u64 o13, .int .u64 o14, .int .u64 o15, .int .u64 o16, .slice B m.length cb, .int .i64 tm] ∧
      (l.length ≤ c ∧ Kd.C PCen.k74 w A l.length l) ∧ (m.length ≤ cb ∧ Kd.C (Kd.int .i64) w B m.length m) := by
  obtain ⟨cs, rfl, _⟩ := okWide_struct Try.underlying69 hv
  obtain ⟨f, hf⟩ := rep_of_Trod h
  obtain ⟨g, hl, hf⟩ := rep_struct Try.underlying69 hf
  rw [cellsFlatF] at hl
  obtain ⟨cs⟩ := cs
  obtain ⟨c0, c1, c2, c3, c4, c5, c6, c7, c8, c9, c10, c11, c12, c13, c14, c15, c16, c17, c18, rfl⟩ := list19 hl
  have h0 : Rep Try.prog w g 64 [c0] := by have h := hf 0 _ rfl; erw [cellsTasksF] at h; exact h
  have h1 : Rep Try.prog w g 67 [c1, c2, c3, c4, c5, c6, c7, c8, c9, c10, c11, c12, c13, c14, c15, c16] := by have h := hf 1 _ rfl; erw [cellsSetF] at h; exact h
  have h2 : Rep Try.prog w g 29 [c17] := by have h := hf 2 _ rfl; erw [cellsIntsF] at h; exact h
  have h3 : Rep Try.prog w g 3 [c18] := by have h := hf 3 _ rfl; erw [cellsI64F] at h; exact h
  obtain ⟨A, c, l, e0, hlc, hcm, hA, _⟩ := row_of_rep PCen.k74 _ Try.underlying64 (cellsTaskF.trans rfl) (fun _ _ h => rep_taskF h) h0
  obtain ⟨o1, o2, o3, o4, o5, o6, o7, o8, o9, o10, o11, o12, o13, o14, o15, o16, e1⟩ := rep_setF h1
  obtain ⟨B, cb, m, e2, hmc, _, hB, _⟩ := row_of_rep (Kd.int .i64) _ Try.underlying29 (cellsI64F.trans rfl) (fun _ _ h => rep_intF h) h2
  obtain ⟨tm, e3, _⟩ := rep_int Try.underlying3 h3
  simp at e1 e3
  obtain ⟨rfl, rfl, rfl, rfl, rfl, rfl, rfl, rfl, rfl, rfl, rfl, rfl, rfl, rfl, rfl, rfl⟩ := e1
  subst e3 e0 e2
  exact ⟨A, c, l, o1, o2, o3, o4, o5, o6, o7, o8, o9, o10, o11, o12, o13, o14, o15, o16, B, cb, m, tm, rfl, ⟨hlc, hA⟩, ⟨hmc, hB⟩⟩
end Go.Proofs.Ytidhcdifmcffcaa
