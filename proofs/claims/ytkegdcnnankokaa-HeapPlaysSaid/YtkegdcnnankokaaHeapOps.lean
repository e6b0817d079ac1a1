/-
A row of things to be done to a heap, as it comes in.
-/
import Derived.Test.YtkegdcnnankokaaReps
import Derived.Test.YtkegdcnnankokaaHiDown
import Derived.Test.YtkegdcnnankokaaWMore
namespace Go.Proofs.Ytkegdcnnankokaa.Hpi
set_option linter.unusedVariables false
set_option linter.unusedSimpArgs false
open Go.RowKit Go.ChangeShapes Go.WideShapes Go.Proofs.YtkegdcnnankokaaW.PrintWords Go.Proofs.Ytkegdcnnankokaa
structure OpS where
  k : Int
  t : Int
  x : Int
def kOp : Kd OpS := Kd.iso (Kd.pair (Kd.int .u64) (Kd.pair (Kd.int .i64) (Kd.int .i64))) (fun x : OpS => (x.k, x.t, x.x))
theorem kOp_open {w : World} {x : OpS} {cs : List Value} (h : kOp.K w x cs) : cs = [.int .u64 x.k, .int .i64 x.t, .int .i64 x.x] := by
  obtain ⟨_, _, rfl, rfl, ⟨_, _, rfl, rfl, rfl⟩⟩ := h
  rfl
theorem kOp_mk (w : World) (x : OpS) : kOp.K w x [.int .u64 x.k, .int .i64 x.t, .int .i64 x.x] :=
  ⟨[.int .u64 x.k], [.int .i64 x.t, .int .i64 x.x], rfl, rfl, ⟨[.int .i64 x.t], [.int .i64 x.x], rfl, rfl, rfl⟩⟩
theorem cellsOp : Try.prog.cellsOf 78 = 3 := by kernel_rfl
theorem cellsI64O : Try.prog.cellsOf 3 = 1 := by kernel_rfl
theorem cellsU64O : Try.prog.cellsOf 52 = 1 := by kernel_rfl
set_option maxRecDepth 100000 in
theorem rep_op {w : World} {f : Nat} {cs : List Value} (h : Rep Try.prog w f 78 cs) : ∃ x : OpS, kOp.K w x cs ∧ ((0 ≤ x.k ∧ x.k ≤ 18446744073709551615) ∧ wfk x.x) := by
  obtain ⟨g, hl, hf⟩ := rep_struct Try.underlying78 h
  rw [cellsOp] at hl
  obtain ⟨c0, c1, c2, rfl⟩ := list3 hl
  have h0 : Rep Try.prog w g 52 [c0] := by have h := hf 0 _ rfl; erw [cellsU64O] at h; exact h
  have h1 : Rep Try.prog w g 3 [c1] := by have h := hf 1 _ rfl; erw [cellsI64O] at h; exact h
  have h2 : Rep Try.prog w g 3 [c2] := by have h := hf 2 _ rfl; erw [cellsI64O] at h; exact h
  obtain ⟨a, e0, hw⟩ := rep_int Try.underlying52 h0
  obtain ⟨b, e1, _⟩ := rep_int Try.underlying3 h1
  obtain ⟨c, e2, hwc⟩ := rep_int Try.underlying3 h2
  simp at e0 e1 e2
  subst e0 e1 e2
  exact ⟨⟨a, b, c⟩, kOp_mk _ ⟨a, b, c⟩, wf_u64 hw, hwc⟩
set_option maxRecDepth 100000 in
theorem open_ops {w : World} {v : Value} {b0 : Nat} {r : Reach} {H : Type} {enc : TypeId × Value → H} {base : Nat} {spare : Nat → Bool} {held : Bool} {d : DataW H} {p : List MemPlace}
    (hv : Value.okWide Try.prog w r b0 75 v) (h : DataW.Trod enc Try.prog w base spare held 75 v d p) :
    ∃ (A : Option Addr) (c : Nat) (l : List OpS), v = .slice A l.length c ∧ l.length ≤ c ∧ Kd.C kOp w A l.length l ∧ ∀ o ∈ l, (0 ≤ o.k ∧ o.k ≤ 18446744073709551615) ∧ wfk o.x := by
  obtain ⟨a, n, c, rfl⟩ := okWide_slice Try.underlying75 hv
  obtain ⟨f, hf⟩ := rep_of_Trod h
  obtain ⟨A, c, l, e1, hlc, hcm, hA, hQ⟩ := row_of_rep kOp _ Try.underlying75 (cellsOp.trans rfl) (fun _ _ h => rep_op h) hf
  exact ⟨A, c, l, by simpa [Value.cells] using e1, hlc, hA, hQ⟩
end Go.Proofs.Ytkegdcnnankokaa.Hpi
