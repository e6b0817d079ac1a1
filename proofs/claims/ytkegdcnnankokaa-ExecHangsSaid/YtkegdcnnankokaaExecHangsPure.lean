/-
What a step does hangs on its instruction and the registers alone, plain: the printed law answers true.
-/
import Derived.Test.YtkegdcnnankokaaPureKit
import Derived.Test.YtkegdcnnankokaaGStep
import Derived.Test.YtkegdcnnankokaaPLintx5
namespace Go.Proofs.Ytkegdcnnankokaa.PLint
set_option linter.unusedVariables false
set_option linter.unusedSimpArgs false
open Go.RowKit Go.Proofs.YtkegdcnnankokaaW.PrintWords Go.Proofs.YtkegdcnnankokaaW.PrintLast Go.Proofs.YtkegdcnnankokaaW.PrintMore
def W32 (l : List S109) : Prop := ∀ x ∈ l, -2147483648 ≤ x.f3 ∧ x.f3 ≤ 2147483647
theorem in32B_of {l : List S109} (hw : W32 l) : in32B l = true := by
  unfold in32B
  rw [List.all_eq_true]
  intro x hx
  simpa using hw x hx
theorem rdT_at {l : List S109} {i : Nat} (h : i < l.length) : rd_T109 l (i : Int) = l[i] := by simp [rd_T109, List.getElem?_eq_getElem h]
theorem check_f {prio : Int} {l : List S109} (hw : W32 l) : pinfoldref09_Check.f prio l = some (checkS prio (l.map toIns)) := by
  unfold pinfoldref09_Check.f
  rw [if_pos (in32B_of hw)]
theorem step_at {prio : Int} {l : List S109} (hw : W32 l) (hc : (checkS prio (l.map toIns)).1 = 0) (p : Nat) (hp : p < l.length) (r0 r1 r2 r3 : Int) :
    exec_Step.f prio l (p : Int) r0 r1 r2 r3 = some ((stepS (toIns l[p]) p ⟨r0, r1, r2, r3⟩).pc, (stepS (toIns l[p]) p ⟨r0, r1, r2, r3⟩).rs.r0, (stepS (toIns l[p]) p ⟨r0, r1, r2, r3⟩).rs.r1, (stepS (toIns l[p]) p ⟨r0, r1, r2, r3⟩).rs.r2, (stepS (toIns l[p]) p ⟨r0, r1, r2, r3⟩).rs.r3, (stepS (toIns l[p]) p ⟨r0, r1, r2, r3⟩).op, (stepS (toIns l[p]) p ⟨r0, r1, r2, r3⟩).reg, (stepS (toIns l[p]) p ⟨r0, r1, r2, r3⟩).n) := by
  have htop : stepTop prio (l.map toIns) (p : Int) ⟨r0, r1, r2, r3⟩ = stepS (toIns l[p]) p ⟨r0, r1, r2, r3⟩ := by
    unfold stepTop
    rw [if_neg (by simp only [List.length_map]; omega)]
    simp [List.getD, List.getElem?_eq_getElem hp]
  unfold exec_Step.f
  rw [if_pos (in32B_of hw), htop]
theorem hangs_f {p0 p1 : Int} {l m : List S109} (hl : W32 l) (hm : W32 m) (at_ : Int) (h0 : 0 ≤ at_) (h1 : at_ ≤ 18446744073709551615) (r0 r1 r2 r3 : Int) :
    EvP (fun k => pinfoldlaw10_hangs.f k p0 l p1 m at_ r0 r1 r2 r3) (· = true) := by
  have jt : EvP (fun k => pinfoldlaw10_hangs.j0 k at_ true p0 l p1 m r0 r1 r2 r3) (· = true) := by
    refine EvP.succ ?_
    simp only [pinfoldlaw10_hangs.j0]
    exact EvP.pos trivial (EvP.now rfl)
  simp only [pinfoldlaw10_hangs.f]
  refine EvP.bindS (check_f hl) ?_
  refine EvP.bindS (b := decide ((l.length : Int) ≤ 80)) rfl ?_
  refine EvP.ite (fun h80 => ?_) (fun _ => jt)
  refine EvP.bindS (b := decide ((m.length : Int) ≤ 80)) rfl ?_
  refine EvP.ite (fun h80' => ?_) (fun _ => jt)
  refine EvP.ite (fun hc => ?_) (fun _ => jt)
  have hlen80 := of_decide_eq_true h80
  by_cases hne : (m.length : Int) = (l.length : Int)
  · rw [show ((m.length : Int) != (l.length : Int)) = false by simp [hne]]
    have hpos : 0 < l.length := by have := (checkS_ok hc).1; simpa using this
    have hu : IntKind.u64.wrap ((l.length : Int)) = (l.length : Int) := by simp [IntKind.wrap, IntKind.bits, IntKind.signed]; omega
    have hk : wrap64 (Int.tmod at_ (IntKind.u64.wrap ((l.length : Int)))) = ((at_.toNat % l.length : Nat) : Int) := by
      rw [hu]
      obtain ⟨n, rfl⟩ := Int.eq_ofNat_of_zero_le h0
      have hlt : n % l.length < l.length := Nat.mod_lt _ hpos
      rw [Int.toNat_natCast, ← Int.ofNat_tmod, wrap_nat (by omega) (by omega)]
    have hkl : at_.toNat % l.length < l.length := Nat.mod_lt _ hpos
    generalize hkk : at_.toNat % l.length = k0 at hk hkl
    have hkm : k0 < m.length := by omega
    have hy : W32 (m.set k0 l[k0]) := by
      intro x hx
      rcases List.mem_or_eq_of_mem_set hx with h | rfl
      · exact hm x h
      · exact hl _ (List.getElem_mem _)
    refine EvP.succ ?_
    simp only [pinfoldlaw10_hangs.j0]
    rw [hk]
    simp only [List.nil_append, List.length_nil, Option.bind_some, Int.toNat_natCast]
    rw [rdT_at hkl]
    refine EvP.neg (by simp) (EvP.neg (by rw [hu]; omega) (EvP.pos (by omega) (EvP.pos (by omega) (EvP.pos (by omega) (EvP.pos (by omega) ?_)))))
    refine EvP.bindS (check_f hy) (EvP.ite (fun hc2 => ?_) (fun _ => EvP.now rfl))
    have hky : k0 < (m.set k0 l[k0]).length := by simp [hkm]
    refine EvP.bindS (step_at hl hc k0 hkl r0 r1 r2 r3) ?_
    refine EvP.bindS (step_at hy hc2 k0 hky r0 r1 r2 r3) ?_
    rw [List.getElem_set_self]
    refine EvP.pos rfl (EvP.pos (by simp) (EvP.succ ?_))
    simp only [pinfoldlaw10_hangs.j1]
    exact EvP.now (by simp)
  · rw [show ((m.length : Int) != (l.length : Int)) = true by simpa using hne]
    exact jt
theorem execHangs_f {p0 p1 : Int} {l m : List S109} (hl : W32 l) (hm : W32 m) (at_ : Int) (h0 : 0 ≤ at_) (h1 : at_ ≤ 18446744073709551615) (r0 r1 r2 r3 : Int) :
    EvP (fun k => pinfoldlaw10_ExecHangs.f k p0 l p1 m at_ r0 r1 r2 r3) (· = true) := by
  simp only [pinfoldlaw10_ExecHangs.f]
  refine EvP.bindS (b := true) rfl (EvP.pos rfl (EvP.bind (hangs_f hl hm at_ h0 h1 r0 r1 r2 r3) (fun b hb => EvP.now hb)))
end Go.Proofs.Ytkegdcnnankokaa.PLint
