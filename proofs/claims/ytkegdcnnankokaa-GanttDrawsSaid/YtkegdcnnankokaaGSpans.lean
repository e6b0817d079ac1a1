/-
gantt.Spans in the printed contracts' form.
-/
import Derived.Test.YtkegdcnnankokaaSpans
namespace Go.Proofs.Ytkegdcnnankokaa.PGan
set_option linter.unusedVariables false
set_option linter.unusedSimpArgs false
open Go.RowKit Go.Maps Go.Proofs.YtkegdcnnankokaaW.PrintWords Go.Proofs.YtkegdcnnankokaaW.PrintLast Go.Proofs.YtkegdcnnankokaaW.PrintMore
def gantt_Spans.f (l0 : List (S36)) : Option ((List (S27))) := if l0.length ≤ 60 ∧ (∀ e ∈ l0, (Lit.int .i64 e.f1).wf = true ∧ (Lit.int .i64 e.f2).wf = true) then some (spansP l0) else none
theorem gantt_Spans.calls (A0 : Option Addr) (c0 : Nat) (l0 : List (S36)) (r : List (S27)) (w : World) (hr0 : Kd.C k36 w A0 l0.length l0) (hc0 : l0.length ≤ c0) (h : gantt_Spans.f l0 = some r) :
    Calls Try.prog 15 #[.slice A0 l0.length c0] w fun e w' => ∃ v0_ : Value, e = .returned (v0_) ∧ Kd.R k27 27 w' w.heap.size (fun _ => True) v0_ r ∧ Below w.heap.size w w' := by
  unfold gantt_Spans.f at h
  split at h
  case isFalse => cases h
  rename_i hc
  obtain rfl := Option.some.inj h
  exact spans_any A0 c0 l0 w hr0 hc.1 hc.2
/-- the law's own cut: at most 60 events. -/
theorem cut_len (l : List (S36)) : (l.take (mn (l.length : Int) 60).toNat).length = min l.length 60 := by
  rw [List.length_take]
  unfold mn
  split <;> omega
theorem cut_any (A : Option Addr) (c : Nat) (l : List (S36)) (n : Nat) (w : World) (hc : l.length ≤ c) (hn : n = min l.length 60) :
    Calls Try.prog 14 #[.slice A l.length c] w fun e w' => e = .returned (.slice A n c) ∧ w' = w := by
  obtain ⟨i08, hi08, _, hsz8, _⟩ := info_parts info36
  obtain ⟨j, hj⟩ : ∃ j : Int, min (l.length : Int) 60 = j := ⟨_, rfl⟩
  have hcut := cut_to (P := Try.prog) 22 36 .i64 Try.underlying22 hi08 A l.length c j (by omega) (by omega) hc
  have hjn : j.toNat = n := by omega
  rw [hjn] at hcut
  have hj2 : (if 60 < (l.length : Int) then 60 else (l.length : Int)) = j := by split <;> omega
  clear hn hjn
  go_enter Try.func14, Try.ntmps14
  go_wp2
  go_ret
  exact ⟨rfl, rfl⟩
end Go.Proofs.Ytkegdcnnankokaa.PGan
