/-
The document's list and the heap's: what stands in the one stands in the other.
-/
import Derived.Test.YtkegdcnnankokaaHeapRef
import Derived.Test.YtkegdcnnankokaaHeapDropLaw
namespace Go.Proofs.Ytkegdcnnankokaa.PHpb
set_option linter.unusedVariables false
set_option linter.unusedSimpArgs false
open Hp
/-- a thing in the heap, as the document has it. -/
def toR (e : It Int) : S130 := ⟨e.f0, e.f2⟩
theorem putP_true (w x : Int) : ∀ l : List S130, putP w x true l = l
  | [] => rfl
  | y :: t => by simp [putP, putP_true w x t]
theorem put_tie {w x : Int} {seq : Int} : ∀ {s : List (It Int)}, (∀ a ∈ s, a.f1 < seq) → putP w x false (s.map toR) = (ins ⟨w, seq, x⟩ s).map toR
  | [], _ => rfl
  | a :: s, h => by
    have ha := h a List.mem_cons_self
    have ih := put_tie (w := w) (x := x) (seq := seq) (s := s) (fun b hb => h b (List.mem_cons_of_mem _ hb))
    show (if (toR a).f0 > w then _ else _) = _
    by_cases hw : a.f0 > w
    · have hl : lt (⟨w, seq, x⟩ : It Int) a := .inl hw
      rw [if_pos (show (toR a).f0 > w from hw)]
      simp only [ins, if_pos hl, List.map_cons, putP_true]
      simp [toR]
    · have hl : ¬ lt (⟨w, seq, x⟩ : It Int) a := fun q => by
        rcases q with q | ⟨_, q⟩
        · exact hw q
        · have : seq < a.f1 := q
          omega
      rw [if_neg (show ¬ (toR a).f0 > w from hw)]
      simp only [ins, if_neg hl, List.map_cons]
      rw [ih]
/-- nowhere, or at a place. -/
theorem at_tie {x : Int} : ∀ (s : List (It Int)) (i : Nat), (atP x (s.map toR) i = -1 ∧ ∀ e ∈ s, e.f2 ≠ x) ∨ ∃ (s1 s2 : List (It Int)) (a : It Int), s = s1 ++ a :: s2 ∧ a.f2 = x ∧ (∀ e ∈ s1, e.f2 ≠ x) ∧ atP x (s.map toR) i = ((i + s1.length : Nat) : Int)
  | [], i => .inl ⟨rfl, fun e he => absurd he (by simp)⟩
  | a :: s, i => by
    by_cases h : a.f2 = x
    · refine .inr ⟨[], s, a, rfl, h, fun e he => absurd he (by simp), ?_⟩
      show (if (toR a).f1 = x then _ else _) = _
      rw [if_pos (show (toR a).f1 = x from h)]
      rfl
    · have e0 : atP x ((a :: s).map toR) i = atP x (s.map toR) (i + 1) := by
        show (if (toR a).f1 = x then _ else _) = _
        rw [if_neg (show ¬ (toR a).f1 = x from h)]
      rw [e0]
      rcases at_tie (x := x) s (i + 1) with ⟨h1, h2⟩ | ⟨s1, s2, b, h1, h2, h3, h4⟩
      · refine .inl ⟨h1, fun e he => ?_⟩
        rcases List.mem_cons.1 he with he | he
        · rw [he]; exact h
        · exact h2 e he
      · refine .inr ⟨a :: s1, s2, b, by rw [h1]; rfl, h2, fun e he => ?_, ?_⟩
        · rcases List.mem_cons.1 he with he | he
          · rw [he]; exact h
          · exact h3 e he
        · rw [h4]
          have : i + 1 + s1.length = i + (a :: s1).length := by simp; omega
          rw [this]
end Go.Proofs.Ytkegdcnnankokaa.PHpb
