/-
What came in as a slice, as the printed contracts read it (Kd.C).
-/
import Derived.Test.YtkegdcnnankokaaRead
import Derived.Test.YtkegdcnnankokaaWWords
namespace Go.Proofs.Ytkegdcnnankokaa
set_option linter.unusedVariables false
set_option linter.unusedSimpArgs false
open Go.RowKit Go.Proofs.YtkegdcnnankokaaW.PrintWords
theorem addr_add_add (a : Addr) (m n : Nat) : (a.add m).add n = a.add (m + n) := by
  unfold Addr.add
  by_cases h1 : m = 0
  · subst h1; simp
  · by_cases h2 : n = 0
    · subst h2; simp
    · simp [h1, h2, show ¬ (m + n = 0) by omega]; omega
theorem row_of_rep {α : Type} (d : Kd α) (Q : α → Prop) {P : Program} {w : World} {f : Nat} {t e : TypeId} {v : Value} (hu : P.underlying t = some (.slice e)) (hs : P.cellsOf e = d.sz)
    (hK : ∀ f cs, Rep P w f e cs → ∃ x, d.K w x cs ∧ Q x) (h : Rep P w f t [v]) :
    ∃ (A : Option Addr) (c : Nat) (l : List α), v = .slice A l.length c ∧ l.length ≤ c ∧ c ≤ maxLen ∧ d.C w A l.length l ∧ ∀ x ∈ l, Q x := by
  obtain ⟨g, h⟩ := rep_slice hu h
  rcases h with h | ⟨a, len, cap, h, hl, hm, hx⟩
  · simp at h; subst h
    exact ⟨none, 0, [], rfl, by simp, by simp, ⟨rfl, by simp, fun h => absurd h (by simp)⟩, fun x hx => absurd hx (by simp)⟩
  · simp at h; subst h
    rw [hs] at hx
    obtain ⟨l, hll, hr⟩ := list_of_all len (fun i (x : α) => (∃ c : List Value, c.length = d.sz ∧ d.K w x c ∧ ∀ j u, c[j]? = some u → w.cell? (a.add (i * d.sz + j)) = some u) ∧ Q x) (by
      intro i hi
      obtain ⟨c, h1, h2, h3⟩ := hx i hi
      obtain ⟨x, h4, h5⟩ := hK _ _ h3
      exact ⟨x, ⟨c, h1, h4, fun j u hj => by rw [← addr_add_add]; exact h2 j u hj⟩, h5⟩)
    subst hll
    refine ⟨some a, cap, l, rfl, hl, hm, ⟨rfl, by simp only [maxLen] at hm; omega, fun _ => ⟨a, rfl, fun j p hj => ?_⟩⟩, fun x hx => ?_⟩
    · obtain ⟨hj1, rfl⟩ := List.getElem?_eq_some_iff.1 hj
      exact (hr j hj1).1
    · obtain ⟨i, hi, rfl⟩ := List.getElem_of_mem hx
      exact (hr i hi).2
end Go.Proofs.Ytkegdcnnankokaa
