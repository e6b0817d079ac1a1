/-
Plain Lean for what the printer leaves: 'from some number of rounds on it answers, and the answer is so' (EvP), rows read at natural places.
-/
import Derived.Test.YtkegdcnnankokaaWWords
import Derived.Test.YtkegdcnnankokaaWMore
namespace Go.Proofs.Ytkegdcnnankokaa
set_option linter.unusedVariables false
set_option linter.unusedSimpArgs false
open Go.RowKit Go.Proofs.YtkegdcnnankokaaW.PrintWords

/-- from some number of rounds on g answers, and the answer is P. -/
def EvP {α : Type} (g : Nat → Option α) (P : α → Prop) : Prop := ∃ r, Ev g r ∧ P r
section
variable {α β : Type} {g f : Nat → Option α} {P Q : α → Prop}
theorem EvP.now {r : α} (h : P r) : EvP (fun _ => some r) P := ⟨r, Ev.now r, h⟩
theorem EvP.ev {r : α} (h : Ev g r) (hp : P r) : EvP g P := ⟨r, h, hp⟩
theorem EvP.succ (h : EvP (fun k => g (k + 1)) P) : EvP g P := by
  obtain ⟨r, hr, hp⟩ := h
  exact ⟨r, hr.step (fun _ => rfl), hp⟩
theorem EvP.mono (h : EvP g P) (hpq : ∀ r, P r → Q r) : EvP g Q := by
  obtain ⟨r, hr, hp⟩ := h
  exact ⟨r, hr, hpq r hp⟩
theorem EvP.pos {c : Prop} [Decidable c] (hc : c) (h : EvP f P) : EvP (fun n => if c then f n else g n) P := by
  obtain ⟨r, hr, hp⟩ := h
  exact ⟨r, hr.congr (fun k => by rw [if_pos hc]), hp⟩
theorem EvP.neg {c : Prop} [Decidable c] (hc : ¬ c) (h : EvP g P) : EvP (fun n => if c then f n else g n) P := by
  obtain ⟨r, hr, hp⟩ := h
  exact ⟨r, hr.congr (fun k => by rw [if_neg hc]), hp⟩
theorem EvP.ite {c : Prop} [Decidable c] (h1 : c → EvP f P) (h2 : ¬ c → EvP g P) : EvP (fun n => if c then f n else g n) P := by
  by_cases hc : c
  · exact EvP.pos hc (h1 hc)
  · exact EvP.neg hc (h2 hc)
theorem EvP.bind {g : Nat → Option β} {f : Nat → β → Option α} {Q : β → Prop} (h : EvP g Q) (k : ∀ b, Q b → EvP (fun n => f n b) P) : EvP (fun n => (g n).bind (f n)) P := by
  obtain ⟨b, hb, hq⟩ := h
  obtain ⟨r, hr, hp⟩ := k b hq
  exact ⟨r, hb.bind hr, hp⟩
/-- a part that has no rounds. -/
theorem EvP.bindS {x : Option β} {f : Nat → β → Option α} {b : β} (h : x = some b) (k : EvP (fun n => f n b) P) : EvP (fun n => x.bind (f n)) P := by
  subst h; exact k
theorem EvP.rounds {r : α} (h : EvP g (· = r)) : ∃ k, g k = some r := by
  obtain ⟨q, ⟨K, hk⟩, rfl⟩ := h
  exact ⟨K, hk K (Nat.le_refl _)⟩
end
theorem wrap_nat {n : Int} (h0 : -9223372036854775808 ≤ n) (h1 : n ≤ 9223372036854775807) : wrap64 n = n := by unfold wrap64; omega
theorem wrap_up {i : Nat} (h : i ≤ 4611686018427387904) : wrap64 ((i : Int) + 1) = ((i + 1 : Nat) : Int) := by rw [wrap_nat (by omega) (by omega)]; push_cast; rfl
theorem rd_nat (xs : List Int) (i : Nat) : rd xs (i : Int) = xs.getD i 0 := by simp [rd]
theorem rd_at {xs : List Int} {i : Nat} (h : i < xs.length) : rd xs (i : Int) = xs[i] := by simp [rd, List.getElem?_eq_getElem h]
theorem rdOf_nat {α : Type} (d : α) (xs : List α) (i : Nat) : rdOf d xs (i : Int) = xs.getD i d := by simp [rdOf]
theorem rdOf_at {α : Type} {d : α} {xs : List α} {i : Nat} (h : i < xs.length) : rdOf d xs (i : Int) = xs[i] := by simp [rdOf, List.getElem?_eq_getElem h]
end Go.Proofs.Ytkegdcnnankokaa
