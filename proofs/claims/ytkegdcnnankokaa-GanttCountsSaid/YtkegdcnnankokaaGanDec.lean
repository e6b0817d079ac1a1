/-
A number's text (gantt's dec), plain, for every int64.
-/
import Derived.Test.YtkegdcnnankokaaPureKit
import Derived.Test.YtkegdcnnankokaaPGadx1
namespace Go.Proofs.Ytkegdcnnankokaa.PGad
set_option linter.unusedVariables false
set_option linter.unusedSimpArgs false
open Go.RowKit Go.Proofs.YtkegdcnnankokaaW.PrintWords Go.Proofs.YtkegdcnnankokaaW.PrintLast Go.Proofs.YtkegdcnnankokaaW.PrintMore

def dch (n : Nat) : UInt8 := UInt8.ofNat (48 + n)
/-- a number's digits, from the first on. -/
def digs (n : Nat) : ByteArray := if n < 10 then ⟨#[dch n]⟩ else digs (n / 10) ++ ⟨#[dch (n % 10)]⟩
decreasing_by omega
theorem digs_small {n : Nat} (h : n < 10) : digs n = ⟨#[dch n]⟩ := by rw [digs, if_pos h]
theorem digs_big {n : Nat} (h : ¬ n < 10) : digs n = digs (n / 10) ++ ⟨#[dch (n % 10)]⟩ := by rw [digs, if_neg h]
theorem digs_size : ∀ (m n : Nat), n < 10 ^ (m + 1) → (digs n).size ≤ m + 1
  | 0, n, h => by rw [digs_small (by omega)]; exact Nat.le_refl _
  | m + 1, n, h => by
    by_cases hn : n < 10
    · rw [digs_small hn]; exact Nat.le_trans (Nat.le_refl 1) (by omega)
    · have := digs_size m (n / 10) (by rw [Nat.pow_succ] at h; omega)
      rw [digs_big hn, ByteArray.size_append]
      exact Nat.add_le_add this (Nat.le_refl 1)
theorem digs_20 (n : Nat) (h : n < 18446744073709551616) : (digs n).size ≤ 20 := digs_size 19 n (by omega)
theorem ten_all : ∀ n : Fin 10, gantt_digits.f 1 (n.val : Int) = some ⟨#[dch n.val]⟩ := by decide +kernel
theorem u64_small (n : Nat) (h : n < 18446744073709551616) : IntKind.u64.wrap (n : Int) = n := by
  unfold IntKind.wrap
  simp only [IntKind.bits, IntKind.signed]
  simp
  omega
theorem digits_ev : ∀ (n : Nat), n < 18446744073709551616 → Ev (fun k => gantt_digits.f k (n : Int)) (digs n) := by
  intro n
  induction n using Nat.strongRecOn with
  | _ n ih =>
    intro h
    by_cases hn : n < 10
    · rw [digs_small hn]
      exact Ev.of (fun k => gantt_digits.mono _ k) (ten_all ⟨n, hn⟩)
    · have h1 := ih (n / 10) (by omega) (by omega)
      have h2 := ih (n % 10) (by omega) (by omega)
      have e1 : IntKind.u64.wrap (Int.tdiv (n : Int) 10) = ((n / 10 : Nat) : Int) := by
        have : Int.tdiv (n : Int) 10 = ((n / 10 : Nat) : Int) := rfl
        rw [this]
        exact u64_small _ (by omega)
      have e2 : Int.tmod (n : Int) 10 = ((n % 10 : Nat) : Int) := rfl
      rw [digs_big hn]
      refine Ev.step (f := fun k => _) (fun k => by simp only [gantt_digits.f]; rfl) ?_
      refine Ev.congr (fun k => by rw [if_neg (by omega), e1, e2]) ?_
      refine Ev.bind h1 (Ev.bind h2 ?_)
      have s1 := digs_20 (n / 10) (by omega)
      have s2 := digs_20 (n % 10) (by omega)
      refine Ev.congr (fun k => by rw [if_pos (by omega)]) ?_
      rw [digs_small (n := n % 10) (by omega)]
      exact Ev.now _
/-- a number's text. -/
def decP (n : Int) : ByteArray := if n < 0 then ⟨#[45]⟩ ++ digs n.natAbs else digs n.natAbs
theorem dec_ev (n : Int) (h0 : -9223372036854775808 ≤ n) (h1 : n ≤ 9223372036854775807) : Ev (fun k => gantt_dec.f k n) (decP n) := by
  unfold decP
  by_cases hn : n < 0
  · have e1 : wrap64 (n + 1) = n + 1 := wrap_nat (by omega) (by omega)
    have e2 : wrap64 (-(n + 1)) = ((n.natAbs - 1 : Nat) : Int) := by rw [wrap_nat (by omega) (by omega)]; omega
    have e3 : IntKind.u64.wrap ((n.natAbs - 1 : Nat) : Int) = ((n.natAbs - 1 : Nat) : Int) := u64_small _ (by omega)
    have e4 : IntKind.u64.wrap (((n.natAbs - 1 : Nat) : Int) + 1) = (n.natAbs : Int) := by
      have : (((n.natAbs - 1 : Nat) : Int) + 1) = (n.natAbs : Int) := by omega
      rw [this]
      exact u64_small _ (by omega)
    rw [if_pos hn]
    refine Ev.congr (fun k => by simp only [gantt_dec.f]; rw [if_pos hn, e1, e2, e3, e4]) ?_
    refine Ev.bind (digits_ev n.natAbs (by omega)) ?_
    have s1 := digs_20 n.natAbs (by omega)
    exact Ev.congr (fun k => by rw [if_pos (by omega)]) (Ev.now _)
  · have e1 : IntKind.u64.wrap n = (n.natAbs : Int) := by
      have := u64_small n.natAbs (by omega)
      rwa [show ((n.natAbs : Nat) : Int) = n by omega] at this ⊢
    rw [if_neg hn]
    refine Ev.congr (fun k => by simp only [gantt_dec.f]; rw [if_neg hn, e1]) ?_
    exact Ev.bind (digits_ev n.natAbs (by omega)) (Ev.now _)
theorem digs_last (n : Nat) : ∃ s : ByteArray, digs n = s ++ ⟨#[dch (n % 10)]⟩ := by
  by_cases hn : n < 10
  · exact ⟨⟨#[]⟩, by rw [digs_small hn, Nat.mod_eq_of_lt hn]; rfl⟩
  · exact ⟨digs (n / 10), digs_big hn⟩
theorem decP_last (n : Int) : ∃ s : ByteArray, decP n = s ++ ⟨#[dch (n.natAbs % 10)]⟩ := by
  obtain ⟨s, hs⟩ := digs_last n.natAbs
  unfold decP
  rw [hs]
  split
  · exact ⟨⟨#[45]⟩ ++ s, by rw [ByteArray.append_assoc]⟩
  · exact ⟨s, rfl⟩
theorem decP_size (n : Int) (h0 : -9223372036854775808 ≤ n) (h1 : n ≤ 9223372036854775807) : (decP n).size ≤ 21 := by
  have s1 := digs_20 n.natAbs (by omega)
  unfold decP
  split
  · rw [ByteArray.size_append]; exact Nat.add_le_add (Nat.le_refl 1) s1
  · omega
theorem decP_tail (n : Int) (h0 : -9223372036854775808 ≤ n) (h1 : n ≤ 9223372036854775807) : ∃ s : ByteArray, decP n = s ++ ⟨#[dch (n.natAbs % 10)]⟩ ∧ wrap64 (s.size : Int) = s.size ∧ ((0 ≤ (s.size : Int) ∧ (s.size : Int) < (s.size : Int) + 1) = True) := by
  obtain ⟨s, hs⟩ := decP_last n
  have h := decP_size n h0 h1
  rw [hs, ByteArray.size_append] at h
  exact ⟨s, hs, wrap_nat (by omega) (by omega), eq_true ⟨by omega, by omega⟩⟩
end Go.Proofs.Ytkegdcnnankokaa.PGad
