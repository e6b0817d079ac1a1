/-
Words of 16 bits as numbers, bit by bit.
-/
import Derived.Test.YtgiimdoabkcoaaaPureKit
namespace Go.Proofs.Ytgiimdoabkcoaaa
set_option linter.unusedVariables false
set_option linter.unusedSimpArgs false
open Go.RowKit Go.Proofs.YtgiimdoabkcoaaaW.PrintWords Go.Proofs.YtgiimdoabkcoaaaW.PrintMore

/-- v is a word of 16 bits, and its bits are f. -/
def Bits (v : Int) (f : Nat → Bool) : Prop := ∃ n : Nat, v = (n : Int) ∧ n < 65536 ∧ ∀ j, n.testBit j = f j
theorem Bits.inj {v u : Int} {f : Nat → Bool} (h1 : Bits v f) (h2 : Bits u f) : v = u := by
  obtain ⟨n, rfl, _, hn⟩ := h1
  obtain ⟨m, rfl, _, hm⟩ := h2
  congr 1
  exact Nat.eq_of_testBit_eq (fun i => by rw [hn, hm])
theorem Bits.congr {v : Int} {f g : Nat → Bool} (h : Bits v f) (e : ∀ j, f j = g j) : Bits v g := by
  obtain ⟨n, h1, h2, h3⟩ := h
  exact ⟨n, h1, h2, fun j => by rw [h3, e]⟩
theorem Bits.range {v : Int} {f : Nat → Bool} (h : Bits v f) : 0 ≤ v ∧ v < 65536 := by
  obtain ⟨n, rfl, h2, _⟩ := h
  omega
theorem Bits.high {v : Int} {f : Nat → Bool} (h : Bits v f) {j : Nat} (hj : 16 ≤ j) : f j = false := by
  obtain ⟨n, rfl, h2, h3⟩ := h
  rw [← h3]
  refine Nat.testBit_lt_two_pow (Nat.lt_of_lt_of_le h2 ?_)
  exact Nat.pow_le_pow_right (n := 2) (by omega) hj
theorem Bits.zero : Bits 0 (fun _ => false) := ⟨0, rfl, by omega, fun j => by simp⟩
theorem Bits.eq_zero {v : Int} {f : Nat → Bool} (h : Bits v f) : v = 0 ↔ ∀ j, f j = false := by
  constructor
  · rintro rfl j
    obtain ⟨n, h1, _, h3⟩ := h
    obtain rfl : n = 0 := by omega
    rw [← h3]; simp
  · intro hf
    exact (h.congr hf).inj Bits.zero
theorem wrap_u16 (n : Nat) (h : n < 65536) : IntKind.wrap .u16 (n : Int) = n := by
  simp only [IntKind.wrap, IntKind.bits, IntKind.signed, Bool.false_and, Bool.false_eq_true, if_false]
  omega
theorem ofInt_nat (n : Nat) : (BitVec.ofInt 16 (n : Int)) = BitVec.ofNat 16 n := by
  apply BitVec.eq_of_toNat_eq; simp
theorem or_nat {n m : Nat} (hn : n < 65536) (hm : m < 65536) : Go.bits .or .u16 (n : Int) (m : Int) = ((n ||| m : Nat) : Int) := by
  have e : (BitVec.ofNat 16 n ||| BitVec.ofNat 16 m).toNat = n ||| m := by simp [BitVec.toNat_or, Nat.mod_eq_of_lt hn, Nat.mod_eq_of_lt hm]
  have d : Go.bits .or .u16 (n : Int) (m : Int) = IntKind.wrap .u16 (((BitVec.ofInt 16 (n : Int) ||| BitVec.ofInt 16 (m : Int)).toNat : Nat) : Int) := rfl
  rw [d, ofInt_nat, ofInt_nat, e, wrap_u16 _ (Nat.or_lt_two_pow (n := 16) hn hm)]
theorem and_nat {n m : Nat} (hn : n < 65536) (hm : m < 65536) : Go.bits .and .u16 (n : Int) (m : Int) = ((n &&& m : Nat) : Int) := by
  have e : (BitVec.ofNat 16 n &&& BitVec.ofNat 16 m).toNat = n &&& m := by simp [BitVec.toNat_and, Nat.mod_eq_of_lt hn, Nat.mod_eq_of_lt hm]
  have d : Go.bits .and .u16 (n : Int) (m : Int) = IntKind.wrap .u16 (((BitVec.ofInt 16 (n : Int) &&& BitVec.ofInt 16 (m : Int)).toNat : Nat) : Int) := rfl
  rw [d, ofInt_nat, ofInt_nat, e, wrap_u16 _ (Nat.lt_of_le_of_lt Nat.and_le_left hn)]
theorem Bits.or {v u : Int} {f g : Nat → Bool} (h1 : Bits v f) (h2 : Bits u g) : Bits (Go.bits .or .u16 v u) (fun j => f j || g j) := by
  obtain ⟨n, rfl, hn, hf⟩ := h1
  obtain ⟨m, rfl, hm, hg⟩ := h2
  exact ⟨n ||| m, or_nat hn hm, Nat.or_lt_two_pow (n := 16) hn hm, fun j => by rw [Nat.testBit_or, hf, hg]⟩
theorem Bits.and {v u : Int} {f g : Nat → Bool} (h1 : Bits v f) (h2 : Bits u g) : Bits (Go.bits .and .u16 v u) (fun j => f j && g j) := by
  obtain ⟨n, rfl, hn, hf⟩ := h1
  obtain ⟨m, rfl, hm, hg⟩ := h2
  exact ⟨n &&& m, and_nat hn hm, Nat.lt_of_le_of_lt Nat.and_le_left hn, fun j => by rw [Nat.testBit_and, hf, hg]⟩
theorem Bits.andNot {v u : Int} {f g : Nat → Bool} (h1 : Bits v f) (h2 : Bits u g) : Bits (Go.bits .andNot .u16 v u) (fun j => f j && !g j) := by
  obtain ⟨n, rfl, hn, hf⟩ := h1
  obtain ⟨m, rfl, hm, hg⟩ := h2
  have hlt : (BitVec.ofNat 16 n &&& ~~~ BitVec.ofNat 16 m).toNat < 65536 := (BitVec.ofNat 16 n &&& ~~~ BitVec.ofNat 16 m).isLt
  refine ⟨(BitVec.ofNat 16 n &&& ~~~ BitVec.ofNat 16 m).toNat, ?_, hlt, fun j => ?_⟩
  · have d : Go.bits .andNot .u16 (n : Int) (m : Int) = IntKind.wrap .u16 (((BitVec.ofInt 16 (n : Int) &&& ~~~ BitVec.ofInt 16 (m : Int)).toNat : Nat) : Int) := rfl
    rw [d, ofInt_nat, ofInt_nat, wrap_u16 _ hlt]
  · rw [BitVec.testBit_toNat, BitVec.getLsbD_and, BitVec.getLsbD_not, BitVec.getLsbD_ofNat, BitVec.getLsbD_ofNat, hf, hg]
    by_cases hj : j < 16
    · simp [hj]
    · have : f j = false := by
        rw [← hf]
        exact Nat.testBit_lt_two_pow (Nat.lt_of_lt_of_le hn (Nat.pow_le_pow_right (n := 2) (by omega) (by omega : 16 ≤ j)))
      simp [this]
theorem shl_one (k : Nat) (hk : k < 16) : shl .u16 1 (k : Int) = ((2 ^ k : Nat) : Int) := by
  unfold shl
  rw [Int.toNat_natCast, show min k (IntKind.bits .u16) = k by simp [IntKind.bits]; omega, Int.one_mul]
  have : (2 : Nat) ^ k < 65536 := Nat.pow_lt_pow_right (a := 2) (by omega) hk
  rw [← wrap_u16 (2 ^ k) this]
  push_cast
  rfl
theorem Bits.one (k : Nat) (hk : k < 16) : Bits (shl .u16 1 (k : Int)) (fun j => decide (j = k)) := by
  refine ⟨2 ^ k, shl_one k hk, Nat.pow_lt_pow_right (a := 2) (by omega) hk, fun j => ?_⟩
  rw [Nat.testBit_two_pow]
  by_cases h : k = j
  · simp [h]
  · simp [h, Ne.symm h]
/-- one more bit, ahead of all that are set. -/
theorem Bits.add {v : Int} {f : Nat → Bool} {k : Nat} (hk : k < 16) (h : Bits v f) (hf : ∀ j, k ≤ j → f j = false) : Bits (IntKind.wrap .u16 (v + shl .u16 1 (k : Int))) (fun j => f j || decide (j = k)) := by
  obtain ⟨n, rfl, hn, hb⟩ := h
  have hnk : n < 2 ^ k := Nat.lt_pow_two_of_testBit n (fun i hi => by rw [hb, hf i hi])
  have hle : (2 : Nat) ^ (k + 1) ≤ 2 ^ 16 := Nat.pow_le_pow_right (by omega) (by omega)
  have hlt : n + 2 ^ k < 65536 := by rw [Nat.pow_succ] at hle; omega
  refine ⟨n + 2 ^ k, ?_, hlt, fun j => ?_⟩
  · rw [shl_one k hk, ← Int.natCast_add, wrap_u16 _ hlt]
  · rw [Nat.add_comm]
    by_cases h1 : j = k
    · subst h1; rw [Nat.testBit_two_pow_add_eq, hb, hf j (Nat.le_refl _)]; simp
    · by_cases h2 : j < k
      · rw [Nat.testBit_two_pow_add_gt h2, hb]; simp [h1]
      · have h3 := hf j (by omega)
        simp only [h1, h3, decide_false, Bool.or_false]
        refine Nat.testBit_lt_two_pow (Nat.lt_of_lt_of_le (show 2 ^ k + n < 2 ^ (k + 1) by rw [Nat.pow_succ]; omega) (Nat.pow_le_pow_right (by omega) (by omega)))
/-- all bits below k. -/
theorem Bits.below (k : Nat) (hk : k ≤ 16) : Bits (IntKind.wrap .u16 (shl .u16 1 (k : Int) - 1)) (fun j => decide (j < k)) := by
  have h16 : (2 : Nat) ^ k ≤ 2 ^ 16 := Nat.pow_le_pow_right (by omega) hk
  have hp : 0 < 2 ^ k := Nat.two_pow_pos k
  refine ⟨2 ^ k - 1, ?_, by omega, fun j => by rw [Nat.testBit_two_pow_sub_one]⟩
  by_cases h : k < 16
  · rw [shl_one k h, show (((2 ^ k : Nat) : Int) - 1) = ((2 ^ k - 1 : Nat) : Int) by omega, wrap_u16 _ (by omega)]
  · obtain rfl : k = 16 := by omega
    decide
theorem or_le {v u : Int} {f g : Nat → Bool} (h1 : Bits v f) (h2 : Bits u g) : v ≤ Go.bits .or .u16 v u := by
  obtain ⟨n, rfl, hn, hf⟩ := h1
  obtain ⟨m, rfl, hm, hg⟩ := h2
  rw [or_nat hn hm]
  exact Int.ofNat_le.2 Nat.left_le_or
theorem and_le {v u : Int} {f g : Nat → Bool} (h1 : Bits v f) (h2 : Bits u g) : Go.bits .and .u16 v u ≤ v := by
  obtain ⟨n, rfl, hn, hf⟩ := h1
  obtain ⟨m, rfl, hm, hg⟩ := h2
  rw [and_nat hn hm]
  exact Int.ofNat_le.2 Nat.and_le_left
end Go.Proofs.Ytgiimdoabkcoaaa
