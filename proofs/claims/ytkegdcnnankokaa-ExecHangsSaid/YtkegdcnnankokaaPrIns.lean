/-
prog.ins: what is wrong with an instruction.
-/
import Derived.Test.YtkegdcnnankokaaPrA
namespace Go.Proofs.Ytkegdcnnankokaa
set_option linter.unusedVariables false
set_option linter.unusedSimpArgs false
open Go.RowKit

def insErr (op a b n len : Int) : Int :=
  if ¬ (1 ≤ op ∧ op ≤ 14) then 30 else if regOK (shA op) a = false ∨ regOK (shB op) b = false then 31 else numErr op n len

set_option maxHeartbeats 1000000 in
theorem ins_op (op a b n len : Int) (w : World) (h : op < 1 ∨ 14 < op) :
    Calls Try.prog 79 #[.agg #[.int .i64 op, .int .i64 a, .int .i64 b, .int .i32 n], .int .i64 len] w (intPost w 30) := by
  go_enter Try.func79, Try.ntmps79
  go_wp2_with fail
  refine (of_any _ _).mono ?_
  rintro e w1 ⟨rfl, hbw1⟩
  obtain ⟨hcw1, hfw1⟩ := bcell hbw1; have hsw1 := hbw1.size; simp only [World.size_alloc] at hsw1; have hzw1 : w.heap.size < w1.heap.size := by omega
  go_wp2_with fail
  refine (name_bad _ _ h).mono ?_
  rintro e w2 ⟨s, rfl, hs, hbw2⟩
  obtain ⟨hcw2, hfw2⟩ := bcell hbw2; have hsw2 := hbw2.size; simp only [World.size_alloc] at hsw2; have hzw2 : w.heap.size < w2.heap.size := by omega
  go_wp2_with fail
  go_ret
  refine ⟨rfl, ?_⟩
  clear hcw1 hfw1 hcw2 hfw2
  repeat (first | exact bel_refl _ | with_reducible apply bel_alloc | with_reducible apply bel_ext | with_reducible apply bel_drew | with_reducible apply bel_drewN | ((with_reducible refine bel_set ?_ (by simp <;> omega))) | ((with_reducible refine bel_trans ?_ (by assumption))))

set_option maxHeartbeats 1000000 in
theorem ins_regA (op a b n len : Int) (w : World) (h : 1 ≤ op ∧ op ≤ 14) (ha : regOK (shA op) a = false) :
    Calls Try.prog 79 #[.agg #[.int .i64 op, .int .i64 a, .int .i64 b, .int .i32 n], .int .i64 len] w (intPost w 31) := by
  have hn := name_good op
  go_enter Try.func79, Try.ntmps79
  go_wp2_with fail
  refine (of_any _ _).mono ?_
  rintro e w1 ⟨rfl, hbw1⟩
  obtain ⟨hcw1, hfw1⟩ := bcell hbw1; have hsw1 := hbw1.size; simp only [World.size_alloc] at hsw1; have hzw1 : w.heap.size < w1.heap.size := by omega
  go_wp2_with fail
  refine (name_good _ _ (by omega)).mono ?_
  rintro e w2 ⟨s, rfl, hs, hbw2⟩
  obtain ⟨hcw2, hfw2⟩ := bcell hbw2; have hsw2 := hbw2.size; simp only [World.size_alloc] at hsw2; have hzw2 : w.heap.size < w2.heap.size := (by omega); have hyw2 : w1.heap.size < w2.heap.size := by omega
  go_wp2_with fail
  refine (isReg_any _ _ _).mono ?_
  rintro e w3 ⟨rfl, rfl⟩
  go_wp2_with fail
  go_ret
  refine ⟨rfl, ?_⟩
  clear hcw1 hfw1 hcw2 hfw2
  repeat (first | exact bel_refl _ | with_reducible apply bel_alloc | with_reducible apply bel_ext | with_reducible apply bel_drew | with_reducible apply bel_drewN | ((with_reducible refine bel_set ?_ (by simp <;> omega))) | ((with_reducible refine bel_trans ?_ (by assumption))))

set_option maxHeartbeats 1000000 in
theorem ins_regB (op a b n len : Int) (w : World) (h : 1 ≤ op ∧ op ≤ 14) (ha : regOK (shA op) a = true) (hb : regOK (shB op) b = false) :
    Calls Try.prog 79 #[.agg #[.int .i64 op, .int .i64 a, .int .i64 b, .int .i32 n], .int .i64 len] w (intPost w 31) := by
  go_enter Try.func79, Try.ntmps79
  go_wp2_with fail
  refine (of_any _ _).mono ?_
  rintro e w1 ⟨rfl, hbw1⟩
  obtain ⟨hcw1, hfw1⟩ := bcell hbw1; have hsw1 := hbw1.size; simp only [World.size_alloc] at hsw1; have hzw1 : w.heap.size < w1.heap.size := by omega
  go_wp2_with fail
  refine (name_good _ _ (by omega)).mono ?_
  rintro e w2 ⟨s, rfl, hs, hbw2⟩
  obtain ⟨hcw2, hfw2⟩ := bcell hbw2; have hsw2 := hbw2.size; simp only [World.size_alloc] at hsw2; have hzw2 : w.heap.size < w2.heap.size := (by omega); have hyw2 : w1.heap.size < w2.heap.size := by omega
  go_wp2_with fail
  refine (isReg_any _ _ _).mono ?_
  rintro e w3 ⟨rfl, rfl⟩
  go_wp2_with fail
  refine (isReg_any _ _ _).mono ?_
  rintro e w3 ⟨rfl, rfl⟩
  go_wp2_with fail
  go_ret
  refine ⟨rfl, ?_⟩
  clear hcw1 hfw1 hcw2 hfw2
  repeat (first | exact bel_refl _ | with_reducible apply bel_alloc | with_reducible apply bel_ext | with_reducible apply bel_drew | with_reducible apply bel_drewN | ((with_reducible refine bel_set ?_ (by simp <;> omega))) | ((with_reducible refine bel_trans ?_ (by assumption))))

set_option maxHeartbeats 1000000 in
theorem ins_num (op a b n len : Int) (w : World) (h : 1 ≤ op ∧ op ≤ 14) (ha : regOK (shA op) a = true) (hb : regOK (shB op) b = true) (hn : -2147483648 ≤ n) (hn' : n ≤ 2147483647) :
    Calls Try.prog 79 #[.agg #[.int .i64 op, .int .i64 a, .int .i64 b, .int .i32 n], .int .i64 len] w (intPost w (numErr op n len)) := by
  go_enter Try.func79, Try.ntmps79
  go_wp2_with fail
  refine (of_any _ _).mono ?_
  rintro e w1 ⟨rfl, hbw1⟩
  obtain ⟨hcw1, hfw1⟩ := bcell hbw1; have hsw1 := hbw1.size; simp only [World.size_alloc] at hsw1; have hzw1 : w.heap.size < w1.heap.size := by omega
  go_wp2_with fail
  refine (name_good _ _ (by omega)).mono ?_
  rintro e w2 ⟨s, rfl, hs, hbw2⟩
  obtain ⟨hcw2, hfw2⟩ := bcell hbw2; have hsw2 := hbw2.size; simp only [World.size_alloc] at hsw2; have hzw2 : w.heap.size < w2.heap.size := (by omega); have hyw2 : w1.heap.size < w2.heap.size := by omega
  go_wp2_with fail
  refine (isReg_any _ _ _).mono ?_
  rintro e w3 ⟨rfl, rfl⟩
  go_wp2_with fail
  refine (isReg_any _ _ _).mono ?_
  rintro e w3 ⟨rfl, rfl⟩
  go_wp2_with fail
  refine (number_any _ _ _ _ _ _ hn hn').mono ?_
  rintro e w3 ⟨rfl, hbw3⟩
  go_wp2_with fail
  go_ret
  refine ⟨rfl, ?_⟩
  clear hcw1 hfw1 hcw2 hfw2
  repeat (first | exact bel_refl _ | with_reducible apply bel_alloc | with_reducible apply bel_ext | with_reducible apply bel_drew | with_reducible apply bel_drewN | ((with_reducible refine bel_set ?_ (by simp <;> omega))) | ((with_reducible refine bel_trans ?_ (by assumption))))

theorem ins_any (op a b n len : Int) (w : World) (hn : -2147483648 ≤ n) (hn' : n ≤ 2147483647) :
    Calls Try.prog 79 #[.agg #[.int .i64 op, .int .i64 a, .int .i64 b, .int .i32 n], .int .i64 len] w (intPost w (insErr op a b n len)) := by
  unfold insErr
  by_cases h : 1 ≤ op ∧ op ≤ 14
  · rw [if_neg (by simpa using h)]
    cases ha : regOK (shA op) a with
    | false => rw [if_pos (.inl rfl)]; exact ins_regA op a b n len w h ha
    | true =>
      cases hb : regOK (shB op) b with
      | false => rw [if_pos (.inr rfl)]; exact ins_regB op a b n len w h ha hb
      | true => rw [if_neg (by simp)]; exact ins_num op a b n len w h ha hb hn hn'
  · rw [if_pos h]; exact ins_op op a b n len w (by omega)

end Go.Proofs.Ytkegdcnnankokaa
