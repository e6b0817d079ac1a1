/-
prog.of, prog.Name, prog.isReg, prog.number: what they answer.
-/
import Derived.Test.YtkegdcnnankokaaBase
namespace Go.Proofs.Ytkegdcnnankokaa
set_option linter.unusedVariables false
set_option linter.unusedSimpArgs false
open Go.RowKit

def shA (op : Int) : Bool := op != 4 && op != 6
def shB (op : Int) : Bool := op == 2 || op == 3 || op == 8
def shN (op : Int) : Bool := op == 1 || op == 4 || op == 5 || op == 7 || op == 9 || op == 10 || op == 12


def ofPost (w : World) (a b n : Bool) (e : Ending) (w' : World) : Prop := e = .returned (.agg #[.bool a, .bool b, .bool n]) ∧ Below w.heap.size w w'

set_option maxHeartbeats 4000000 in
theorem of_lit (op : Int) (w : World) (h : op = 2 ∨ op = 3 ∨ op = 8 ∨ op = 4 ∨ op = 6 ∨ op = 1 ∨ op = 5 ∨ op = 7 ∨ op = 9 ∨ op = 10 ∨ op = 12) :
    Calls Try.prog 94 #[.int .i64 op] w (ofPost w (shA op) (shB op) (shN op)) := by
  rcases h with rfl | rfl | rfl | rfl | rfl | rfl | rfl | rfl | rfl | rfl | rfl
  all_goals
    go_enter Try.func94, Try.ntmps94
    go_wp2
    refine bodyPost_ret (v := .agg #[_, _, _]) (by simp [results, Try.results94, go_sem] <;> first | rfl | decide) rfl ⟨rfl, ?_⟩
    repeat (first | exact bel_refl _ | with_reducible apply bel_alloc | with_reducible apply bel_ext | with_reducible apply bel_drew | with_reducible apply bel_drewN | ((with_reducible refine bel_set ?_ (by simp <;> omega))) | ((with_reducible refine bel_trans ?_ (by assumption))))

set_option maxHeartbeats 4000000 in
theorem of_other (op : Int) (w : World) (h2 : (op == 2) = false) (h3 : (op == 3) = false) (h8 : (op == 8) = false) (h4 : (op == 4) = false) (h6 : (op == 6) = false) (h1 : (op == 1) = false) (h5 : (op == 5) = false) (h7 : (op == 7) = false) (h9 : (op == 9) = false) (h10 : (op == 10) = false) (h12 : (op == 12) = false) :
    Calls Try.prog 94 #[.int .i64 op] w (ofPost w (shA op) (shB op) (shN op)) := by
  have e1 : shA op = true := by simp only [shA, bne, h4, h6]; rfl
  have e2 : shB op = false := by simp only [shB, h2, h3, h8]; rfl
  have e3 : shN op = false := by simp only [shN, h1, h4, h5, h7, h9, h10, h12]; rfl
  rw [e1, e2, e3]
  clear e1 e2 e3
  go_enter Try.func94, Try.ntmps94
  go_wp2
  refine bodyPost_ret (v := .agg #[_, _, _]) (by simp [results, Try.results94, go_sem] <;> first | rfl | decide) rfl ⟨rfl, ?_⟩
  repeat (first | exact bel_refl _ | with_reducible apply bel_alloc | with_reducible apply bel_ext | with_reducible apply bel_drew | with_reducible apply bel_drewN | ((with_reducible refine bel_set ?_ (by simp <;> omega))) | ((with_reducible refine bel_trans ?_ (by assumption))))

theorem of_any (op : Int) (w : World) : Calls Try.prog 94 #[.int .i64 op] w (ofPost w (shA op) (shB op) (shN op)) := by
  by_cases h : op = 2 ∨ op = 3 ∨ op = 8 ∨ op = 4 ∨ op = 6 ∨ op = 1 ∨ op = 5 ∨ op = 7 ∨ op = 9 ∨ op = 10 ∨ op = 12
  · exact of_lit op w h
  · refine of_other op w ?_ ?_ ?_ ?_ ?_ ?_ ?_ ?_ ?_ ?_ ?_ <;> exact beq_eq_false_iff_ne.2 (by omega)

/-! Name: what counts is whether it is empty -/
def opOK (op : Int) : Prop := 1 ≤ op ∧ op ≤ 14
def namePost (w : World) (good : Bool) (e : Ending) (w' : World) : Prop := ∃ s : ByteArray, e = .returned (.string s) ∧ s.toList.isEmpty = !good ∧ Below w.heap.size w w'

set_option maxHeartbeats 8000000 in
theorem name_good (op : Int) (w : World) (h : op = 1 ∨ op = 2 ∨ op = 3 ∨ op = 4 ∨ op = 5 ∨ op = 6 ∨ op = 7 ∨ op = 8 ∨ op = 9 ∨ op = 10 ∨ op = 11 ∨ op = 12 ∨ op = 13 ∨ op = 14) :
    Calls Try.prog 95 #[.int .i64 op] w (namePost w true) := by
  rcases h with rfl | rfl | rfl | rfl | rfl | rfl | rfl | rfl | rfl | rfl | rfl | rfl | rfl | rfl
  all_goals
    go_enter Try.func95, Try.ntmps95
    go_wp2
    go_ret
    refine ⟨_, rfl, by decide +kernel, ?_⟩
    repeat (first | exact bel_refl _ | with_reducible apply bel_alloc | with_reducible apply bel_ext | with_reducible apply bel_drew | with_reducible apply bel_drewN | ((with_reducible refine bel_set ?_ (by simp <;> omega))) | ((with_reducible refine bel_trans ?_ (by assumption))))

set_option maxHeartbeats 4000000 in
theorem name_bad (op : Int) (w : World) (h : op < 1 ∨ 14 < op) :
    Calls Try.prog 95 #[.int .i64 op] w (namePost w false) := by
  rcases h with h | h
  · go_enter Try.func95, Try.ntmps95
    go_wp2
    go_ret
    refine ⟨_, rfl, by decide +kernel, ?_⟩
    repeat (first | exact bel_refl _ | with_reducible apply bel_alloc | with_reducible apply bel_ext | with_reducible apply bel_drew | with_reducible apply bel_drewN | ((with_reducible refine bel_set ?_ (by simp <;> omega))) | ((with_reducible refine bel_trans ?_ (by assumption))))
  · have h' : ¬ op < 1 := by omega
    have h'' : 15 ≤ op := by omega
    go_enter Try.func95, Try.ntmps95
    go_wp2
    go_ret
    refine ⟨_, rfl, by decide +kernel, ?_⟩
    repeat (first | exact bel_refl _ | with_reducible apply bel_alloc | with_reducible apply bel_ext | with_reducible apply bel_drew | with_reducible apply bel_drewN | ((with_reducible refine bel_set ?_ (by simp <;> omega))) | ((with_reducible refine bel_trans ?_ (by assumption))))

/-! isReg -/
def regOK (had : Bool) (r : Int) : Bool := r == 0 || (had && decide (0 < r) && decide (r < 4))
def boolPost (w : World) (b : Bool) (e : Ending) (w' : World) : Prop := e = .returned (.bool b) ∧ w = w'

set_option maxHeartbeats 4000000 in
theorem isReg_any (had : Bool) (r : Int) (w : World) : Calls Try.prog 96 #[.bool had, .int .i64 r] w (boolPost w (regOK had r)) := by
  by_cases h0 : r = 0
  · subst h0
    have e : regOK had 0 = true := by simp [regOK]
    rw [e]; clear e
    go_enter Try.func96, Try.ntmps96
    go_wp2
    go_ret
    exact ⟨rfl, rfl⟩
  · have h0' : (r == 0) = false := beq_eq_false_iff_ne.2 h0
    cases had with
    | false =>
      have e : regOK false r = false := by simp [regOK, h0]
      rw [e]; clear e
      go_enter Try.func96, Try.ntmps96
      go_wp2
      go_ret
      exact ⟨rfl, rfl⟩
    | true =>
      by_cases h1 : 0 < r
      · by_cases h2 : r < 4
        · have e : regOK true r = true := by simp [regOK, h1, h2]
          rw [e]; clear e
          go_enter Try.func96, Try.ntmps96
          go_wp2
          go_ret
          exact ⟨rfl, rfl⟩
        · have e : regOK true r = false := by simp [regOK, h0, h2]
          rw [e]; clear e
          go_enter Try.func96, Try.ntmps96
          go_wp2
          go_ret
          exact ⟨rfl, rfl⟩
      · have e : regOK true r = false := by simp [regOK, h0, h1]
        rw [e]; clear e
        go_enter Try.func96, Try.ntmps96
        go_wp2
        go_ret
        exact ⟨rfl, rfl⟩

/-! number -/
def mostN (op : Int) : Int := if op = 7 ∨ op = 12 ∨ op = 9 ∨ op = 10 then 15 else 0
def numErr (op n len : Int) : Int :=
  if op = 1 then 0 else if op = 4 ∨ op = 5 then (if n < 0 ∨ len ≤ n then 32 else 0) else if n < 0 ∨ mostN op < n then 26 else 0
def intPost (w : World) (x : Int) (e : Ending) (w' : World) : Prop := e = .returned (.int .i64 x) ∧ Below w.heap.size w w'

set_option maxHeartbeats 4000000 in
theorem number_set (a b n len : Int) (w : World) :
    Calls Try.prog 97 #[.agg #[.int .i64 1, .int .i64 a, .int .i64 b, .int .i32 n], .int .i64 len] w (intPost w (numErr 1 n len)) := by
  go_enter Try.func97, Try.ntmps97
  go_wp2
  go_ret
  refine ⟨rfl, ?_⟩
  repeat (first | exact bel_refl _ | with_reducible apply bel_alloc | with_reducible apply bel_ext | with_reducible apply bel_drew | with_reducible apply bel_drewN | ((with_reducible refine bel_set ?_ (by simp <;> omega))) | ((with_reducible refine bel_trans ?_ (by assumption))))

set_option maxHeartbeats 4000000 in
theorem number_jump (op a b n len : Int) (w : World) (hn : -2147483648 ≤ n) (hn' : n ≤ 2147483647) (h : op = 4 ∨ op = 5) :
    Calls Try.prog 97 #[.agg #[.int .i64 op, .int .i64 a, .int .i64 b, .int .i32 n], .int .i64 len] w (intPost w (numErr op n len)) := by
  have e0 : numErr op n len = if n < 0 ∨ len ≤ n then 32 else 0 := by rcases h with rfl | rfl <;> simp [numErr]
  rw [e0]; clear e0
  by_cases h1 : n < 0
  · rw [if_pos (.inl h1)]
    rcases h with rfl | rfl
    all_goals
      go_enter Try.func97, Try.ntmps97
      go_wp2
      go_ret
      refine ⟨rfl, ?_⟩
      repeat (first | exact bel_refl _ | with_reducible apply bel_alloc | with_reducible apply bel_ext | with_reducible apply bel_drew | with_reducible apply bel_drewN | ((with_reducible refine bel_set ?_ (by simp <;> omega))) | ((with_reducible refine bel_trans ?_ (by assumption))))
  · by_cases h2 : len ≤ n
    · rw [if_pos (.inr h2)]
      rcases h with rfl | rfl
      all_goals
        go_enter Try.func97, Try.ntmps97
        go_wp2
        go_ret
        refine ⟨rfl, ?_⟩
        repeat (first | exact bel_refl _ | with_reducible apply bel_alloc | with_reducible apply bel_ext | with_reducible apply bel_drew | with_reducible apply bel_drewN | ((with_reducible refine bel_set ?_ (by simp <;> omega))) | ((with_reducible refine bel_trans ?_ (by assumption))))
    · rw [if_neg (by omega)]
      rcases h with rfl | rfl
      all_goals
        go_enter Try.func97, Try.ntmps97
        go_wp2
        go_ret
        refine ⟨rfl, ?_⟩
        repeat (first | exact bel_refl _ | with_reducible apply bel_alloc | with_reducible apply bel_ext | with_reducible apply bel_drew | with_reducible apply bel_drewN | ((with_reducible refine bel_set ?_ (by simp <;> omega))) | ((with_reducible refine bel_trans ?_ (by assumption))))

set_option maxHeartbeats 8000000 in
theorem number_small (op a b n len : Int) (w : World) (hn : -2147483648 ≤ n) (hn' : n ≤ 2147483647) (h : op = 7 ∨ op = 12 ∨ op = 9 ∨ op = 10) :
    Calls Try.prog 97 #[.agg #[.int .i64 op, .int .i64 a, .int .i64 b, .int .i32 n], .int .i64 len] w (intPost w (numErr op n len)) := by
  have e0 : numErr op n len = if n < 0 ∨ 15 < n then 26 else 0 := by rcases h with rfl | rfl | rfl | rfl <;> simp [numErr, mostN]
  rw [e0]; clear e0
  by_cases h1 : n < 0
  · rw [if_pos (.inl h1)]
    rcases h with rfl | rfl | rfl | rfl
    all_goals
      go_enter Try.func97, Try.ntmps97
      go_wp2
      go_ret
      refine ⟨rfl, ?_⟩
      repeat (first | exact bel_refl _ | with_reducible apply bel_alloc | with_reducible apply bel_ext | with_reducible apply bel_drew | with_reducible apply bel_drewN | ((with_reducible refine bel_set ?_ (by simp <;> omega))) | ((with_reducible refine bel_trans ?_ (by assumption))))
  · by_cases h2 : 15 < n
    · rw [if_pos (.inr h2)]
      rcases h with rfl | rfl | rfl | rfl
      all_goals
        go_enter Try.func97, Try.ntmps97
        go_wp2
        go_ret
        refine ⟨rfl, ?_⟩
        repeat (first | exact bel_refl _ | with_reducible apply bel_alloc | with_reducible apply bel_ext | with_reducible apply bel_drew | with_reducible apply bel_drewN | ((with_reducible refine bel_set ?_ (by simp <;> omega))) | ((with_reducible refine bel_trans ?_ (by assumption))))
    · rw [if_neg (by omega)]
      rcases h with rfl | rfl | rfl | rfl
      all_goals
        go_enter Try.func97, Try.ntmps97
        go_wp2
        go_ret
        refine ⟨rfl, ?_⟩
        repeat (first | exact bel_refl _ | with_reducible apply bel_alloc | with_reducible apply bel_ext | with_reducible apply bel_drew | with_reducible apply bel_drewN | ((with_reducible refine bel_set ?_ (by simp <;> omega))) | ((with_reducible refine bel_trans ?_ (by assumption))))

set_option maxHeartbeats 4000000 in
theorem number_other (op a b n len : Int) (w : World) (hn : -2147483648 ≤ n) (hn' : n ≤ 2147483647)
    (g1 : (op == 1) = false) (g4 : (op == 4) = false) (g5 : (op == 5) = false) (g7 : (op == 7) = false) (g12 : (op == 12) = false) (g9 : (op == 9) = false) (g10 : (op == 10) = false) :
    Calls Try.prog 97 #[.agg #[.int .i64 op, .int .i64 a, .int .i64 b, .int .i32 n], .int .i64 len] w (intPost w (numErr op n len)) := by
  have e0 : numErr op n len = if n < 0 ∨ 0 < n then 26 else 0 := by
    simp only [beq_eq_false_iff_ne] at g1 g4 g5 g7 g12 g9 g10
    simp [numErr, mostN, g1, g4, g5, g7, g12, g9, g10]
  rw [e0]; clear e0
  by_cases h1 : n < 0
  · rw [if_pos (.inl h1)]
    go_enter Try.func97, Try.ntmps97
    go_wp2
    go_ret
    refine ⟨rfl, ?_⟩
    repeat (first | exact bel_refl _ | with_reducible apply bel_alloc | with_reducible apply bel_ext | with_reducible apply bel_drew | with_reducible apply bel_drewN | ((with_reducible refine bel_set ?_ (by simp <;> omega))) | ((with_reducible refine bel_trans ?_ (by assumption))))
  · by_cases h2 : 0 < n
    · rw [if_pos (.inr h2)]
      go_enter Try.func97, Try.ntmps97
      go_wp2
      go_ret
      refine ⟨rfl, ?_⟩
      repeat (first | exact bel_refl _ | with_reducible apply bel_alloc | with_reducible apply bel_ext | with_reducible apply bel_drew | with_reducible apply bel_drewN | ((with_reducible refine bel_set ?_ (by simp <;> omega))) | ((with_reducible refine bel_trans ?_ (by assumption))))
    · rw [if_neg (by omega)]
      go_enter Try.func97, Try.ntmps97
      go_wp2
      go_ret
      refine ⟨rfl, ?_⟩
      repeat (first | exact bel_refl _ | with_reducible apply bel_alloc | with_reducible apply bel_ext | with_reducible apply bel_drew | with_reducible apply bel_drewN | ((with_reducible refine bel_set ?_ (by simp <;> omega))) | ((with_reducible refine bel_trans ?_ (by assumption))))

theorem number_any (op a b n len : Int) (w : World) (hn : -2147483648 ≤ n) (hn' : n ≤ 2147483647) :
    Calls Try.prog 97 #[.agg #[.int .i64 op, .int .i64 a, .int .i64 b, .int .i32 n], .int .i64 len] w (intPost w (numErr op n len)) := by
  by_cases h1 : op = 1
  · subst h1; exact number_set a b n len w
  by_cases h2 : op = 4 ∨ op = 5
  · exact number_jump op a b n len w hn hn' h2
  by_cases h3 : op = 7 ∨ op = 12 ∨ op = 9 ∨ op = 10
  · exact number_small op a b n len w hn hn' h3
  refine number_other op a b n len w hn hn' ?_ ?_ ?_ ?_ ?_ ?_ ?_ <;> exact beq_eq_false_iff_ne.2 (by omega)

end Go.Proofs.Ytkegdcnnankokaa
