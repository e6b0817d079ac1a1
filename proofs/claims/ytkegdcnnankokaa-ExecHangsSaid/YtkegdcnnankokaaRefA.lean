/-
The reference's Shape, Has and reg (package pinfoldref09): what they answer.
-/
import Derived.Test.YtkegdcnnankokaaPrCheck
import Derived.Deep.QuietTactic
import Derived.BigQuiet
import Derived.Deep.RegionWith
namespace Go.Proofs.Ytkegdcnnankokaa
set_option linter.unusedVariables false
set_option linter.unusedSimpArgs false
open Go.RowKit

def sA : ByteArray := ⟨#[65]⟩
def sAN : ByteArray := ⟨#[65, 78]⟩
def sAB : ByteArray := ⟨#[65, 66]⟩
def sN : ByteArray := ⟨#[78]⟩
def sNone : ByteArray := ⟨#[]⟩
def shapeS (op : Int) : ByteArray :=
  if shB op = true then sAB else if shN op = true then (if shA op = true then sAN else sN) else if shA op = true then sA else sNone

def strPost (w : World) (s : ByteArray) (e : Ending) (w' : World) : Prop := e = .returned (.string s) ∧ Below w.heap.size w w'

set_option maxHeartbeats 4000000 in
theorem shape_lit (op : Int) (w : World) (h : op = 1 ∨ op = 2 ∨ op = 3 ∨ op = 4 ∨ op = 5 ∨ op = 6 ∨ op = 7 ∨ op = 8 ∨ op = 9 ∨ op = 10 ∨ op = 11 ∨ op = 12 ∨ op = 13 ∨ op = 14) :
    Calls Try.prog 80 #[.int .i64 op] w (strPost w (shapeS op)) := by
  rcases h with rfl | rfl | rfl | rfl | rfl | rfl | rfl | rfl | rfl | rfl | rfl | rfl | rfl | rfl
  all_goals
    go_enter Try.func80, Try.ntmps80
    go_wp2
    go_ret
    refine ⟨rfl, ?_⟩
    repeat (first | exact bel_refl _ | with_reducible apply bel_alloc | with_reducible apply bel_ext | with_reducible apply bel_drew | with_reducible apply bel_drewN | ((with_reducible refine bel_set ?_ (by simp <;> omega))) | ((with_reducible refine bel_trans ?_ (by assumption))))

set_option maxHeartbeats 1000000 in
theorem shape_other (op : Int) (w : World) (h : op < 1 ∨ 14 < op) :
    Calls Try.prog 80 #[.int .i64 op] w (strPost w (shapeS op)) := by
  have e : shapeS op = sA := by
    have h1 : shB op = false := by simp [shB]; omega
    have h2 : shN op = false := by simp [shN]; omega
    have h3 : shA op = true := by simp [shA]; omega
    simp [shapeS, h1, h2, h3]
  rw [e]; clear e
  rcases h with h | h
  · go_enter Try.func80, Try.ntmps80
    go_wp2
    go_ret
    refine ⟨rfl, ?_⟩
    repeat (first | exact bel_refl _ | with_reducible apply bel_alloc | with_reducible apply bel_ext | with_reducible apply bel_drew | with_reducible apply bel_drewN | ((with_reducible refine bel_set ?_ (by simp <;> omega))) | ((with_reducible refine bel_trans ?_ (by assumption))))
  · have h' : ¬ op < 1 := by omega
    go_enter Try.func80, Try.ntmps80
    go_wp2
    go_ret
    refine ⟨rfl, ?_⟩
    repeat (first | exact bel_refl _ | with_reducible apply bel_alloc | with_reducible apply bel_ext | with_reducible apply bel_drew | with_reducible apply bel_drewN | ((with_reducible refine bel_set ?_ (by simp <;> omega))) | ((with_reducible refine bel_trans ?_ (by assumption))))

theorem shape_any (op : Int) (w : World) : Calls Try.prog 80 #[.int .i64 op] w (strPost w (shapeS op)) := by
  by_cases h : op < 1 ∨ 14 < op
  · exact shape_other op w h
  · exact shape_lit op w (by omega)

/-! Has -/
def hasB (l : List UInt8) (c : Nat) : Bool := l.any fun x => x.toNat == c
theorem hasB_take (s : ByteArray) (c : Nat) (k : Nat) (h : k < s.size) (h0 : hasB (s.data.toList.take k) c = false) (h1 : s[k].toNat ≠ c) : hasB (s.data.toList.take (k + 1)) c = false := by
  have e : s.data.toList.take (k + 1) = s.data.toList.take k ++ [s[k]] := by
    rw [List.take_succ_eq_append_getElem (by simpa using h)]; rfl
  rw [e]
  simp only [hasB, List.any_append] at *
  rw [h0]
  simp [h1]
theorem hasB_at (s : ByteArray) (c : Nat) (k : Nat) (h : k < s.size) (h1 : s[k].toNat = c) : hasB s.data.toList c = true := by
  simp only [hasB, List.any_eq_true]
  exact ⟨s[k], by exact List.getElem_mem (l := s.data.toList) (n := k) (by simpa using h), by simp [h1]⟩

set_option maxHeartbeats 1000000 in
theorem has_any (s : ByteArray) (c : Nat) (w : World) (hs : s.size ≤ 100) (hc : c < 256) :
    Calls Try.prog 82 #[.string s, .int .u8 c] w fun e w' => e = .returned (.bool (hasB s.data.toList c)) ∧ w' = w := by
  go_enter Try.func82, Try.ntmps82
  go_wp2_with fail
  go_loop [5] (fun i => ∃ k : Nat, k ≤ s.size ∧ i = .int .i64 k ∧ hasB (s.data.toList.take k) c = false) (fun i => s.size - (intOf i).toNat)
  case atStart => exact ⟨0, Nat.zero_le _, rfl, by simp [hasB]⟩
  case round =>
    obtain ⟨k, hk, rfl, hno⟩ := hrel
    have Hno := Lib.hid hno
    clear hno
    by_cases hlt : k < s.size
    · by_cases he : s[k].toNat = c
      · have hfin := hasB_at s c k hlt he
        have Hfin := Lib.hid hfin
        have he' : ((s[k].toNat : Int) == (c : Int)) = true := beq_iff_eq.2 (by omega)
        clear hfin he
        go_wp2_with fail
        go_ret
        exact ⟨by rw [Hfin.out]; rfl, rfl⟩
      · have he' : ((s[k].toNat : Int) == (c : Int)) = false := beq_eq_false_iff_ne.2 (by omega)
        have hn := hasB_take s c k hlt Hno.out he
        have Hn := Lib.hid hn
        clear hn he
        go_wp2_with fail
        go_round
        case rel => exact ⟨k + 1, by omega, by go_num, Hn.out⟩
        case measure => simp [intOf]; omega
    · obtain rfl : k = s.size := by omega
      have hfin : hasB s.data.toList c = false := by
        have := Hno.out
        rwa [List.take_of_length_le (by simp)] at this
      have Hfin := Lib.hid hfin
      clear hfin
      go_wp2_with fail
      go_ret
      exact ⟨by rw [Hfin.out]; rfl, rfl⟩

theorem shapeS_size (op : Int) : (shapeS op).size ≤ 100 := by
  unfold shapeS; repeat' split
  all_goals decide
theorem shape_cases (op : Int) : (shB op = true ∧ shA op = true ∧ shN op = false) ∨ (shB op = false) := by
  by_cases h : shB op = true
  · left; refine ⟨h, ?_⟩
    simp [shB] at h
    rcases h with (rfl | rfl) | rfl <;> decide
  · right; simpa using h
theorem has65 (op : Int) : hasB (shapeS op).data.toList 65 = shA op := by
  rcases shape_cases op with ⟨h1, h2, h3⟩ | h1
  · simp only [shapeS, h1, h2, if_true]; decide
  · cases h2 : shN op <;> cases h3 : shA op <;> simp only [shapeS, h1, h2, h3, if_true, Bool.false_eq_true, if_false] <;> decide
theorem has66 (op : Int) : hasB (shapeS op).data.toList 66 = shB op := by
  rcases shape_cases op with ⟨h1, h2, h3⟩ | h1
  · simp only [shapeS, h1, if_true]; decide
  · cases h2 : shN op <;> cases h3 : shA op <;> simp only [shapeS, h1, h2, h3, if_true, Bool.false_eq_true, if_false] <;> decide
theorem has78 (op : Int) : hasB (shapeS op).data.toList 78 = shN op := by
  rcases shape_cases op with ⟨h1, h2, h3⟩ | h1
  · simp only [shapeS, h1, h3, if_true]; decide
  · cases h2 : shN op <;> cases h3 : shA op <;> simp only [shapeS, h1, h2, h3, if_true, Bool.false_eq_true, if_false] <;> decide

theorem hasA (op : Int) (w : World) : Calls Try.prog 82 #[.string (shapeS op), .int .u8 65] w fun e w' => e = .returned (.bool (shA op)) ∧ w' = w := by
  rw [← has65]; exact has_any (shapeS op) 65 w (shapeS_size op) (by omega)
theorem hasBB (op : Int) (w : World) : Calls Try.prog 82 #[.string (shapeS op), .int .u8 66] w fun e w' => e = .returned (.bool (shB op)) ∧ w' = w := by
  rw [← has66]; exact has_any (shapeS op) 66 w (shapeS_size op) (by omega)
theorem hasN (op : Int) (w : World) : Calls Try.prog 82 #[.string (shapeS op), .int .u8 78] w fun e w' => e = .returned (.bool (shN op)) ∧ w' = w := by
  rw [← has78]; exact has_any (shapeS op) 78 w (shapeS_size op) (by omega)

/-! reg -/
set_option maxHeartbeats 1000000 in
theorem reg_any (had : Bool) (r : Int) (w : World) : Calls Try.prog 81 #[.bool had, .int .i64 r] w fun e w' => e = .returned (.bool (!regOK had r)) ∧ w' = w := by
  by_cases h0 : r = 0
  · subst h0
    have e : (!regOK had 0) = false := by simp [regOK]
    rw [e]; clear e
    go_enter Try.func81, Try.ntmps81
    go_wp2
    go_ret
    exact ⟨rfl, rfl⟩
  · have h0' : (r != 0) = true := by rw [bne_iff_ne]; exact h0
    cases had with
    | false =>
      have e : (!regOK false r) = true := by simp [regOK, h0]
      rw [e]; clear e
      go_enter Try.func81, Try.ntmps81
      go_wp2
      go_ret
      exact ⟨rfl, rfl⟩
    | true =>
      by_cases h1 : r < 0
      · have e : (!regOK true r) = true := by simp [regOK, h0]; omega
        rw [e]; clear e
        go_enter Try.func81, Try.ntmps81
        go_wp2
        go_ret
        exact ⟨rfl, rfl⟩
      · by_cases h2 : r > 3
        · have e : (!regOK true r) = true := by simp [regOK, h0]; omega
          rw [e]; clear e
          go_enter Try.func81, Try.ntmps81
          go_wp2
          go_ret
          exact ⟨rfl, rfl⟩
        · have e : (!regOK true r) = false := by simp [regOK, h0]; omega
          rw [e]; clear e
          go_enter Try.func81, Try.ntmps81
          go_wp2
          go_ret
          exact ⟨rfl, rfl⟩

theorem reg_no (had : Bool) (r : Int) (w : World) (h : regOK had r = false) : Calls Try.prog 81 #[.bool had, .int .i64 r] w fun e w' => e = .returned (.bool true) ∧ w' = w := by
  have := reg_any had r w; rw [h] at this; exact this
theorem reg_yes (had : Bool) (r : Int) (w : World) (h : regOK had r = true) : Calls Try.prog 81 #[.bool had, .int .i64 r] w fun e w' => e = .returned (.bool false) ∧ w' = w := by
  have := reg_any had r w; rw [h] at this; exact this

end Go.Proofs.Ytkegdcnnankokaa
