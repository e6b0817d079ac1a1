/-
The document's answer for heap (pinfoldref06), plain.
-/
import Derived.Test.YtkegdcnnankokaaPureKit
import Derived.Test.YtkegdcnnankokaaPHpbx1
namespace Go.Proofs.Ytkegdcnnankokaa.PHpb
set_option linter.unusedVariables false
set_option linter.unusedSimpArgs false
open Go.RowKit Go.Proofs.YtkegdcnnankokaaW.PrintWords Go.Proofs.YtkegdcnnankokaaW.PrintLast Go.Proofs.YtkegdcnnankokaaW.PrintMore
theorem rdr_at {xs : List S130} {i : Nat} (h : i < xs.length) : rd_T130 xs (i : Int) = xs[i] := by simp [rd_T130, List.getElem?_eq_getElem h]
/-- where a thing is. -/
def atP (x : Int) : List S130 → Nat → Int
  | [], _ => -1
  | y :: t, i => if y.f1 = x then (i : Int) else atP x t (i + 1)
theorem atP_drop {x : Int} {l : List S130} {i : Nat} (h : i < l.length) : atP x (l.drop i) i = if l[i].f1 = x then (i : Int) else atP x (l.drop (i + 1)) (i + 1) := by
  rw [List.drop_eq_getElem_cons h]; rfl
theorem at_l0 (x : Int) (l : List S130) (hn : l.length ≤ 1000000) : ∀ (d i : Nat), l.length - i = d → i ≤ l.length → EvP (fun k => pinfoldref06_At.l0 k x l (l.length : Int) (i : Int)) (· = atP x (l.drop i) i) := by
  intro d
  induction d with
  | zero =>
    intro i hd hi
    obtain rfl : i = l.length := by omega
    refine EvP.succ ?_
    simp only [pinfoldref06_At.l0]
    refine EvP.neg (by omega) (EvP.now ?_)
    simp [atP]
  | succ d ih =>
    intro i hd hi
    have hl : i < l.length := by omega
    refine EvP.succ ?_
    simp only [pinfoldref06_At.l0]
    rw [rdr_at hl, wrap_up (by omega), atP_drop hl]
    refine EvP.pos (by omega) (EvP.pos (by omega) (EvP.pos (by omega) (EvP.ite (fun h => EvP.now ?_) (fun h => ?_))))
    · rw [if_pos h]
    · rw [if_neg h]; exact ih (i + 1) (by omega) (by omega)
theorem at_f (x : Int) (l : List S130) (hn : l.length ≤ 1000000) : EvP (fun k => pinfoldref06_At.f k l x) (· = atP x l 0) := by
  have := at_l0 x l hn _ 0 rfl (Nat.zero_le _)
  simpa [pinfoldref06_At.f] using this
/-- one more, behind all that are due then or ahead. -/
def putP (w x : Int) : Bool → List S130 → List S130
  | done, [] => if done = true then [] else [⟨w, x⟩]
  | done, y :: t => if y.f0 > w then (if done = true then y :: putP w x done t else ⟨w, x⟩ :: y :: putP w x true t) else y :: putP w x done t
theorem putP_drop {w x : Int} {b : Bool} {l : List S130} {i : Nat} (h : i < l.length) : putP w x b (l.drop i) = if l[i].f0 > w then (if b = true then l[i] :: putP w x b (l.drop (i + 1)) else ⟨w, x⟩ :: l[i] :: putP w x true (l.drop (i + 1))) else l[i] :: putP w x b (l.drop (i + 1)) := by
  rw [List.drop_eq_getElem_cons h]; rfl
theorem put_l0 (w x : Int) (l : List S130) (hn : l.length ≤ 1000000) : ∀ (d i : Nat) (out : List S130) (b : Bool), l.length - i = d → i ≤ l.length → out.length ≤ i + b.toNat → EvP (fun k => pinfoldref06_Put.l0 k w x out b l (l.length : Int) (i : Int)) (· = out ++ putP w x b (l.drop i)) := by
  intro d
  induction d with
  | zero =>
    intro i out b hd hi ho
    have hbn : b.toNat ≤ 1 := by cases b <;> simp
    obtain rfl : i = l.length := by omega
    refine EvP.succ ?_
    simp only [pinfoldref06_Put.l0]
    refine EvP.neg (by omega) ?_
    rw [List.drop_length]
    refine EvP.ite (fun h => EvP.now ?_) (fun h => EvP.pos (by omega) (EvP.now ?_))
    · simp [putP, h]
    · simp [putP, h]
  | succ d ih =>
    intro i out b hd hi ho
    have hbn : b.toNat ≤ 1 := by cases b <;> simp
    have hl : i < l.length := by omega
    refine EvP.succ ?_
    simp only [pinfoldref06_Put.l0]
    rw [rdr_at hl, wrap_up (by omega), putP_drop hl]
    refine EvP.pos (by omega) (EvP.pos (by omega) (EvP.pos (by omega) (EvP.ite (fun h => EvP.ite (fun hb => EvP.pos (by omega) ?_) (fun hb => EvP.pos (by omega) ?_)) (fun h => EvP.pos (by omega) ?_))))
    · rw [if_pos h, if_pos hb]
      have := ih (i + 1) (out ++ [l[i]]) b (by omega) (by omega) (by simp; omega)
      rw [List.append_assoc] at this
      exact this
    · rw [if_pos h, if_neg hb]
      refine EvP.bindS rfl (EvP.pos (by simp; omega) ?_)
      have hbf : b = false := by simpa using hb
      subst hbf
      have := ih (i + 1) (out ++ [⟨w, x⟩] ++ [l[i]]) true (by omega) (by omega) (by simp at ho ⊢; omega)
      refine this.mono (fun r hr => hr.trans ?_)
      simp [List.append_assoc]
    · rw [if_neg h]
      have := ih (i + 1) (out ++ [l[i]]) b (by omega) (by omega) (by simp; omega)
      rw [List.append_assoc] at this
      exact this
theorem put_f (w x : Int) (l : List S130) (hn : l.length ≤ 1000000) : EvP (fun k => pinfoldref06_Put.f k l w x) (· = putP w x false l) := by
  have := put_l0 w x l hn _ 0 [] false rfl (Nat.zero_le _) (Nat.zero_le _)
  simpa [pinfoldref06_Put.f] using this
theorem without_f (l : List S130) (i : Nat) (h : i < l.length) (hn : l.length ≤ 1000000) : pinfoldref06_Without.f l (i : Int) = some (l.take i ++ l.drop (i + 1)) := by
  have h1 : wrap64 ((i : Int) + 1) = ((i + 1 : Nat) : Int) := wrap_up (by omega)
  have h2 : (l.take i).length ≤ l.length := by rw [List.length_take]; omega
  have h3 : (l.drop (i + 1)).length ≤ l.length := by rw [List.length_drop]; omega
  simp only [pinfoldref06_Without.f, h1, Option.bind_some, Int.toNat_natCast, List.length_nil, List.nil_append]
  rw [if_pos (by omega), if_pos (by omega), if_pos (by omega), if_pos (by omega), if_pos (by omega), if_pos (by omega)]
theorem pops_l0 (got : List Int) (l : List S130) (hn : l.length ≤ 1000000) (n : Nat) (hnl : n ≤ l.length) (hg : got = (l.take n).map (·.f1)) : ∀ (d i : Nat), n - i = d → i ≤ n → EvP (fun k => pinfoldlaw06_pops.l0 k got l (n : Int) (i : Int)) (· = true) := by
  have hgl : got.length = n := by rw [hg]; simp; omega
  intro d
  induction d with
  | zero =>
    intro i hd hi
    refine EvP.succ ?_
    simp only [pinfoldlaw06_pops.l0]
    exact EvP.neg (by omega) (EvP.now rfl)
  | succ d ih =>
    intro i hd hi
    have hl : i < l.length := by omega
    have hi2 : i < got.length := by omega
    refine EvP.succ ?_
    simp only [pinfoldlaw06_pops.l0]
    rw [rdr_at hl, rd_at hi2, wrap_up (by omega)]
    refine EvP.pos (by omega) (EvP.pos (by omega) (EvP.pos (by omega) (EvP.pos (by omega) (EvP.pos (by subst hg; simp) ?_))))
    exact ih (i + 1) (by omega) (by omega)
theorem pops_f (l : List S130) (hn : l.length ≤ 1000000) (n : Nat) (hnl : n ≤ l.length) : EvP (fun k => pinfoldlaw06_pops.f k ((l.take n).map (·.f1)) l (n : Int)) (· = true) := by
  have hgl : ((l.take n).map (·.f1)).length = n := by simp; omega
  simp only [pinfoldlaw06_pops.f, hgl]
  exact EvP.pos trivial (pops_l0 _ l hn n hnl rfl _ 0 rfl (Nat.zero_le _))
end Go.Proofs.Ytkegdcnnankokaa.PHpb
