/-
Only its owner gives a lock; nobody takes it twice; of locks that there aren't nothing is told: the statement's own function, walked.
-/
import Derived.Test.YtgiimdoabkcoaaaCoLives
namespace Go.Proofs.Ytgiimdoabkcoaaa.Co
set_option linter.unusedVariables false
set_option linter.unusedSimpArgs false
open Go.RowKit Go.Proofs.YtgiimdoabkcoaaaW.PrintWords Go.Proofs.YtgiimdoabkcoaaaW.PrintLast Go.Proofs.YtgiimdoabkcoaaaW.PrintMore
def o1 (t s : Int) : LS := ⟨true, t, s, 0, []⟩
def o2 (t o s : Int) : LS := ⟨true, t, s, 0, [(s, [o])]⟩
def o3 (o s : Int) : LS := ⟨true, o, s, 1, []⟩
section
variable {t o s : Int}
theorem ow1 (ht : 0 ≤ t) (hs : 0 ≤ s) : takeP ls0 t s = (o1 t s, true, 0) := by
  unfold takeP; rw [if_neg (by omega), if_neg (by simp [ls0]), if_neg (by simp [ls0, waitsB]), if_pos (show ls0.held = false from rfl)]; rfl
theorem ow2 (ht : 0 ≤ t) (hs : 0 ≤ s) : takeP (o1 t s) t s = (o1 t s, false, 8) := by
  unfold takeP; rw [if_neg (by omega), if_pos ⟨rfl, rfl⟩]
theorem ow3 (hto : t ≠ o) : giveP (o1 t s) o = (o1 t s, 0, false, 8) := by
  unfold giveP; rw [if_pos (.inr hto)]
theorem ow4 (ho : 0 ≤ o) (hs : 0 ≤ s) (hto : t ≠ o) : takeP (o1 t s) o s = (o2 t o s, false, 0) := by
  unfold takeP; rw [if_neg (by omega), if_neg (fun q => hto q.2), if_neg (by simp [o1, waitsB]), if_neg (by simp [o1])]; rfl
theorem ow5 (ho : 0 ≤ o) (hs : 0 ≤ s) (hto : t ≠ o) : takeP (o2 t o s) o s = (o2 t o s, false, 9) := by
  unfold takeP; rw [if_neg (by omega), if_neg (fun q => hto q.2), if_pos (by simp [o2, waitsB])]
theorem ow6 : giveP (o2 t o s) t = (o3 o s, o, true, 0) := by
  have hr : rowI [(s, [o])] s = some 0 := by simp [rowI]
  have hn : nextP (o2 t o s) = o3 o s := by
    unfold nextP
    show (match rowI [(s, [o])] s with | some i => if (o2 t o s).passes < 3 ∨ (o2 t o s).round.length = 1 then stayP (o2 t o s) i else awayP (o2 t o s) | none => awayP (o2 t o s)) = _
    rw [hr]
    rfl
  unfold giveP
  rw [if_neg (by simp [o2]), if_neg (by simp [o2]), hn]
  rfl
theorem smo1 : Sm 1000000 (o1 t s) := ⟨by simp [o1], by simp [o1]⟩
theorem smo2 : Sm 1000000 (o2 t o s) := ⟨by simp [o2], by simp [o2]⟩
theorem oko1 : Ok (o1 t s) := ⟨by simp [o1], by simp [o1], by simp [o1], by simp [o1]⟩
theorem oko2 : Ok (o2 t o s) := ⟨by simp [o2], by simp [o2], by simp [o2], by simp [o2]⟩
end
set_option maxRecDepth 100000 in
set_option maxHeartbeats 2000000 in
theorem cohortOwner_any (t o s : Int) (w : World) : Calls Try.prog 14 #[.int .i64 t, .int .i64 o, .int .i64 s] w fun e w' => e = .returned (.bool true) ∧ Below w.heap.size w w' := by
  have hlv := fun V => Lib.hid (lives_any V)
  by_cases hb : t < 0 ∨ o < 0 ∨ s < 0 ∨ t = o
  · have hbb : (decide (t < 0) || decide (o < 0) || decide (s < 0) || (t == o)) = true := by simpa [or_assoc] using hb
    have h4 : decide (t < 0) = true ∨ (decide (t < 0) = false ∧ (decide (o < 0) = true ∨ (decide (o < 0) = false ∧ (decide (s < 0) = true ∨ (decide (s < 0) = false ∧ (t == o) = true))))) := by
      cases h1 : decide (t < 0) <;> cases h2 : decide (o < 0) <;> cases h3 : decide (s < 0) <;> cases h5 : (t == o) <;> simp_all
    clear hb hbb
    rcases h4 with b1 | ⟨b1, b2 | ⟨b2, b3 | ⟨b3, b4⟩⟩⟩
    all_goals
      go_enter Try.func14, Try.ntmps14
      go_wp2_with (first | (go_at_call 51; refine ((hlv _).out).mono ?_; rintro e w9 ⟨rfl, B9⟩) | fail)
      go_ret
      exact ⟨rfl, B9⟩
  · have ht : 0 ≤ t := by omega
    have ho : 0 ≤ o := by omega
    have hs : 0 ≤ s := by omega
    have hto : t ≠ o := by omega
    have b1 : decide (t < 0) = false := by simp; omega
    have b2 : decide (o < 0) = false := by simp; omega
    have b3 : decide (s < 0) = false := by simp; omega
    have b4 : (t == o) = false := by simp; omega
    have E1 := Lib.hid (ow1 ht hs)
    have E2 := Lib.hid (ow2 ht hs)
    have E3 := Lib.hid (ow3 (s := s) hto)
    have E4 := Lib.hid (ow4 ho hs hto)
    have E5 := Lib.hid (ow5 ho hs hto)
    have p2 : Hid ((o2 t o s).passes ≤ 1000000) := Lib.hid (by simp [o2])
    have p1 : Hid ((o1 t s).passes ≤ 1000000) := Lib.hid (by simp [o1])
    have h0 := Lib.hid (new_c1 w)
    have n1 := fun V => Lib.hid (nil_take V t s)
    have n2 := fun V => Lib.hid (nil_give V t)
    have n3 := fun V => Lib.hid (nil_owner V)
    have n4 := fun V => Lib.hid (nil_len V)
    have n5 := fun V => Lib.hid (nil_waiting V)
    have n6 := fun V => Lib.hid (nil_owned V t)
    clear hb ht ho hs hto
    unfold tkV at n1
    unfold gvV at n2
    go_enter Try.func14, Try.ntmps14
    go_wp2_with (first
      | (go_at_call 47; refine (h0.out).mono ?_; rintro e w1 ⟨h, lb, rfl, c⟩; have C0 := Lib.hid c; clear c)
      | (go_at_call_of 48 (Value.pointer none); (with_reducible refine ((n1 _).out).mono ?_); rintro e w9 ⟨rfl, hw9⟩; rw [hw9]; clear hw9)
      | (go_at_call 48; refine (take_c1 CD.out smo2 E5.out).mono ?_; unfold tkV; rintro e w6 ⟨rfl, c⟩; have CE := Lib.hid c; clear c)
      | (go_at_call 48; refine (take_c1 CC.out smo1 E4.out).mono ?_; unfold tkV; rintro e w5 ⟨rfl, c⟩; have CD := Lib.hid c; clear c)
      | (go_at_call 48; refine (take_c1 CA.out smo1 E2.out).mono ?_; unfold tkV; rintro e w3 ⟨rfl, c⟩; have CB := Lib.hid c; clear c)
      | (go_at_call 48; refine (take_c1 C0.out sm0 E1.out).mono ?_; unfold tkV; rintro e w2 ⟨rfl, c⟩; have CA := Lib.hid c; clear c)
      | (go_at_call_of 50 (Value.pointer none); (with_reducible refine ((n2 _).out).mono ?_); rintro e w9 ⟨rfl, hw9⟩; rw [hw9]; clear hw9)
      | (go_at_call 50; refine (give_c1 CE.out smo2 oko2 p2.out ow6).mono ?_; unfold gvV; rintro e w7 ⟨rfl, c⟩; have CF := Lib.hid c; clear c)
      | (go_at_call 50; refine (give_c1 CB.out smo1 oko1 p1.out E3.out).mono ?_; unfold gvV; rintro e w4 ⟨rfl, c⟩; have CC := Lib.hid c; clear c)
      | (go_at_call_of 49 (Value.pointer none); (with_reducible refine ((n3 _).out).mono ?_); rintro e w9 ⟨rfl, hw9⟩; rw [hw9]; clear hw9)
      | (go_at_call_of 56 (Value.pointer none); (with_reducible refine ((n4 _).out).mono ?_); rintro e w9 ⟨rfl, hw9⟩; rw [hw9]; clear hw9)
      | (go_at_call_of 53 (Value.pointer none); (with_reducible refine ((n5 _).out).mono ?_); rintro e w9 ⟨rfl, hw9⟩; rw [hw9]; clear hw9)
      | (go_at_call_of 57 (Value.pointer none); (with_reducible refine ((n6 _).out).mono ?_); rintro e w9 ⟨rfl, hw9⟩; rw [hw9]; clear hw9)
      | (go_at_call 51; refine ((hlv _).out).mono ?_; rintro e w9 ⟨rfl, B9⟩)
      | fail)
    go_ret
    exact ⟨rfl, Below_trans CF.out.bel B9⟩
end Go.Proofs.Ytgiimdoabkcoaaa.Co
