/-
heap.Heap[int]'s Drop and When, walked.
-/
import Derived.Test.YtkegdcnnankokaaHiRem
namespace Go.Proofs.Ytkegdcnnankokaa.Hpi
set_option linter.unusedVariables false
set_option linter.unusedSimpArgs false
open Go.Maps Go.RowKit Go.Proofs.YtkegdcnnankokaaW.PrintWords Go.Proofs.YtkegdcnnankokaaW.PrintLast Go.Proofs.YtkegdcnnankokaaW.PrintMore Hp
theorem has_in {l : List (It Int)} (hA : Apart l) {i : Nat} (hi : i < l.length) {x : Int} (hX : (gd l i).f2 = x) : posO l x = some (i : Int) ∧ hasX l x = true := by
  have := posO_eq hA hi hX
  exact ⟨this, by unfold hasX; rw [this]; rfl⟩
set_option maxRecDepth 100000 in
set_option maxHeartbeats 8000000 in
theorem drop_out {w : World} {h N M seq : Nat} {F : Nat → Prop} {l : List (It Int)} (H : HpAt w h F N M l seq) {x : Int} (hx : wfk x) (hX : hasX l x = false) :
    Calls Try.prog 45 #[.pointer (some ⟨h, 0, none⟩), .int .i64 x] w fun e w' => e = .returned (.bool false) ∧ w' = w := by
  obtain ⟨A, c, mv, hd, hlk, hmv⟩ := look_at H hx
  obtain ⟨z, hrun, hz⟩ := hlk w (Fr.refl _ _)
  clear hz hlk
  have h1 : w.cell? ⟨h, 1, none⟩ = some mv := cell_of_heap hd rfl
  rw [hX] at hrun
  clear hmv H
  go_enter Try.func45, Try.ntmps45
  go_wp2_with (first
    | (at_lookup; refine wpList_lookup_run w rfl (.tmp 13) (.tmp 14) 65 true rfl rfl rfl hrun ?_)
    | fail)
  go_ret
  exact ⟨rfl, rfl⟩
set_option maxRecDepth 100000 in
set_option maxHeartbeats 8000000 in
theorem drop_in {w : World} {h N M seq : Nat} {F : Nat → Prop} {l : List (It Int)} (H : HpAt w h F N M l seq) {x : Int} {i : Nat} (hi : i < l.length) (hX : (gd l i).f2 = x) (hb : N + 2 * M + 4 ≤ 1000000) :
    Calls Try.prog 45 #[.pointer (some ⟨h, 0, none⟩), .int .i64 x] w fun e w' => e = .returned (.bool true) ∧ ∃ F', HpAt w' h F' (N + 2 * M + 3) M (removeP l i) seq ∧ Fr F w w' ∧ ∀ k, F' k → F k ∨ w.heap.size ≤ k := by
  have hx : wfk x := hX ▸ H.2.2.2.1 i hi
  obtain ⟨p1, p2⟩ := has_in H.2.2.1 hi hX
  obtain ⟨A, c, mv, hd, hlk, hmv⟩ := look_at H hx
  obtain ⟨z, hrun, hz⟩ := hlk w (Fr.refl _ _)
  have hzi : z = (i : Int) := by rw [hz, p1]; rfl
  rw [p2, hzi] at hrun
  have h1 : w.cell? ⟨h, 1, none⟩ = some mv := cell_of_heap hd rfl
  have hRem := Aside0.mk (remove_any H hi hb)
  clear hmv H hz hzi hlk hb p1 p2 hX hx
  go_enter Try.func45, Try.ntmps45
  go_wp2_with (first
    | (at_lookup; refine wpList_lookup_run w rfl (.tmp 13) (.tmp 14) 65 true rfl rfl rfl hrun ?_)
    | (go_at_call 65; refine (hRem.out).mono ?_; rintro e w1 ⟨rfl, F1, H1, G1, K1⟩)
    | fail)
  go_ret
  exact ⟨rfl, F1, H1, G1, K1⟩
set_option maxRecDepth 100000 in
set_option maxHeartbeats 8000000 in
theorem when_out {w : World} {h N M seq : Nat} {F : Nat → Prop} {l : List (It Int)} (H : HpAt w h F N M l seq) {x : Int} (hx : wfk x) (hX : hasX l x = false) :
    Calls Try.prog 44 #[.pointer (some ⟨h, 0, none⟩), .int .i64 x] w fun e w' => e = .returned (.tuple #[.int .i64 0, .bool false]) ∧ w' = w := by
  obtain ⟨A, c, mv, hd, hlk, hmv⟩ := look_at H hx
  obtain ⟨z, hrun, hz⟩ := hlk w (Fr.refl _ _)
  clear hz hlk
  have h1 : w.cell? ⟨h, 1, none⟩ = some mv := cell_of_heap hd rfl
  rw [hX] at hrun
  clear hmv H
  go_enter Try.func44, Try.ntmps44
  go_wp2_with (first
    | (at_lookup; refine wpList_lookup_run w rfl (.tmp 14) (.tmp 15) 65 true rfl rfl rfl hrun ?_)
    | fail)
  go_ret2
  exact ⟨rfl, rfl⟩
set_option maxRecDepth 100000 in
set_option maxHeartbeats 8000000 in
theorem when_in {w : World} {h N M seq : Nat} {F : Nat → Prop} {l : List (It Int)} (H : HpAt w h F N M l seq) {x : Int} {i : Nat} (hi : i < l.length) (hX : (gd l i).f2 = x) :
    Calls Try.prog 44 #[.pointer (some ⟨h, 0, none⟩), .int .i64 x] w fun e w' => e = .returned (.tuple #[.int .i64 (gd l i).f0, .bool true]) ∧ w' = w := by
  have hx : wfk x := hX ▸ H.2.2.2.1 i hi
  obtain ⟨p1, p2⟩ := has_in H.2.2.1 hi hX
  obtain ⟨A, c, mv, hd, hlk, hmv⟩ := look_at H hx
  obtain ⟨z, hrun, hz⟩ := hlk w (Fr.refl _ _)
  have hzi : z = (i : Int) := by rw [hz, p1]; rfl
  rw [p2, hzi] at hrun
  have hl0 : 0 < l.length := by omega
  rcases hmv with ⟨_, _, _, e2, _⟩ | ⟨mb, n, g, rfl, _, R, _, _⟩
  · rw [e2] at hi; simp at hi
  obtain ⟨q, cap, e3, _, hql, cells, hqc⟩ := Kd.R_form R.row hl0
  obtain ⟨rfl, rfl⟩ : A = some ⟨q, 0, none⟩ ∧ c = cap := by injection e3 with a1 a2 a3; exact ⟨a1, a3⟩
  obtain ⟨a0, a1, a2⟩ := R.at3 hi
  have h1 : w.cell? ⟨h, 1, none⟩ = some (.map (some mb)) := cell_of_heap hd rfl
  have h0 : w.cell? ⟨h, 0, none⟩ = some (.slice (some ⟨q, 0, none⟩) l.length c) := cell_of_heap hd rfl
  have hil : (i : Int) < (l.length : Int) := Int.ofNat_lt.2 hi
  obtain ⟨y, hy⟩ : ∃ y, gd l i = y := ⟨_, rfl⟩
  rw [hy] at a0 ⊢
  have hk0 : decide ((i : Int) < 0) = false := decide_eq_false (Int.not_lt.2 (Int.natCast_nonneg i))
  have hk1 : decide ((l.length : Int) ≤ (i : Int)) = false := decide_eq_false (Int.not_le.2 hil)
  have hk2 : (l.length ≤ i) = False := eq_false (Nat.not_le.2 hi)
  clear R H hz hzi hlk p1 p2 hX hx a1 a2 hd e3 cells hqc hql
  go_enter Try.func44, Try.ntmps44
  go_wp2_with (first
    | (at_lookup; refine wpList_lookup_run w rfl (.tmp 14) (.tmp 15) 65 true rfl rfl rfl hrun ?_)
    | fail)
  go_ret2
  exact ⟨rfl, rfl⟩
end Go.Proofs.Ytkegdcnnankokaa.Hpi
