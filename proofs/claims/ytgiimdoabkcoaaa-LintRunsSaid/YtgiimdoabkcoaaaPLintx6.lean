/- Functions of the program as Lean functions, and proofs that the code comes to their answers: printed by this session's program. -/
import Derived.Test.YtgiimdoabkcoaaaPLintx0
import Derived.Test.YtgiimdoabkcoaaaPLintx2
import Derived.Test.YtgiimdoabkcoaaaPLintx4
import Derived.Test.YtgiimdoabkcoaaaPLintx5
namespace Go.Proofs.Ytgiimdoabkcoaaa.PLint
open Go.RowKit Go.Proofs.YtgiimdoabkcoaaaW.PrintWords Go.Proofs.YtgiimdoabkcoaaaW.PrintLast Go.Proofs.YtgiimdoabkcoaaaW.PrintMore
attribute [local go_sem] max2_int min2_int max_two min_two max_three min_three max_four min_four   -- for this text's walks alone
set_option linter.unusedVariables false
set_option linter.unusedSimpArgs false

/-! ### lint_Must: function 25 -/
def lint_Must.f (k : Nat) (a0_0 : Int) (l0_1 : List (S41)) (a1 : Int) : Option (List Int) := (lint_cut.f a1).bind fun t201 => (if 0 ≤ t201 then ((lint_flowMust.f k a0_0 l0_1 t201 (IntKind.u16.wrap ((shl .u16 1 t201) - 1)) 0).bind fun t202 => (some t202)) else (none))
theorem lint_Must.mono : ∀ a0 a1 a2 k, LeO (lint_Must.f k a0 a1 a2) (lint_Must.f (k + 1) a0 a1 a2) := by
 intro a0 a1 a2 k
 unfold lint_Must.f
 repeat' first
   | (with_reducible exact lint_flowMust.mono _ _ _ _ _ _)
   | (with_reducible exact LeO.refl _)
   | (with_reducible exact LeO.none _)
   | (with_reducible refine LeO.ite ?_ ?_)
   | (with_reducible refine LeO.bind ?_ (fun _ => ?_))
   | exact lint_flowMust.mono _ _ _ _ _ _
   | exact LeO.none _
   | refine LeO.ite ?_ ?_
   | refine LeO.bind ?_ (fun _ => ?_)
set_option maxHeartbeats 8000000 in
set_option maxRecDepth 100000 in
theorem lint_Must.calls (k : Nat) (a0_0 : Int) (A0_1 : Option Addr) (c0_1 : Nat) (l0_1 : List (S41)) (a1 : Int) (r : List Int) (w : World) (hr0_1 : Kd.C k41 w A0_1 l0_1.length l0_1) (hc0_1 : l0_1.length ≤ c0_1) (h : lint_Must.f k a0_0 l0_1 a1 = some r) :
  Calls Try.prog 25 #[.agg #[.int .i64 a0_0, .slice A0_1 l0_1.length c0_1], .int .i64 a1] w fun e w' => ∃ v0_ : Value, e = .returned (v0_) ∧ Kd.R (Kd.int .u16) 39 w' w.heap.size (fun _ => True) v0_ r ∧ Below w.heap.size w w' := by
 have hu24 := Try.underlying24
 have HR0_1 := Aside0.mk hr0_1
 have HC0_1 := Aside0.mk hc0_1
 clear hr0_1 hc0_1
 have HB := Aside0.mk (Below.refl w.heap.size w)
 have H : ((lint_cut.f a1).bind fun t201 => (if 0 ≤ t201 then ((lint_flowMust.f k a0_0 l0_1 t201 (IntKind.u16.wrap ((shl .u16 1 t201) - 1)) 0).bind fun t202 => (some t202)) else (none))) = some r := h
 clear h
 replace H := Option.bind_eq_some_iff.mp H
 obtain ⟨t201, A30, H⟩ := H
 replace H : (if 0 ≤ t201 then ((lint_flowMust.f k a0_0 l0_1 t201 (IntKind.u16.wrap ((shl .u16 1 t201) - 1)) 0).bind fun t202 => (some t202)) else (none)) = some r := H
 have A3 := Aside0.mk A30
 clear A30
 by_cases c4 : 0 ≤ t201
 ·rw [if_pos c4] at H
  have c4b0 := eq_true c4
  have c4b1 : decide (0 ≤ t201) = true := decide_eq_true c4
  clear c4
  obtain ⟨ji5, hji5⟩ : ∃ j_ : Int, (shl .u16 1 t201) = j_ := ⟨_, rfl⟩
  replace H : ((lint_flowMust.f k a0_0 l0_1 t201 (IntKind.u16.wrap ((ji5) - 1)) 0).bind fun t202 => (some t202)) = some r := by first|(rw [hji5] at H;exact H)|(simp only [hji5] at H ⊢;exact H)
  (try rw [hji5] at A3)
  have hji5_ : (IntKind.u16.wrap (1 * 2 ^ min t201.toNat 16)) = ji5 := hji5
  have hji5z : t201 ≤ 16 → (IntKind.u16.wrap (1 * 2 ^ t201.toNat)) = ji5 := shl_small hji5
  have hji5u : (IntKind.u16.wrap (2 ^ min t201.toNat 16)) = ji5 := by have h_ := hji5_;rw [Int.one_mul] at h_;exact h_
  have hji5v : t201 ≤ 16 → (IntKind.u16.wrap (2 ^ t201.toNat)) = ji5 := fun hle_ => by have h_ := hji5z hle_;rw [Int.one_mul] at h_;exact h_
  replace H := Option.bind_eq_some_iff.mp H
  obtain ⟨t202, A60, H⟩ := H
  replace H : (some t202) = some r := H
  have A6 := Aside0.mk A60
  clear A60
  obtain rfl := Option.some.inj H
  go_enter Try.func25, Try.ntmps25
  try go_wp2_with (first|((with_reducible refine gate_dst (N := 2) rfl ?_);refine box_event ?hg (N := 2) ?hd (cs := #[.int .i64 a0_0, .slice A0_1 l0_1.length c0_1]) (t := 24) ?hr ?_;(case hd => rfl);(case hg => rfl);(case hr => first|(go_simp;done)|(go_simp;rfl));intro gb200 hg w7 hbox hb;have n0_ := Aside0.mk (below_step (by repeat (with_reducible first|exact HB.out|apply xa|apply xb|apply xc)) hb);have n1_ := Aside0.mk (hbox);have n2_ := Aside0.mk ((by rw [hg];exact (below_size (by repeat (with_reducible first|exact HB.out|apply xa|apply xb|apply xc))) : w.heap.size ≤ gb200));have n3_ := Aside0.mk ((by rw [hg];exact (below_size (by repeat (with_reducible first|exact HB.out|apply xa|apply xb|apply xc))) : w.heap.size ≤ gb200));clear HB;have HB := n0_;have BK200 := n1_;have GW200 := n2_;have GE200 := n3_;clear n0_ n1_ n2_ n3_;clear hb hbox hg)|((with_reducible refine gate_callee (f := 63) rfl ?_);refine goesL_ (some 7) rfl rfl Try.func63 (by kernel_rfl) rfl #[.int .i64 a1] rfl (by (try simp only [List.map_toArray, List.map_cons, List.map_nil]);first|done|rfl|(simp only [List.length_drop, List.length_take];rfl)) ?_;(with_reducible refine (lint_cut.calls a1 t201 _ A3.out).mono ?_);rintro e w8 ⟨rfl, hb⟩;refine ⟨_, rfl, ?_⟩;have n0_ := Aside0.mk (blk_below (g := gb200) (o := .cells #[.int .i64 a0_0, .slice A0_1 l0_1.length c0_1] 24 (0, 0)) (by (with_reducible repeat (first|apply blk_drewN|apply blk_drew|apply blk_alloc));exact BK200.out) hb);have n1_ := Aside0.mk (below_step (by repeat (first|(with_reducible first|exact HB.out|apply xa|apply xb|apply xc|refine below_set ?_ GE200.out)|exact HB.out)) hb);clear BK200;clear HB;have BK200 := n0_;have HB := n1_;clear n0_ n1_;(try clear hb);(try clear hb2);(try clear hk);(try clear hi)))
  have n0_ := Aside0.mk (blk_drew BK200.out)
  have n1_ := Aside0.mk (below_drew1 HB.out)
  clear BK200
  clear HB
  have BK200 := n0_
  have HB := n1_
  clear n0_ n1_
  refine start_ (n := 7) (S := fun w' => w'.cell? ⟨gb200, 0, none⟩ = some (.int .i64 a0_0) ∧ w'.cell? ⟨gb200, 1, none⟩ = some (.slice A0_1 l0_1.length c0_1)) (ds := []) #[false, false, false, false, false, false, false] (by kernel_rfl) rfl rfl ⟨(blk_cell BK200.out 0).trans rfl, (blk_cell BK200.out 1).trans rfl⟩ (fun hHeld => ?_)
  generalize w8.drew = w9 at BK200 HB hHeld ⊢
  refine pure_ (i := 1) (N := some 9) (v := ?_) (a' := ?_) #[false, true, false, false, false, false, false] rfl rfl (by kernel_rfl) (fun _ _ _ h => h) (Or.inl ⟨by rfl, ?_⟩) ?_ ?_
  rotate_left
  ·intro w'
   go_simp
   with_reducible rfl
  rotate_left
  ·simp only [Act.put, List.setIfInBounds_toArray, List.set_cons_zero, List.set_cons_succ, i64_w, i32_w]
   rfl
  refine pure_ (i := 2) (N := some 10) (v := ?_) (a' := ?_) #[false, true, true, false, false, false, false] rfl rfl (by kernel_rfl) (fun _ _ _ h => h) (Or.inl ⟨by rfl, ?_⟩) ?_ ?_
  rotate_left
  ·intro w'
   go_simp
   with_reducible rfl
  rotate_left
  ·simp only [Act.put, List.setIfInBounds_toArray, List.set_cons_zero, List.set_cons_succ, i64_w, i32_w]
   rfl
  refine pure_ (i := 3) (N := some 11) (v := ?_) (a' := ?_) #[false, true, true, true, false, false, false] rfl rfl (by kernel_rfl) (fun _ _ _ h => h) (Or.inl ⟨by rfl, ?_⟩) ?_ ?_
  rotate_left
  ·intro w'
   go_simp
   with_reducible rfl
  rotate_left
  ·simp only [Act.put, List.setIfInBounds_toArray, List.set_cons_zero, List.set_cons_succ, i64_w, i32_w]
   rfl
  refine pure_ (i := 4) (N := some 12) (v := ?_) (a' := ?_) #[false, true, true, true, true, false, false] rfl rfl (by kernel_rfl) (fun _ _ _ h => h) (Or.inl ⟨by rfl, ?_⟩) ?_ ?_
  rotate_left
  ·intro w'
   go_simp
   with_reducible rfl
  rotate_left
  ·simp only [Act.put, List.setIfInBounds_toArray, List.set_cons_zero, List.set_cons_succ, i64_w, i32_w]
   rfl
  refine take_ (i := 0) (N := some 8) (v := ?_) (a' := ?_) #[true, true, true, true, true, false, false] rfl rfl (by kernel_rfl) (fun _ _ _ h => h) (Or.inl ⟨by rfl, ?_⟩) hHeld ?_ ?_
  rotate_left
  ·rintro w' ⟨s0, s1⟩
   go_simp
   with_reducible rfl
  rotate_left
  ·simp only [Act.put, List.setIfInBounds_toArray, List.set_cons_zero, List.set_cons_succ, i64_w, i32_w]
   rfl
  refine one_ (i := 5) (N := some 13) #[true, true, true, true, true, true, false] rfl rfl (by kernel_rfl) (by decide) (fun K hK => ?_)
  refine goes_ Try.func62 (by kernel_rfl) rfl #[.agg #[.int .i64 a0_0, .slice A0_1 l0_1.length c0_1], .int .i64 t201, .int .u16 (IntKind.u16.wrap ((ji5) - 1)), .func (.func 65) #[] #[]] (by rfl) rfl rfl (by (try simp only [List.map_toArray, List.map_cons, List.map_nil]);first|done|(simp only [hji5];rfl)|rfl|(simp only [List.length_drop, List.length_take];rfl)) ?_
  with_reducible refine (lint_flowMust.calls k a0_0 _ _ l0_1 t201 (IntKind.u16.wrap ((ji5) - 1)) 0 t202 _ ?side1 ?side2 A6.out).mono ?_
  (case side1 => repeat (first|exact (Kd.C_below HR0_1.out HB.out)|(with_reducible refine Kd.C_alloc ?_ _)|(with_reducible refine Kd.C_drewN ?_ _)|(with_reducible refine Kd.C_drew ?_)))
  (case side2 => exact HC0_1.out)
  rintro e w10 ⟨v203, rfl, ho0, hb⟩
  refine ⟨_, rfl, ?_⟩
  have n0_ := Aside0.mk (Kd.R_lower ho0 (below_size (by repeat (first|(with_reducible first|exact HB.out|apply xa|apply xb|apply xc|refine below_set ?_ GE200.out)|exact HB.out))))
  have n1_ := Aside0.mk (blk_below (g := gb200) (o := .cells #[.int .i64 a0_0, .slice A0_1 l0_1.length c0_1] 24 (0, 0)) (by (with_reducible repeat (first|apply blk_drewN|apply blk_drew|apply blk_alloc));exact BK200.out) hb)
  have n2_ := Aside0.mk (below_step (by repeat (first|(with_reducible first|exact HB.out|apply xa|apply xb|apply xc|refine below_set ?_ GE200.out)|exact HB.out)) hb)
  clear BK200
  clear HB
  have HO204 := n0_
  have BK200 := n1_
  have HB := n2_
  clear n0_ n1_ n2_
  (try clear hb)
  (try clear hb2)
  (try clear hk)
  (try clear hi)
  (try clear ho0)
  refine hK.out _ _ ⟨(blk_cell BK200.out 0).trans rfl, (blk_cell BK200.out 1).trans rfl⟩ (fun hHeld => ?_)
  clear hK K
  refine norm_ (a' := ?_) ?_ ?_
  rotate_left
  ·show Act.put _ (some 13) _ = _
   simp only [Act.put, List.setIfInBounds_toArray, List.set_cons_zero, List.set_cons_succ, i64_w, i32_w]
   rfl
  refine pure_ (i := 6) (N := some 4) (v := ?_) (a' := ?_) #[true, true, true, true, true, true, true] rfl rfl (by kernel_rfl) (fun _ _ _ h => h) (Or.inl ⟨by rfl, ?_⟩) ?_ ?_
  rotate_left
  ·intro w'
   go_simp
   with_reducible rfl
  rotate_left
  ·simp only [Act.put, List.setIfInBounds_toArray, List.set_cons_zero, List.set_cons_succ, i64_w, i32_w]
   rfl
  refine done_ (by kernel_rfl) ?_
  try go_wp2
  go_ret
  exact ⟨_, by first|rfl|(simp [errW_none, errW_some] <;> rfl)|(simp only [← hji5];first|rfl|(simp [errW_none, errW_some] <;> rfl))|(simp [*, errW_none, errW_some] <;> rfl), by (with_reducible repeat (first|apply Kd.R_alloc|apply Kd.R_drewN|apply Kd.R_drew));exact HO204.out, by repeat (first|(with_reducible first|exact HB.out|apply xa|apply xb|apply xc|refine below_set ?_ GE200.out)|exact HB.out)⟩
 ·rw [if_neg c4] at H
  exact absurd H (by simp)

/-! ### lint_Leaks: function 26 -/
def lint_Leaks.l0 : Nat → List Int → List Bool → List Int → Int → Int → Int → List (S41) → Option (List Int)
 | 0, _, _, _, _, _, _, _ => none
 | k + 1, x4, x5, x12, x13, x14, x206000, x206001 => if x14 < x13 then (if 0 ≤ x14 then (if x14 < (x12.length : Int) then (if x14 < (x5.length : Int) then (if rdOf false x5 x14 = true then (if (rd x12 x14) = 0 then (lint_Leaks.l0 k x4 x5 x12 x13 (wrap64 (x14 + 1)) x206000 x206001) else (if x14 < (x206001.length : Int) then (if ((rd_T41 x206001 x14).f0) = 14 then (if x4.length < 17592186044416 then (lint_Leaks.l0 k (x4 ++ [x14]) x5 x12 x13 (wrap64 (x14 + 1)) x206000 x206001) else (none)) else (lint_Leaks.l0 k x4 x5 x12 x13 (wrap64 (x14 + 1)) x206000 x206001)) else (none))) else (lint_Leaks.l0 k x4 x5 x12 x13 (wrap64 (x14 + 1)) x206000 x206001)) else (none)) else (none)) else (none)) else (some x4)
def lint_Leaks.f (k : Nat) (a0_0 : Int) (l0_1 : List (S41)) (a1 : Int) : Option (List Int) := (lint_Reach.f k a0_0 l0_1).bind fun t206 => ((lint_May.f k a0_0 l0_1 a1).bind fun t209 => (lint_Leaks.l0 k ([] : List Int) t206 t209 (t209.length : Int) 0 a0_0 l0_1))
theorem lint_Leaks.mono_l : ∀ k, (∀ y0 y1 y2 y3 y4 y5 y6, LeO (lint_Leaks.l0 k y0 y1 y2 y3 y4 y5 y6) (lint_Leaks.l0 (k + 1) y0 y1 y2 y3 y4 y5 y6))
 | 0 => fun _ _ _ _ _ _ _ r h => by simp [lint_Leaks.l0] at h
 | k + 1 => by
  have ih0 := lint_Leaks.mono_l k
  ·intro y0 y1 y2 y3 y4 y5 y6
   unfold lint_Leaks.l0
   repeat' first
   | (with_reducible exact ih0 _ _ _ _ _ _ _)
   | (with_reducible exact lint_May.mono _ _ _ _)
   | (with_reducible exact lint_Reach.mono _ _ _)
   | (with_reducible exact LeO.refl _)
   | (with_reducible exact LeO.none _)
   | (with_reducible refine LeO.ite ?_ ?_)
   | (with_reducible refine LeO.bind ?_ (fun _ => ?_))
   | exact ih0 _ _ _ _ _ _ _
   | exact lint_May.mono _ _ _ _
   | exact lint_Reach.mono _ _ _
   | exact LeO.none _
   | refine LeO.ite ?_ ?_
   | refine LeO.bind ?_ (fun _ => ?_)
theorem lint_Leaks.mono : ∀ a0 a1 a2 k, LeO (lint_Leaks.f k a0 a1 a2) (lint_Leaks.f (k + 1) a0 a1 a2) := by
 intro a0 a1 a2 k
 have ih0 := lint_Leaks.mono_l k
 unfold lint_Leaks.f
 repeat' first
   | (with_reducible exact ih0 _ _ _ _ _ _ _)
   | (with_reducible exact lint_May.mono _ _ _ _)
   | (with_reducible exact lint_Reach.mono _ _ _)
   | (with_reducible exact LeO.refl _)
   | (with_reducible exact LeO.none _)
   | (with_reducible refine LeO.ite ?_ ?_)
   | (with_reducible refine LeO.bind ?_ (fun _ => ?_))
   | exact ih0 _ _ _ _ _ _ _
   | exact lint_May.mono _ _ _ _
   | exact lint_Reach.mono _ _ _
   | exact LeO.none _
   | refine LeO.ite ?_ ?_
   | refine LeO.bind ?_ (fun _ => ?_)
set_option maxHeartbeats 8000000 in
set_option maxRecDepth 100000 in
theorem lint_Leaks.calls (k : Nat) (a0_0 : Int) (A0_1 : Option Addr) (c0_1 : Nat) (l0_1 : List (S41)) (a1 : Int) (r : List Int) (w : World) (hr0_1 : Kd.C k41 w A0_1 l0_1.length l0_1) (hc0_1 : l0_1.length ≤ c0_1) (h : lint_Leaks.f k a0_0 l0_1 a1 = some r) :
  Calls Try.prog 26 #[.agg #[.int .i64 a0_0, .slice A0_1 l0_1.length c0_1], .int .i64 a1] w fun e w' => ∃ v0_ : Value, e = .returned (v0_) ∧ Kd.R (Kd.int .i64) 3 w' w.heap.size (fun _ => True) v0_ r ∧ Below w.heap.size w w' := by
 have hu24 := Try.underlying24
 have HR0_1 := Aside0.mk hr0_1
 have HC0_1 := Aside0.mk hc0_1
 clear hr0_1 hc0_1
 have HB := Aside0.mk (Below.refl w.heap.size w)
 have H : ((lint_Reach.f k a0_0 l0_1).bind fun t206 => ((lint_May.f k a0_0 l0_1 a1).bind fun t209 => (lint_Leaks.l0 k ([] : List Int) t206 t209 (t209.length : Int) 0 a0_0 l0_1))) = some r := h
 clear h
 replace H := Option.bind_eq_some_iff.mp H
 obtain ⟨t206, A30, H⟩ := H
 replace H : ((lint_May.f k a0_0 l0_1 a1).bind fun t209 => (lint_Leaks.l0 k ([] : List Int) t206 t209 (t209.length : Int) 0 a0_0 l0_1)) = some r := H
 have A3 := Aside0.mk A30
 clear A30
 replace H := Option.bind_eq_some_iff.mp H
 obtain ⟨t209, A40, H⟩ := H
 replace H : (lint_Leaks.l0 k ([] : List Int) t206 t209 (t209.length : Int) 0 a0_0 l0_1) = some r := H
 have A4 := Aside0.mk A40
 clear A40
 have H' := Aside0.mk H
 clear H
 go_enter Try.func26, Try.ntmps26
 go_wp2_with (first|((with_reducible refine gate_dst (N := 2) rfl ?_);refine box_event ?hg (N := 2) ?hd (cs := #[.int .i64 a0_0, .slice A0_1 l0_1.length c0_1]) (t := 24) ?hr ?_;(case hd => rfl);(case hg => rfl);(case hr => first|(go_simp;done)|(go_simp;rfl));intro gb205 hg w5 hbox hb;have n0_ := Aside0.mk (below_step (by repeat (with_reducible first|exact HB.out|apply xa|apply xb|apply xc)) hb);have n1_ := Aside0.mk (hbox);have n2_ := Aside0.mk ((by rw [hg];exact (below_size (by repeat (with_reducible first|exact HB.out|apply xa|apply xb|apply xc))) : w.heap.size ≤ gb205));have n3_ := Aside0.mk ((by rw [hg];exact (below_size (by repeat (with_reducible first|exact HB.out|apply xa|apply xb|apply xc))) : w.heap.size ≤ gb205));clear HB;have HB := n0_;have BK205 := n1_;have GW205 := n2_;have GE205 := n3_;clear n0_ n1_ n2_ n3_;clear hb hbox hg;have hcz6_0 : w5.cell? ⟨gb205, 0, none⟩ = some (.int .i64 a0_0) := (blk_cell BK205.out 0).trans rfl;have hcz6_1 : w5.cell? ⟨gb205, 1, none⟩ = some (.slice A0_1 l0_1.length c0_1) := (blk_cell BK205.out 1).trans rfl;have hfz6_0 := blk_frozen BK205.out 0;have hfz6_1 := blk_frozen BK205.out 1)|((with_reducible refine gate_callee (f := 19) rfl ?_);refine goesL_ (some 9) rfl rfl Try.func19 (by kernel_rfl) rfl #[.agg #[.int .i64 a0_0, .slice A0_1 l0_1.length c0_1]] rfl (by (try simp only [List.map_toArray, List.map_cons, List.map_nil]);first|done|rfl|(simp only [List.length_drop, List.length_take];rfl)) ?_;(with_reducible refine (lint_Reach.calls k a0_0 _ _ l0_1 t206 _ ?side1 ?side2 A3.out).mono ?_);(case side1 => repeat (first|exact (Kd.C_below HR0_1.out HB.out)|(with_reducible refine Kd.C_alloc ?_ _)|(with_reducible refine Kd.C_drewN ?_ _)|(with_reducible refine Kd.C_drew ?_)));(case side2 => exact HC0_1.out);rintro e w7 ⟨v207, rfl, ho0, hb⟩;refine ⟨_, rfl, ?_⟩;have n0_ := Aside0.mk (Kd.R_lower ho0 (below_size (by repeat (first|(with_reducible first|exact HB.out|apply xa|apply xb|apply xc|refine below_set ?_ GE205.out)|exact HB.out))));have n1_ := Aside0.mk (blk_below (g := gb205) (o := .cells #[.int .i64 a0_0, .slice A0_1 l0_1.length c0_1] 24 (0, 0)) (by (with_reducible repeat (first|apply blk_drewN|apply blk_drew|apply blk_alloc));exact BK205.out) hb);have n2_ := Aside0.mk (below_step (by repeat (first|(with_reducible first|exact HB.out|apply xa|apply xb|apply xc|refine below_set ?_ GE205.out)|exact HB.out)) hb);clear BK205;clear HB;have HO208 := n0_;have BK205 := n1_;have HB := n2_;clear n0_ n1_ n2_;(try clear hb);(try clear hb2);(try clear hk);(try clear hi);(try clear ho0);have hcz8_0 : w7.cell? ⟨gb205, 0, none⟩ = some (.int .i64 a0_0) := (blk_cell BK205.out 0).trans rfl;have hcz8_1 : w7.cell? ⟨gb205, 1, none⟩ = some (.slice A0_1 l0_1.length c0_1) := (blk_cell BK205.out 1).trans rfl;have hfz8_0 := blk_frozen BK205.out 0;have hfz8_1 := blk_frozen BK205.out 1)|((with_reducible refine gate_callee (f := 24) rfl ?_);refine goesL_ (some 12) rfl rfl Try.func24 (by kernel_rfl) rfl #[.agg #[.int .i64 a0_0, .slice A0_1 l0_1.length c0_1], .int .i64 a1] rfl (by (try simp only [List.map_toArray, List.map_cons, List.map_nil]);first|done|rfl|(simp only [List.length_drop, List.length_take];rfl)) ?_;(with_reducible refine (lint_May.calls k a0_0 _ _ l0_1 a1 t209 _ ?side1 ?side2 A4.out).mono ?_);(case side1 => repeat (first|exact (Kd.C_below HR0_1.out HB.out)|(with_reducible refine Kd.C_alloc ?_ _)|(with_reducible refine Kd.C_drewN ?_ _)|(with_reducible refine Kd.C_drew ?_)));(case side2 => exact HC0_1.out);rintro e w9 ⟨v210, rfl, ho0, hb⟩;refine ⟨_, rfl, ?_⟩;have n0_ := Aside0.mk (Kd.R_below (by (with_reducible repeat (first|apply Kd.R_alloc|apply Kd.R_drewN|apply Kd.R_drew));exact HO208.out) hb);have n1_ := Aside0.mk (Kd.R_lower ho0 (below_size (by repeat (first|(with_reducible first|exact HB.out|apply xa|apply xb|apply xc|refine below_set ?_ GE205.out)|exact HB.out))));have n2_ := Aside0.mk (blk_below (g := gb205) (o := .cells #[.int .i64 a0_0, .slice A0_1 l0_1.length c0_1] 24 (0, 0)) (by (with_reducible repeat (first|apply blk_drewN|apply blk_drew|apply blk_alloc));exact BK205.out) hb);have n3_ := Aside0.mk (below_step (by repeat (first|(with_reducible first|exact HB.out|apply xa|apply xb|apply xc|refine below_set ?_ GE205.out)|exact HB.out)) hb);clear HO208;clear BK205;clear HB;have HO208 := n0_;have HO211 := n1_;have BK205 := n2_;have HB := n3_;clear n0_ n1_ n2_ n3_;(try clear hb);(try clear hb2);(try clear hk);(try clear hi);(try clear ho0);obtain ⟨Ao10, co10, eo10⟩ := Kd.R_slice HO211.out;subst eo10))
 go_loopg [4, 14] k (fun kq v4 v14 w' => ∃ (x4_1 : List Int) (x14_1 : Int), v14 = .int .i64 x14_1 ∧ Aside0 (lint_Leaks.l0 kq x4_1 t206 t209 (t209.length : Int) x14_1 a0_0 l0_1 = some r) ∧ Aside0 (kq ≤ k) ∧ Aside0 (Kd.R (Kd.int .i64) 3 w' w.heap.size (fun _ => True) v4 x4_1) ∧ Aside0 (Kd.R Kd.bool 4 w' w.heap.size (fun _ => True) v207 t206) ∧ Aside0 (Kd.R (Kd.int .u16) 39 w' w.heap.size (fun _ => True) (.slice Ao10 t209.length co10) t209) ∧ Aside0 (w'.heap[gb205]? = some (.cells #[.int .i64 a0_0, (.slice A0_1 l0_1.length c0_1)] 24 (0, 0))) ∧ Aside0 (Below w.heap.size w w'))
 case atStart => exact ⟨(([] : List Int)), (0), (by first|rfl|(simp;done)|(simp [*];done)), H', ⟨Nat.le_refl _⟩, ⟨by first|exact Kd.R_nil _ _ _ _ _|exact Kd.N_nil _ _ _ _ _|exact Kd.V_nil _ _ _ _ _|exact Kd.Q_nil _ _ _ _ _|exact Kd.S_nil _ _ _ _ _⟩, ⟨by (with_reducible repeat (first|apply Kd.R_alloc|apply Kd.R_drewN|apply Kd.R_drew));exact HO208.out⟩, ⟨by (with_reducible repeat (first|apply Kd.R_alloc|apply Kd.R_drewN|apply Kd.R_drew));exact HO211.out⟩, ⟨by (with_reducible repeat (first|apply blk_drewN|apply blk_drew|apply blk_alloc));exact BK205.out⟩, ⟨by repeat (first|(with_reducible first|exact HB.out|apply xa|apply xb|apply xc|refine below_set ?_ GE205.out)|exact HB.out)⟩⟩
 case round =>
  clear H'
  try clear c1
  try clear c2
  try clear p2
  try clear hcz6_0
  try clear hcz6_1
  try clear hcz8_0
  try clear hcz8_1
  try clear hfz6_0
  try clear hfz6_1
  try clear hfz8_0
  try clear hfz8_1
  obtain ⟨x4_1, x14_1, rfl, HA, HK1, HO_4, HO_5, HO_12, BK205, HB⟩ := hrel
  cases gk with
  | zero => exact absurd HA.out (by simp [lint_Leaks.l0])
  | succ k1 =>
   have H := HA.out
   clear HA
   simp only [lint_Leaks.l0] at H
   by_cases c11 : x14_1 < (t209.length : Int)
   ·rw [if_pos c11] at H
    have c11b0 : decide (x14_1 < (t209.length : Int)) = true := decide_eq_true c11
    clear c11
    by_cases c12 : 0 ≤ x14_1
    ·rw [if_pos c12] at H
     have c12b0 : decide (0 ≤ x14_1) = true := decide_eq_true c12
     clear c12
     by_cases c13 : x14_1 < (t209.length : Int)
     ·rw [if_pos c13] at H
      have c13b0 : decide (x14_1 < (t209.length : Int)) = true := decide_eq_true c13
      clear c13
      by_cases c14 : x14_1 < (t206.length : Int)
      ·rw [if_pos c14] at H
       have c14b0 : decide (x14_1 < (t206.length : Int)) = true := decide_eq_true c14
       clear c14
       obtain ⟨bq15, hbq15⟩ : ∃ b_ : Bool, b_ = (rdOf false t206 x14_1) := ⟨_, rfl⟩
       replace H : (if bq15 = true then (if (rd t209 x14_1) = 0 then (lint_Leaks.l0 k1 x4_1 t206 t209 (t209.length : Int) (wrap64 (x14_1 + 1)) a0_0 l0_1) else (if x14_1 < (l0_1.length : Int) then (if ((rd_T41 l0_1 x14_1).f0) = 14 then (if x4_1.length < 17592186044416 then (lint_Leaks.l0 k1 (x4_1 ++ [x14_1]) t206 t209 (t209.length : Int) (wrap64 (x14_1 + 1)) a0_0 l0_1) else (none)) else (lint_Leaks.l0 k1 x4_1 t206 t209 (t209.length : Int) (wrap64 (x14_1 + 1)) a0_0 l0_1)) else (none))) else (lint_Leaks.l0 k1 x4_1 t206 t209 (t209.length : Int) (wrap64 (x14_1 + 1)) a0_0 l0_1)) = some r := by rw [← hbq15] at H;exact H
       have Nbq15 := Aside0.mk hbq15
       (try rw [← Nbq15.out] at c12b0)
       (try rw [← Nbq15.out] at c12b1)
       (try rw [← Nbq15.out] at c12b2)
       (try rw [← Nbq15.out] at c12b3)
       (try rw [← Nbq15.out] at c13b0)
       (try rw [← Nbq15.out] at c13b1)
       (try rw [← Nbq15.out] at c13b2)
       (try rw [← Nbq15.out] at c13b3)
       (try rw [← Nbq15.out] at c14b0)
       (try rw [← Nbq15.out] at c14b1)
       (try rw [← Nbq15.out] at c14b2)
       (try rw [← Nbq15.out] at c14b3)
       clear hbq15
       by_cases c16 : bq15 = true
       ·subst c16
        have H1 : (if (rd t209 x14_1) = 0 then (lint_Leaks.l0 k1 x4_1 t206 t209 (t209.length : Int) (wrap64 (x14_1 + 1)) a0_0 l0_1) else (if x14_1 < (l0_1.length : Int) then (if ((rd_T41 l0_1 x14_1).f0) = 14 then (if x4_1.length < 17592186044416 then (lint_Leaks.l0 k1 (x4_1 ++ [x14_1]) t206 t209 (t209.length : Int) (wrap64 (x14_1 + 1)) a0_0 l0_1) else (none)) else (lint_Leaks.l0 k1 x4_1 t206 t209 (t209.length : Int) (wrap64 (x14_1 + 1)) a0_0 l0_1)) else (none))) = some r := by rw [if_pos rfl] at H;exact H
        clear H
        have H := H1
        clear H1
        by_cases c17 : (rd t209 x14_1) = 0
        ·rw [if_pos c17] at H
         have c17b0 : ((rd t209 x14_1) == 0) = true := beq_iff_eq.mpr c17
         have c17b1 : ((rd t209 x14_1) != 0) = false := bne_eq_false_iff_eq.mpr c17
         clear c17
         have H' := Aside0.mk H
         clear H
         have p212 : 0 ≤ (x14_1 : Int) := of_decide_eq_true (by assumption)
         have q212 : x14_1 < (t209.length : Int) := of_decide_eq_true (by assumption)
         obtain ⟨ad212, e212, hx212_0⟩ := Kd.at_int (Kd.R_reads' HO_12.out).2.2 x14_1 p212 q212
         cases e212
         replace p212 := eq_true p212
         replace q212 := eq_true q212
         obtain ⟨Ao18, co18, eo18⟩ := Kd.R_slice HO_5.out
         subst eo18
         have p213 : 0 ≤ (x14_1 : Int) := of_decide_eq_true (by assumption)
         have q213 : x14_1 < (t206.length : Int) := of_decide_eq_true (by assumption)
         obtain ⟨ad213, e213, hx213_0⟩ := Kd.at_bool (Kd.R_reads' HO_5.out).2.2 x14_1 p213 q213
         (try rw [← Nbq15.out] at hx213_0)
         cases e213
         replace p213 := eq_true p213
         replace q213 := eq_true q213
         go_wp2
         (try simp only [px_add0] at *)
         go_roundg k1
         case measure => have := HK1.out;omega
         case rel => exact ⟨(x4_1), (wrap64 (x14_1 + 1)), (by first|rfl|(simp;done)|(simp [*];done)), H', ⟨by have := HK1.out;omega⟩, ⟨by (with_reducible repeat (first|apply Kd.R_alloc|apply Kd.R_drewN|apply Kd.R_drew));exact HO_4.out⟩, ⟨by (with_reducible repeat (first|apply Kd.R_alloc|apply Kd.R_drewN|apply Kd.R_drew));exact HO_5.out⟩, ⟨by (with_reducible repeat (first|apply Kd.R_alloc|apply Kd.R_drewN|apply Kd.R_drew));exact HO_12.out⟩, ⟨by (with_reducible repeat (first|apply blk_drewN|apply blk_drew|apply blk_alloc));exact BK205.out⟩, ⟨by repeat (first|(with_reducible first|exact HB.out|apply xa|apply xb|apply xc|refine below_set ?_ GE205.out)|exact HB.out)⟩⟩
        ·rw [if_neg c17] at H
         have c17b0 : ((rd t209 x14_1) == 0) = false := beq_eq_false_iff_ne.mpr c17
         have c17b1 : ((rd t209 x14_1) != 0) = true := bne_iff_ne.mpr c17
         by_cases c19 : x14_1 < (l0_1.length : Int)
         ·rw [if_pos c19] at H
          have c19b0 : decide (x14_1 < (l0_1.length : Int)) = true := decide_eq_true c19
          clear c19
          by_cases c20 : ((rd_T41 l0_1 x14_1).f0) = 14
          ·rw [if_pos c20] at H
           have c20b0 : (((rd_T41 l0_1 x14_1).f0) == 14) = true := beq_iff_eq.mpr c20
           have c20b1 : (((rd_T41 l0_1 x14_1).f0) != 14) = false := bne_eq_false_iff_eq.mpr c20
           clear c20
           by_cases c21 : x4_1.length < 17592186044416
           ·rw [if_pos c21] at H
            have LMc21 := Aside0.mk c21
            clear c21
            obtain ⟨y215, hy215⟩ : ∃ y_ : List Int, y_ = (x4_1 ++ [x14_1]) := ⟨_, rfl⟩
            replace H : (lint_Leaks.l0 k1 y215 t206 t209 (t209.length : Int) (wrap64 (x14_1 + 1)) a0_0 l0_1) = some r := by first|(rw [hy215];with_reducible exact H)|(have H2_ := (Option.bind_some _ _).symm.trans H;rw [hy215];with_reducible exact H2_)|(have H2_ := (Option.bind_some _ _).symm.trans H;with_reducible exact H2_)|with_reducible exact H|(rw [hy215];exact H)|exact H
            have Ny215 := Aside0.mk hy215
            clear hy215
            have H' := Aside0.mk H
            clear H
            have p212 : 0 ≤ (x14_1 : Int) := of_decide_eq_true (by assumption)
            have q212 : x14_1 < (t209.length : Int) := of_decide_eq_true (by assumption)
            obtain ⟨ad212, e212, hx212_0⟩ := Kd.at_int (Kd.R_reads' HO_12.out).2.2 x14_1 p212 q212
            cases e212
            replace p212 := eq_true p212
            replace q212 := eq_true q212
            obtain ⟨Ao22, co22, eo22⟩ := Kd.R_slice HO_5.out
            subst eo22
            have p213 : 0 ≤ (x14_1 : Int) := of_decide_eq_true (by assumption)
            have q213 : x14_1 < (t206.length : Int) := of_decide_eq_true (by assumption)
            obtain ⟨ad213, e213, hx213_0⟩ := Kd.at_bool (Kd.R_reads' HO_5.out).2.2 x14_1 p213 q213
            (try rw [← Nbq15.out] at hx213_0)
            cases e213
            replace p213 := eq_true p213
            replace q213 := eq_true q213
            have hcz23_0 : wr.cell? ⟨gb205, 0, none⟩ = some (.int .i64 a0_0) := (blk_cell BK205.out 0).trans rfl
            have hcz23_1 : wr.cell? ⟨gb205, 1, none⟩ = some (.slice A0_1 l0_1.length c0_1) := (blk_cell BK205.out 1).trans rfl
            have hfz23_0 := blk_frozen BK205.out 0
            have hfz23_1 := blk_frozen BK205.out 1
            have p214 : 0 ≤ (x14_1 : Int) := of_decide_eq_true (by assumption)
            have q214 : x14_1 < (l0_1.length : Int) := of_decide_eq_true (by assumption)
            obtain ⟨ad214, e214, hx214_0, hx214_1, hx214_2, hx214_3⟩ := at_T41 HR0_1.out x14_1 p214 q214
            cases e214
            replace hx214_0 := (HB.out.cell (World.block_lt_of_cell? w _ hx214_0)).trans hx214_0
            replace hx214_1 := (HB.out.cell (World.block_lt_of_cell? w _ hx214_1)).trans hx214_1
            replace hx214_2 := (HB.out.cell (World.block_lt_of_cell? w _ hx214_2)).trans hx214_2
            replace hx214_3 := (HB.out.cell (World.block_lt_of_cell? w _ hx214_3)).trans hx214_3
            replace p214 := eq_true p214
            replace q214 := eq_true q214
            go_wp2_with (first|((with_reducible refine gate_builtin (b := .append) (xs := #[.tmp 36, .tmp 38]) rfl ?_);at_builtin;refine Kd.R_append (Kd.int .i64) (w0 := w) w.heap.size rfl (.tmp 36) (.tmp 38) 27 3 (.int .i64 0) 8 rfl Try.underlying27 info3 rfl (by decide) (by omega) u4 x4_1 x14_1 [.int .i64 x14_1] (fun _ => True) (fun _ => False) rfl rfl ?aP (fun _ hk => hk.elim) ?aF ?aO ?aB ?aS ?aL ?_;(case aP => exact rfl);(case aB => exact (by repeat (first|(with_reducible first|exact HB.out|apply xa|apply xb|apply xc|refine below_set ?_ GE205.out)|exact HB.out)));(case aF => exact (fun _ _ => trivial));(case aO => exact (by (with_reducible repeat (first|apply Kd.R_alloc|apply Kd.R_drewN|apply Kd.R_drew));exact HO_4.out));(case aS => exact (below_size (by repeat (first|(with_reducible first|exact HB.out|apply xa|apply xb|apply xc|refine below_set ?_ GE205.out)|exact HB.out))));(case aL => have := LMc21.out;omega);intro v216 w24 ho hb hg hat;rw [← Ny215.out] at ho;have n0_ := Aside0.mk (Kd.R_over' (by (with_reducible repeat (first|apply Kd.R_alloc|apply Kd.R_drewN|apply Kd.R_drew));exact HO_5.out) (Kd.R_typed (by (with_reducible repeat (first|apply Kd.R_alloc|apply Kd.R_drewN|apply Kd.R_drew));exact HO_4.out)) (by decide) hg);have n1_ := Aside0.mk (Kd.R_over' (by (with_reducible repeat (first|apply Kd.R_alloc|apply Kd.R_drewN|apply Kd.R_drew));exact HO_12.out) (Kd.R_typed (by (with_reducible repeat (first|apply Kd.R_alloc|apply Kd.R_drewN|apply Kd.R_drew));exact HO_4.out)) (by decide) hg);have n2_ := Aside0.mk (blk_grown (g := gb205) (o := .cells #[.int .i64 a0_0, .slice (some ad214) l0_1.length c0_1] 24 (0, 0)) (by (with_reducible repeat (first|apply blk_drewN|apply blk_drew|apply blk_alloc));exact BK205.out) hg (Kd.R_ne HO_4.out BK205.out (by decide)));have n3_ := Aside0.mk (hb);have n4_ := Aside0.mk (ho);clear HO_5;clear HO_12;clear BK205;clear HB;clear HO_4;have HO_5 := n0_;have HO_12 := n1_;have BK205 := n2_;have HB := n3_;have HO217 := n4_;clear n0_ n1_ n2_ n3_ n4_;clear ho hb hg hat))
            (try simp only [px_add0] at *)
            go_roundg k1
            case measure => have := HK1.out;omega
            case rel => exact ⟨(y215), (wrap64 (x14_1 + 1)), (by first|rfl|(simp;done)|(simp [*];done)), H', ⟨by have := HK1.out;omega⟩, ⟨by (with_reducible repeat (first|apply Kd.R_alloc|apply Kd.R_drewN|apply Kd.R_drew));exact HO217.out⟩, ⟨by (with_reducible repeat (first|apply Kd.R_alloc|apply Kd.R_drewN|apply Kd.R_drew));exact HO_5.out⟩, ⟨by (with_reducible repeat (first|apply Kd.R_alloc|apply Kd.R_drewN|apply Kd.R_drew));exact HO_12.out⟩, ⟨by (with_reducible repeat (first|apply blk_drewN|apply blk_drew|apply blk_alloc));exact BK205.out⟩, ⟨by repeat (first|(with_reducible first|exact HB.out|apply xa|apply xb|apply xc|refine below_set ?_ GE205.out)|exact HB.out)⟩⟩
           ·rw [if_neg c21] at H
            exact absurd H (by simp)
          ·rw [if_neg c20] at H
           have c20b0 : (((rd_T41 l0_1 x14_1).f0) == 14) = false := beq_eq_false_iff_ne.mpr c20
           have c20b1 : (((rd_T41 l0_1 x14_1).f0) != 14) = true := bne_iff_ne.mpr c20
           have H' := Aside0.mk H
           clear H
           have p212 : 0 ≤ (x14_1 : Int) := of_decide_eq_true (by assumption)
           have q212 : x14_1 < (t209.length : Int) := of_decide_eq_true (by assumption)
           obtain ⟨ad212, e212, hx212_0⟩ := Kd.at_int (Kd.R_reads' HO_12.out).2.2 x14_1 p212 q212
           cases e212
           replace p212 := eq_true p212
           replace q212 := eq_true q212
           obtain ⟨Ao25, co25, eo25⟩ := Kd.R_slice HO_5.out
           subst eo25
           have p213 : 0 ≤ (x14_1 : Int) := of_decide_eq_true (by assumption)
           have q213 : x14_1 < (t206.length : Int) := of_decide_eq_true (by assumption)
           obtain ⟨ad213, e213, hx213_0⟩ := Kd.at_bool (Kd.R_reads' HO_5.out).2.2 x14_1 p213 q213
           (try rw [← Nbq15.out] at hx213_0)
           cases e213
           replace p213 := eq_true p213
           replace q213 := eq_true q213
           have hcz26_0 : wr.cell? ⟨gb205, 0, none⟩ = some (.int .i64 a0_0) := (blk_cell BK205.out 0).trans rfl
           have hcz26_1 : wr.cell? ⟨gb205, 1, none⟩ = some (.slice A0_1 l0_1.length c0_1) := (blk_cell BK205.out 1).trans rfl
           have hfz26_0 := blk_frozen BK205.out 0
           have hfz26_1 := blk_frozen BK205.out 1
           have p214 : 0 ≤ (x14_1 : Int) := of_decide_eq_true (by assumption)
           have q214 : x14_1 < (l0_1.length : Int) := of_decide_eq_true (by assumption)
           obtain ⟨ad214, e214, hx214_0, hx214_1, hx214_2, hx214_3⟩ := at_T41 HR0_1.out x14_1 p214 q214
           cases e214
           replace hx214_0 := (HB.out.cell (World.block_lt_of_cell? w _ hx214_0)).trans hx214_0
           replace hx214_1 := (HB.out.cell (World.block_lt_of_cell? w _ hx214_1)).trans hx214_1
           replace hx214_2 := (HB.out.cell (World.block_lt_of_cell? w _ hx214_2)).trans hx214_2
           replace hx214_3 := (HB.out.cell (World.block_lt_of_cell? w _ hx214_3)).trans hx214_3
           replace p214 := eq_true p214
           replace q214 := eq_true q214
           go_wp2
           (try simp only [px_add0] at *)
           go_roundg k1
           case measure => have := HK1.out;omega
           case rel => exact ⟨(x4_1), (wrap64 (x14_1 + 1)), (by first|rfl|(simp;done)|(simp [*];done)), H', ⟨by have := HK1.out;omega⟩, ⟨by (with_reducible repeat (first|apply Kd.R_alloc|apply Kd.R_drewN|apply Kd.R_drew));exact HO_4.out⟩, ⟨by (with_reducible repeat (first|apply Kd.R_alloc|apply Kd.R_drewN|apply Kd.R_drew));exact HO_5.out⟩, ⟨by (with_reducible repeat (first|apply Kd.R_alloc|apply Kd.R_drewN|apply Kd.R_drew));exact HO_12.out⟩, ⟨by (with_reducible repeat (first|apply blk_drewN|apply blk_drew|apply blk_alloc));exact BK205.out⟩, ⟨by repeat (first|(with_reducible first|exact HB.out|apply xa|apply xb|apply xc|refine below_set ?_ GE205.out)|exact HB.out)⟩⟩
         ·rw [if_neg c19] at H
          exact absurd H (by simp)
       ·replace c16 := Bool.eq_false_iff.mpr c16
        subst c16
        have H1 : (lint_Leaks.l0 k1 x4_1 t206 t209 (t209.length : Int) (wrap64 (x14_1 + 1)) a0_0 l0_1) = some r := by rw [if_neg (show ¬ (false = true) by decide)] at H;exact H
        clear H
        have H := H1
        clear H1
        have H' := Aside0.mk H
        clear H
        have p212 : 0 ≤ (x14_1 : Int) := of_decide_eq_true (by assumption)
        have q212 : x14_1 < (t209.length : Int) := of_decide_eq_true (by assumption)
        obtain ⟨ad212, e212, hx212_0⟩ := Kd.at_int (Kd.R_reads' HO_12.out).2.2 x14_1 p212 q212
        cases e212
        replace p212 := eq_true p212
        replace q212 := eq_true q212
        obtain ⟨Ao27, co27, eo27⟩ := Kd.R_slice HO_5.out
        subst eo27
        have p213 : 0 ≤ (x14_1 : Int) := of_decide_eq_true (by assumption)
        have q213 : x14_1 < (t206.length : Int) := of_decide_eq_true (by assumption)
        obtain ⟨ad213, e213, hx213_0⟩ := Kd.at_bool (Kd.R_reads' HO_5.out).2.2 x14_1 p213 q213
        (try rw [← Nbq15.out] at hx213_0)
        cases e213
        replace p213 := eq_true p213
        replace q213 := eq_true q213
        go_wp2
        (try simp only [px_add0] at *)
        go_roundg k1
        case measure => have := HK1.out;omega
        case rel => exact ⟨(x4_1), (wrap64 (x14_1 + 1)), (by first|rfl|(simp;done)|(simp [*];done)), H', ⟨by have := HK1.out;omega⟩, ⟨by (with_reducible repeat (first|apply Kd.R_alloc|apply Kd.R_drewN|apply Kd.R_drew));exact HO_4.out⟩, ⟨by (with_reducible repeat (first|apply Kd.R_alloc|apply Kd.R_drewN|apply Kd.R_drew));exact HO_5.out⟩, ⟨by (with_reducible repeat (first|apply Kd.R_alloc|apply Kd.R_drewN|apply Kd.R_drew));exact HO_12.out⟩, ⟨by (with_reducible repeat (first|apply blk_drewN|apply blk_drew|apply blk_alloc));exact BK205.out⟩, ⟨by repeat (first|(with_reducible first|exact HB.out|apply xa|apply xb|apply xc|refine below_set ?_ GE205.out)|exact HB.out)⟩⟩
      ·rw [if_neg c14] at H
       exact absurd H (by simp)
     ·rw [if_neg c13] at H
      exact absurd H (by simp)
    ·rw [if_neg c12] at H
     exact absurd H (by simp)
   ·rw [if_neg c11] at H
    have c11b0 : decide (x14_1 < (t209.length : Int)) = false := decide_eq_false c11
    clear c11
    obtain rfl := Option.some.inj H
    go_wp2
    go_ret
    exact ⟨_, by first|rfl|(simp [errW_none, errW_some] <;> rfl)|(simp [*, errW_none, errW_some] <;> rfl), by (with_reducible repeat (first|apply Kd.R_alloc|apply Kd.R_drewN|apply Kd.R_drew));exact HO_4.out, by repeat (first|(with_reducible first|exact HB.out|apply xa|apply xb|apply xc|refine below_set ?_ GE205.out)|exact HB.out)⟩

end Go.Proofs.Ytgiimdoabkcoaaa.PLint
