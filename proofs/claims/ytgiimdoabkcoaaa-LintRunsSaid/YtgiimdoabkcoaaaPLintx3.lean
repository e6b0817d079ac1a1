/- Functions of the program as Lean functions, and proofs that the code comes to their answers: printed by this session's program. -/
import Derived.Test.YtgiimdoabkcoaaaPLintx0
import Derived.Test.YtgiimdoabkcoaaaPLintx1
import Derived.Test.YtgiimdoabkcoaaaPLintx2
namespace Go.Proofs.Ytgiimdoabkcoaaa.PLint
open Go.RowKit Go.Proofs.YtgiimdoabkcoaaaW.PrintWords Go.Proofs.YtgiimdoabkcoaaaW.PrintLast Go.Proofs.YtgiimdoabkcoaaaW.PrintMore
attribute [local go_sem] max2_int min2_int max_two min_two max_three min_three max_four min_four   -- for this text's walks alone
set_option linter.unusedVariables false
set_option linter.unusedSimpArgs false

/-! ### lint_flow: function 62 -/
mutual
def lint_flow.l0 : Nat → Int → Int → List Bool → List Int → Int → Int → Int → List (S41) → Option (List Int)
 | 0, _, _, _, _, _, _, _, _ => none
 | k + 1, x1, x2, x9, x10, x26, x27, x152000, x152001 => if x27 < x26 then (if 0 ≤ x27 then (if x27 < (x9.length : Int) then (if rdOf false x9 x27 = true then (if x27 > 0 then (if x27 < (x10.length : Int) then (lint_flow.l0 k x1 x2 x9 (x10.set (x27 : Int).toNat x2) x26 (wrap64 (x27 + 1)) x152000 x152001) else (none)) else (lint_flow.l0 k x1 x2 x9 x10 x26 (wrap64 (x27 + 1)) x152000 x152001)) else (lint_flow.l0 k x1 x2 x9 x10 x26 (wrap64 (x27 + 1)) x152000 x152001)) else (none)) else (none)) else (lint_flow.l1 k x1 x9 x10 true x152000 x152001)
def lint_flow.l1 : Nat → Int → List Bool → List Int → Bool → Int → List (S41) → Option (List Int)
 | 0, _, _, _, _, _, _ => none
 | k + 1, x1, x9, x10, x12, x152000, x152001 => if x12 = true then (lint_flow.l2 k x1 x9 x10 false x152001 (x152001.length : Int) 0 x152000 x152001) else (some x10)
def lint_flow.l2 : Nat → Int → List Bool → List Int → Bool → List (S41) → Int → Int → Int → List (S41) → Option (List Int)
 | 0, _, _, _, _, _, _, _, _, _ => none
 | k + 1, x1, x9, x10, x12, x45, x46, x47, x152000, x152001 => if x47 < x46 then (if 0 ≤ x47 then (if x47 < (x45.length : Int) then (if x47 < (x9.length : Int) then (if rdOf false x9 x47 = true then (if x47 < (x10.length : Int) then ((lint_behind.f k ((rd_T41 x45 x47).f0) ((rd_T41 x45 x47).f1) ((rd_T41 x45 x47).f2) ((rd_T41 x45 x47).f3) (rd x10 x47) x1).bind fun t164 => ((lint_Next.f k x152000 x152001 x47).bind fun t165 => (lint_flow.l3 k x1 x9 x10 x12 t164 x45 x46 x47 t165 (t165.length : Int) 0 x152000 x152001))) else (none)) else (lint_flow.l2 k x1 x9 x10 x12 x45 x46 (wrap64 (x47 + 1)) x152000 x152001)) else (none)) else (none)) else (none)) else (lint_flow.l1 k x1 x9 x10 x12 x152000 x152001)
def lint_flow.l3 : Nat → Int → List Bool → List Int → Bool → Int → List (S41) → Int → Int → List Int → Int → Int → Int → List (S41) → Option (List Int)
 | 0, _, _, _, _, _, _, _, _, _, _, _, _, _ => none
 | k + 1, x1, x9, x10, x12, x15, x45, x46, x47, x66, x67, x68, x152000, x152001 => if x68 < x67 then (if 0 ≤ x68 then (if x68 < (x66.length : Int) then (if 0 ≤ (rd x66 x68) then (if (rd x66 x68) < (x10.length : Int) then ((lint_May_1.f (rd x10 (rd x66 x68)) x15).bind fun t170 => (if t170 = (rd x10 (rd x66 x68)) then (lint_flow.l3 k x1 x9 x10 x12 x15 x45 x46 x47 x66 x67 (wrap64 (x68 + 1)) x152000 x152001) else (lint_flow.l3 k x1 x9 (x10.set ((rd x66 x68) : Int).toNat t170) true x15 x45 x46 x47 x66 x67 (wrap64 (x68 + 1)) x152000 x152001))) else (none)) else (none)) else (none)) else (none)) else (lint_flow.l2 k x1 x9 x10 x12 x45 x46 (wrap64 (x47 + 1)) x152000 x152001)
end
def lint_flow.f (k : Nat) (a0_0 : Int) (l0_1 : List (S41)) (a1 : Int) (a2 : Int) (a3 : Int) : Option (List Int) := (lint_Reach.f k a0_0 l0_1).bind fun t152 => (if 0 ≤ (l0_1.length : Int) then (if ((l0_1.length : Int) : Int).toNat ≤ 140737488355328 then ((some (List.replicate ((l0_1.length : Int) : Int).toNat 0 : List Int)).bind fun y155 => (lint_flow.l0 k a1 a2 t152 y155 (y155.length : Int) 0 a0_0 l0_1)) else (none)) else (none))
theorem lint_flow.mono_l : ∀ k, (∀ y0 y1 y2 y3 y4 y5 y6 y7, LeO (lint_flow.l0 k y0 y1 y2 y3 y4 y5 y6 y7) (lint_flow.l0 (k + 1) y0 y1 y2 y3 y4 y5 y6 y7)) ∧ (∀ y0 y1 y2 y3 y4 y5, LeO (lint_flow.l1 k y0 y1 y2 y3 y4 y5) (lint_flow.l1 (k + 1) y0 y1 y2 y3 y4 y5)) ∧ (∀ y0 y1 y2 y3 y4 y5 y6 y7 y8, LeO (lint_flow.l2 k y0 y1 y2 y3 y4 y5 y6 y7 y8) (lint_flow.l2 (k + 1) y0 y1 y2 y3 y4 y5 y6 y7 y8)) ∧ (∀ y0 y1 y2 y3 y4 y5 y6 y7 y8 y9 y10 y11 y12, LeO (lint_flow.l3 k y0 y1 y2 y3 y4 y5 y6 y7 y8 y9 y10 y11 y12) (lint_flow.l3 (k + 1) y0 y1 y2 y3 y4 y5 y6 y7 y8 y9 y10 y11 y12))
 | 0 => ⟨fun _ _ _ _ _ _ _ _ r h => by simp [lint_flow.l0] at h, fun _ _ _ _ _ _ r h => by simp [lint_flow.l1] at h, fun _ _ _ _ _ _ _ _ _ r h => by simp [lint_flow.l2] at h, fun _ _ _ _ _ _ _ _ _ _ _ _ _ r h => by simp [lint_flow.l3] at h⟩
 | k + 1 => by
  obtain ⟨ih0, ih1, ih2, ih3⟩ := lint_flow.mono_l k
  refine ⟨?_, ?_, ?_, ?_⟩
  ·intro y0 y1 y2 y3 y4 y5 y6 y7
   unfold lint_flow.l0
   repeat' first
   | (with_reducible exact ih0 _ _ _ _ _ _ _ _)
   | (with_reducible exact ih1 _ _ _ _ _ _)
   | (with_reducible exact ih2 _ _ _ _ _ _ _ _ _)
   | (with_reducible exact ih3 _ _ _ _ _ _ _ _ _ _ _ _ _)
   | (with_reducible exact lint_Next.mono _ _ _ _)
   | (with_reducible exact lint_Reach.mono _ _ _)
   | (with_reducible exact lint_behind.mono _ _ _ _ _ _ _)
   | (with_reducible exact LeO.refl _)
   | (with_reducible exact LeO.none _)
   | (with_reducible refine LeO.ite ?_ ?_)
   | (with_reducible refine LeO.bind ?_ (fun _ => ?_))
   | exact ih0 _ _ _ _ _ _ _ _
   | exact ih1 _ _ _ _ _ _
   | exact ih2 _ _ _ _ _ _ _ _ _
   | exact ih3 _ _ _ _ _ _ _ _ _ _ _ _ _
   | exact lint_Next.mono _ _ _ _
   | exact lint_Reach.mono _ _ _
   | exact lint_behind.mono _ _ _ _ _ _ _
   | exact LeO.none _
   | refine LeO.ite ?_ ?_
   | refine LeO.bind ?_ (fun _ => ?_)
  ·intro y0 y1 y2 y3 y4 y5
   unfold lint_flow.l1
   repeat' first
   | (with_reducible exact ih0 _ _ _ _ _ _ _ _)
   | (with_reducible exact ih1 _ _ _ _ _ _)
   | (with_reducible exact ih2 _ _ _ _ _ _ _ _ _)
   | (with_reducible exact ih3 _ _ _ _ _ _ _ _ _ _ _ _ _)
   | (with_reducible exact lint_Next.mono _ _ _ _)
   | (with_reducible exact lint_Reach.mono _ _ _)
   | (with_reducible exact lint_behind.mono _ _ _ _ _ _ _)
   | (with_reducible exact LeO.refl _)
   | (with_reducible exact LeO.none _)
   | (with_reducible refine LeO.ite ?_ ?_)
   | (with_reducible refine LeO.bind ?_ (fun _ => ?_))
   | exact ih0 _ _ _ _ _ _ _ _
   | exact ih1 _ _ _ _ _ _
   | exact ih2 _ _ _ _ _ _ _ _ _
   | exact ih3 _ _ _ _ _ _ _ _ _ _ _ _ _
   | exact lint_Next.mono _ _ _ _
   | exact lint_Reach.mono _ _ _
   | exact lint_behind.mono _ _ _ _ _ _ _
   | exact LeO.none _
   | refine LeO.ite ?_ ?_
   | refine LeO.bind ?_ (fun _ => ?_)
  ·intro y0 y1 y2 y3 y4 y5 y6 y7 y8
   unfold lint_flow.l2
   repeat' first
   | (with_reducible exact ih0 _ _ _ _ _ _ _ _)
   | (with_reducible exact ih1 _ _ _ _ _ _)
   | (with_reducible exact ih2 _ _ _ _ _ _ _ _ _)
   | (with_reducible exact ih3 _ _ _ _ _ _ _ _ _ _ _ _ _)
   | (with_reducible exact lint_Next.mono _ _ _ _)
   | (with_reducible exact lint_Reach.mono _ _ _)
   | (with_reducible exact lint_behind.mono _ _ _ _ _ _ _)
   | (with_reducible exact LeO.refl _)
   | (with_reducible exact LeO.none _)
   | (with_reducible refine LeO.ite ?_ ?_)
   | (with_reducible refine LeO.bind ?_ (fun _ => ?_))
   | exact ih0 _ _ _ _ _ _ _ _
   | exact ih1 _ _ _ _ _ _
   | exact ih2 _ _ _ _ _ _ _ _ _
   | exact ih3 _ _ _ _ _ _ _ _ _ _ _ _ _
   | exact lint_Next.mono _ _ _ _
   | exact lint_Reach.mono _ _ _
   | exact lint_behind.mono _ _ _ _ _ _ _
   | exact LeO.none _
   | refine LeO.ite ?_ ?_
   | refine LeO.bind ?_ (fun _ => ?_)
  ·intro y0 y1 y2 y3 y4 y5 y6 y7 y8 y9 y10 y11 y12
   unfold lint_flow.l3
   repeat' first
   | (with_reducible exact ih0 _ _ _ _ _ _ _ _)
   | (with_reducible exact ih1 _ _ _ _ _ _)
   | (with_reducible exact ih2 _ _ _ _ _ _ _ _ _)
   | (with_reducible exact ih3 _ _ _ _ _ _ _ _ _ _ _ _ _)
   | (with_reducible exact lint_Next.mono _ _ _ _)
   | (with_reducible exact lint_Reach.mono _ _ _)
   | (with_reducible exact lint_behind.mono _ _ _ _ _ _ _)
   | (with_reducible exact LeO.refl _)
   | (with_reducible exact LeO.none _)
   | (with_reducible refine LeO.ite ?_ ?_)
   | (with_reducible refine LeO.bind ?_ (fun _ => ?_))
   | exact ih0 _ _ _ _ _ _ _ _
   | exact ih1 _ _ _ _ _ _
   | exact ih2 _ _ _ _ _ _ _ _ _
   | exact ih3 _ _ _ _ _ _ _ _ _ _ _ _ _
   | exact lint_Next.mono _ _ _ _
   | exact lint_Reach.mono _ _ _
   | exact lint_behind.mono _ _ _ _ _ _ _
   | exact LeO.none _
   | refine LeO.ite ?_ ?_
   | refine LeO.bind ?_ (fun _ => ?_)
theorem lint_flow.mono : ∀ a0 a1 a2 a3 a4 k, LeO (lint_flow.f k a0 a1 a2 a3 a4) (lint_flow.f (k + 1) a0 a1 a2 a3 a4) := by
 intro a0 a1 a2 a3 a4 k
 obtain ⟨ih0, ih1, ih2, ih3⟩ := lint_flow.mono_l k
 unfold lint_flow.f
 repeat' first
   | (with_reducible exact ih0 _ _ _ _ _ _ _ _)
   | (with_reducible exact ih1 _ _ _ _ _ _)
   | (with_reducible exact ih2 _ _ _ _ _ _ _ _ _)
   | (with_reducible exact ih3 _ _ _ _ _ _ _ _ _ _ _ _ _)
   | (with_reducible exact lint_Next.mono _ _ _ _)
   | (with_reducible exact lint_Reach.mono _ _ _)
   | (with_reducible exact lint_behind.mono _ _ _ _ _ _ _)
   | (with_reducible exact LeO.refl _)
   | (with_reducible exact LeO.none _)
   | (with_reducible refine LeO.ite ?_ ?_)
   | (with_reducible refine LeO.bind ?_ (fun _ => ?_))
   | exact ih0 _ _ _ _ _ _ _ _
   | exact ih1 _ _ _ _ _ _
   | exact ih2 _ _ _ _ _ _ _ _ _
   | exact ih3 _ _ _ _ _ _ _ _ _ _ _ _ _
   | exact lint_Next.mono _ _ _ _
   | exact lint_Reach.mono _ _ _
   | exact lint_behind.mono _ _ _ _ _ _ _
   | exact LeO.none _
   | refine LeO.ite ?_ ?_
   | refine LeO.bind ?_ (fun _ => ?_)
def lint_flow.T16 : Bool × List (List Nat × List Nat) := (true, [([], []), ([], []), ([], []), ([1, 2], [1, 2]), ([3], [3]), ([], []), ([0, 4, 5], [0, 4, 5]), ([6, 6, 0, 1, 2, 3, 4, 5, 6], [6])])
def lint_flow.B16 : List Nat := [0, 0, 0, 6, 14, 0, 63, 127]
theorem lint_flow.tab16 : rtab .any (opsOf Try.f62 16) = lint_flow.T16 := by kernel_rfl
theorem lint_flow.bits16 : waitsOk lint_flow.T16.2 lint_flow.B16 = true := by kernel_rfl
set_option maxHeartbeats 8000000 in
set_option maxRecDepth 100000 in
theorem lint_flow.calls (k : Nat) (a0_0 : Int) (A0_1 : Option Addr) (c0_1 : Nat) (l0_1 : List (S41)) (a1 : Int) (a2 : Int) (a3 : Int) (r : List Int) (w : World) (hr0_1 : Kd.C k41 w A0_1 l0_1.length l0_1) (hc0_1 : l0_1.length ≤ c0_1) (h : lint_flow.f k a0_0 l0_1 a1 a2 a3 = some r) :
  Calls Try.prog 62 #[.agg #[.int .i64 a0_0, .slice A0_1 l0_1.length c0_1], .int .i64 a1, .int .u16 a2, .func (.func 64) #[] #[]] w fun e w' => ∃ v0_ : Value, e = .returned (v0_) ∧ Kd.R (Kd.int .u16) 39 w' w.heap.size (fun _ => True) v0_ r ∧ Below w.heap.size w w' := by
 have hu24 := Try.underlying24
 have hu41 := Try.underlying41
 have HR0_1 := Aside0.mk hr0_1
 have HC0_1 := Aside0.mk hc0_1
 clear hr0_1 hc0_1
 have HB := Aside0.mk (Below.refl w.heap.size w)
 have H : ((lint_Reach.f k a0_0 l0_1).bind fun t152 => (if 0 ≤ (l0_1.length : Int) then (if ((l0_1.length : Int) : Int).toNat ≤ 140737488355328 then ((some (List.replicate ((l0_1.length : Int) : Int).toNat 0 : List Int)).bind fun y155 => (lint_flow.l0 k a1 a2 t152 y155 (y155.length : Int) 0 a0_0 l0_1)) else (none)) else (none))) = some r := h
 clear h
 replace H := Option.bind_eq_some_iff.mp H
 obtain ⟨t152, A50, H⟩ := H
 replace H : (if 0 ≤ (l0_1.length : Int) then (if ((l0_1.length : Int) : Int).toNat ≤ 140737488355328 then ((some (List.replicate ((l0_1.length : Int) : Int).toNat 0 : List Int)).bind fun y155 => (lint_flow.l0 k a1 a2 t152 y155 (y155.length : Int) 0 a0_0 l0_1)) else (none)) else (none)) = some r := H
 have A5 := Aside0.mk A50
 clear A50
 by_cases c6 : 0 ≤ (l0_1.length : Int)
 ·rw [if_pos c6] at H
  have c6b0 := eq_true c6
  have c6b1 : decide (0 ≤ (l0_1.length : Int)) = true := decide_eq_true c6
  clear c6
  by_cases c7 : ((l0_1.length : Int) : Int).toNat ≤ 140737488355328
  ·rw [if_pos c7] at H
   have c7b0 := eq_true c7
   have c7b1 : decide (((l0_1.length : Int) : Int).toNat ≤ 140737488355328) = true := decide_eq_true c7
   clear c7
   obtain ⟨y155, hy155⟩ : ∃ y_ : List Int, y_ = (List.replicate ((l0_1.length : Int) : Int).toNat 0) := ⟨_, rfl⟩
   replace H : (lint_flow.l0 k a1 a2 t152 y155 (y155.length : Int) 0 a0_0 l0_1) = some r := by first|(rw [hy155];with_reducible exact H)|(have H2_ := (Option.bind_some _ _).symm.trans H;rw [hy155];with_reducible exact H2_)|(have H2_ := (Option.bind_some _ _).symm.trans H;with_reducible exact H2_)|with_reducible exact H|(rw [hy155];exact H)|exact H
   have Ny155 := Aside0.mk hy155
   clear hy155
   have H' := Aside0.mk H
   clear H
   go_enter Try.func62, Try.ntmps62
   go_wp2_with (first|((with_reducible refine gate_dst (N := 4) rfl ?_);refine box_event ?hg (N := 4) ?hd (cs := #[.int .i64 a0_0, .slice A0_1 l0_1.length c0_1]) (t := 24) ?hr ?_;(case hd => rfl);(case hg => rfl);(case hr => first|(go_simp;done)|(go_simp;rfl));intro gb151 hg w8 hbox hb;have n0_ := Aside0.mk (below_step (by repeat (with_reducible first|exact HB.out|apply xa|apply xb|apply xc)) hb);have n1_ := Aside0.mk (hbox);have n2_ := Aside0.mk ((by rw [hg];exact (below_size (by repeat (with_reducible first|exact HB.out|apply xa|apply xb|apply xc))) : w.heap.size ≤ gb151));have n3_ := Aside0.mk ((by rw [hg];exact (below_size (by repeat (with_reducible first|exact HB.out|apply xa|apply xb|apply xc))) : w.heap.size ≤ gb151));clear HB;have HB := n0_;have BK151 := n1_;have GW151 := n2_;have GE151 := n3_;clear n0_ n1_ n2_ n3_;clear hb hbox hg;have hcz9_0 : w8.cell? ⟨gb151, 0, none⟩ = some (.int .i64 a0_0) := (blk_cell BK151.out 0).trans rfl;have hcz9_1 : w8.cell? ⟨gb151, 1, none⟩ = some (.slice A0_1 l0_1.length c0_1) := (blk_cell BK151.out 1).trans rfl;have hfz9_0 := blk_frozen BK151.out 0;have hfz9_1 := blk_frozen BK151.out 1)|((with_reducible refine gate_callee (f := 19) rfl ?_);refine goesL_ (some 20) rfl rfl Try.func19 (by kernel_rfl) rfl #[.agg #[.int .i64 a0_0, .slice A0_1 l0_1.length c0_1]] rfl (by (try simp only [List.map_toArray, List.map_cons, List.map_nil]);first|done|rfl|(simp only [List.length_drop, List.length_take];rfl)) ?_;(with_reducible refine (lint_Reach.calls k a0_0 _ _ l0_1 t152 _ ?side1 ?side2 A5.out).mono ?_);(case side1 => repeat (first|exact (Kd.C_below HR0_1.out HB.out)|(with_reducible refine Kd.C_alloc ?_ _)|(with_reducible refine Kd.C_drewN ?_ _)|(with_reducible refine Kd.C_drew ?_)));(case side2 => exact HC0_1.out);rintro e w10 ⟨v153, rfl, ho0, hb⟩;refine ⟨_, rfl, ?_⟩;have n0_ := Aside0.mk (Kd.R_lower ho0 (below_size (by repeat (first|(with_reducible first|exact HB.out|apply xa|apply xb|apply xc|refine below_set ?_ GE151.out)|exact HB.out))));have n1_ := Aside0.mk (blk_below (g := gb151) (o := .cells #[.int .i64 a0_0, .slice A0_1 l0_1.length c0_1] 24 (0, 0)) (by (with_reducible repeat (first|apply blk_drewN|apply blk_drew|apply blk_alloc));exact BK151.out) hb);have n2_ := Aside0.mk (below_step (by repeat (first|(with_reducible first|exact HB.out|apply xa|apply xb|apply xc|refine below_set ?_ GE151.out)|exact HB.out)) hb);clear BK151;clear HB;have HO154 := n0_;have BK151 := n1_;have HB := n2_;clear n0_ n1_ n2_;(try clear hb);(try clear hb2);(try clear hk);(try clear hi);(try clear ho0);have hcz11_0 : w10.cell? ⟨gb151, 0, none⟩ = some (.int .i64 a0_0) := (blk_cell BK151.out 0).trans rfl;have hcz11_1 : w10.cell? ⟨gb151, 1, none⟩ = some (.slice A0_1 l0_1.length c0_1) := (blk_cell BK151.out 1).trans rfl;have hfz11_0 := blk_frozen BK151.out 0;have hfz11_1 := blk_frozen BK151.out 1)|((with_reducible refine gate_dst (N := 24) rfl ?_);refine Kd.R_make (Kd.int .u16) _ 39 rfl (N := 24) rfl 35 _ _ rfl (l0_1.length : Int) rfl rfl Try.underlying35 (.int .u16 0) 2 info39 rfl (by decide) (by omega) 0 (ok := fun _ => True) (okp := fun _ => True) rfl (fun _ hk => hk) trivial (of_decide_eq_true (by assumption)) (Nat.le_trans (Nat.mul_le_mul_right _ (of_decide_eq_true (by assumption) : (l0_1.length : Int).toNat ≤ 140737488355328)) (by omega)) (Below.refl _ _) (Nat.le_refl _) ?_;intro v156 w12 ho13 hb hg_ hnew_;clear hg_ hnew_;(first|rw [← Ny155.out] at ho13|(simp only [Int.reduceToNat] at ho13;rw [← Ny155.out] at ho13));have n0_ := Aside0.mk (Kd.R_below (by (with_reducible repeat (first|apply Kd.R_alloc|apply Kd.R_drewN|apply Kd.R_drew));exact HO154.out) hb);have n1_ := Aside0.mk (Kd.R_lower ho13 (below_size (by repeat (first|(with_reducible first|exact HB.out|apply xa|apply xb|apply xc|refine below_set ?_ GE151.out)|exact HB.out))));have n2_ := Aside0.mk (blk_below (g := gb151) (o := .cells #[.int .i64 a0_0, .slice A0_1 l0_1.length c0_1] 24 (0, 0)) (by (with_reducible repeat (first|apply blk_drewN|apply blk_drew|apply blk_alloc));exact BK151.out) hb);have n3_ := Aside0.mk (below_step (by repeat (first|(with_reducible first|exact HB.out|apply xa|apply xb|apply xc|refine below_set ?_ GE151.out)|exact HB.out)) hb);clear HO154;clear BK151;clear HB;have HO154 := n0_;have HO157 := n1_;have BK151 := n2_;have HB := n3_;clear n0_ n1_ n2_ n3_;clear hb ho13;obtain ⟨Ao14, co14, eo14⟩ := Kd.R_slice HO157.out;subst eo14))
   go_loopg [27] k (fun kq v27 w' => ∃ (x10_1 : List Int) (x27_1 : Int), v27 = .int .i64 x27_1 ∧ Aside0 (lint_flow.l0 kq a1 a2 t152 x10_1 (y155.length : Int) x27_1 a0_0 l0_1 = some r) ∧ Aside0 (kq ≤ k) ∧ Aside0 (Kd.R Kd.bool 4 w' w.heap.size (fun _ => True) v153 t152) ∧ Aside0 (Kd.R (Kd.int .u16) 39 w' w.heap.size (fun _ => True) (.slice Ao14 y155.length co14) x10_1) ∧ Aside0 (w'.heap[gb151]? = some (.cells #[.int .i64 a0_0, (.slice A0_1 l0_1.length c0_1)] 24 (0, 0))) ∧ Aside0 (Below w.heap.size w w'))
   case atStart => exact ⟨(y155), (0), (by first|rfl|(simp;done)|(simp [*];done)), H', ⟨Nat.le_refl _⟩, ⟨by (with_reducible repeat (first|apply Kd.R_alloc|apply Kd.R_drewN|apply Kd.R_drew));exact HO154.out⟩, ⟨by (with_reducible repeat (first|apply Kd.R_alloc|apply Kd.R_drewN|apply Kd.R_drew));exact HO157.out⟩, ⟨by (with_reducible repeat (first|apply blk_drewN|apply blk_drew|apply blk_alloc));exact BK151.out⟩, ⟨by repeat (first|(with_reducible first|exact HB.out|apply xa|apply xb|apply xc|refine below_set ?_ GE151.out)|exact HB.out)⟩⟩
   case round =>
    clear H'
    try clear c1
    try clear p2
    try clear c6
    try clear c6b0
    try clear c6b1
    try clear c7
    try clear c7b0
    try clear c7b1
    try clear hcz11_0
    try clear hcz11_1
    try clear hcz9_0
    try clear hcz9_1
    try clear hfz11_0
    try clear hfz11_1
    try clear hfz9_0
    try clear hfz9_1
    obtain ⟨x10_1, x27_1, rfl, HA, HK1, HO_9, HO_10, BK151, HB⟩ := hrel
    have hl10_1 := (Kd.R_reads' HO_10.out).1
    rw [hl10_1] at HO_10
    (try simp only [hl10_1])
    (try simp only [hl10_1] at BK151)
    (try simp only [hl10_1] at HO_9)
    cases gk with
    | zero => exact absurd HA.out (by simp [lint_flow.l0])
    | succ k1 =>
     have H := HA.out
     clear HA
     simp only [lint_flow.l0] at H
     by_cases c15 : x27_1 < (y155.length : Int)
     ·rw [if_pos c15] at H
      have c15b0 : decide (x27_1 < (y155.length : Int)) = true := decide_eq_true c15
      have c15b9 := c15b0
      (try simp only [hl10_1] at c15b9)
      clear c15
      by_cases c16 : 0 ≤ x27_1
      ·rw [if_pos c16] at H
       have c16b0 : decide (0 ≤ x27_1) = true := decide_eq_true c16
       clear c16
       by_cases c17 : x27_1 < (t152.length : Int)
       ·rw [if_pos c17] at H
        have c17b0 : decide (x27_1 < (t152.length : Int)) = true := decide_eq_true c17
        clear c17
        obtain ⟨bq18, hbq18⟩ : ∃ b_ : Bool, b_ = (rdOf false t152 x27_1) := ⟨_, rfl⟩
        replace H : (if bq18 = true then (if x27_1 > 0 then (if x27_1 < (x10_1.length : Int) then (lint_flow.l0 k1 a1 a2 t152 (x10_1.set (x27_1 : Int).toNat a2) (y155.length : Int) (wrap64 (x27_1 + 1)) a0_0 l0_1) else (none)) else (lint_flow.l0 k1 a1 a2 t152 x10_1 (y155.length : Int) (wrap64 (x27_1 + 1)) a0_0 l0_1)) else (lint_flow.l0 k1 a1 a2 t152 x10_1 (y155.length : Int) (wrap64 (x27_1 + 1)) a0_0 l0_1)) = some r := by rw [← hbq18] at H;exact H
        have Nbq18 := Aside0.mk hbq18
        (try rw [← Nbq18.out] at c15b0)
        (try rw [← Nbq18.out] at c15b1)
        (try rw [← Nbq18.out] at c15b2)
        (try rw [← Nbq18.out] at c15b3)
        (try rw [← Nbq18.out] at c16b0)
        (try rw [← Nbq18.out] at c16b1)
        (try rw [← Nbq18.out] at c16b2)
        (try rw [← Nbq18.out] at c16b3)
        (try rw [← Nbq18.out] at c17b0)
        (try rw [← Nbq18.out] at c17b1)
        (try rw [← Nbq18.out] at c17b2)
        (try rw [← Nbq18.out] at c17b3)
        clear hbq18
        by_cases c19 : bq18 = true
        ·subst c19
         have H1 : (if x27_1 > 0 then (if x27_1 < (x10_1.length : Int) then (lint_flow.l0 k1 a1 a2 t152 (x10_1.set (x27_1 : Int).toNat a2) (y155.length : Int) (wrap64 (x27_1 + 1)) a0_0 l0_1) else (none)) else (lint_flow.l0 k1 a1 a2 t152 x10_1 (y155.length : Int) (wrap64 (x27_1 + 1)) a0_0 l0_1)) = some r := by rw [if_pos rfl] at H;exact H
         clear H
         have H := H1
         clear H1
         by_cases c20 : x27_1 > 0
         ·rw [if_pos c20] at H
          have c20b0 : decide (0 < x27_1) = true := decide_eq_true c20
          clear c20
          by_cases c21 : x27_1 < (x10_1.length : Int)
          ·rw [if_pos c21] at H
           have c21b0 : decide (x27_1 < (x10_1.length : Int)) = true := decide_eq_true c21
           have c21b9 := c21b0
           (try simp only [hl10_1] at c21b9)
           clear c21
           obtain ⟨y159, hy159⟩ : ∃ y_ : List Int, y_ = (x10_1.set (x27_1 : Int).toNat a2) := ⟨_, rfl⟩
           replace H : (lint_flow.l0 k1 a1 a2 t152 y159 (y155.length : Int) (wrap64 (x27_1 + 1)) a0_0 l0_1) = some r := by first|(rw [hy159];with_reducible exact H)|(have H2_ := (Option.bind_some _ _).symm.trans H;rw [hy159];with_reducible exact H2_)|(have H2_ := (Option.bind_some _ _).symm.trans H;with_reducible exact H2_)|with_reducible exact H|(rw [hy159];exact H)|exact H
           have Ny159 := Aside0.mk hy159
           clear hy159
           have H' := Aside0.mk H
           clear H
           obtain ⟨Ao23, co23, eo23⟩ := Kd.R_slice HO_9.out
           subst eo23
           have p158 : 0 ≤ (x27_1 : Int) := of_decide_eq_true (by assumption)
           have q158 : x27_1 < (t152.length : Int) := of_decide_eq_true (by assumption)
           obtain ⟨ad158, e158, hx158_0⟩ := Kd.at_bool (Kd.R_reads' HO_9.out).2.2 x27_1 p158 q158
           (try rw [← Nbq18.out] at hx158_0)
           cases e158
           replace p158 := eq_true p158
           replace q158 := eq_true q158
           have p22 : 0 ≤ (x27_1 : Int) := of_decide_eq_true (by assumption)
           have q22 : (x27_1 : Int) < ((x10_1.length : Int) : Int) := of_decide_eq_true (by assumption)
           obtain ⟨go22, co22, eo22, gb22, gl22, cl22, HG22⟩ := Kd.R_form HO_10.out (by omega)
           (first|cases eo22|(injection eo22 with ea_ en_ ec_;(first|subst ea_|(injection ea_ with ea_;subst ea_));subst ec_;clear en_))
           have GB22 := Aside0.mk gb22
           have GG22 := Aside0.mk HG22
           clear gb22 gl22 HG22
           obtain ⟨hx22_0, hf22_0⟩ := Kd.R_celln 0 HO_10.out (x27_1 : Int) p22 q22
           replace p22 := eq_true p22
           replace q22 := eq_true q22
           have HP24 := Kd.R_putg HO_10.out (x27_1 : Int) a2
           go_wp2_with (first|((with_reducible refine gate_store (t := 39) (p := 41) rfl ?_);refine store_event (t := 39) (p := 41) (v := ?vo_w25) (w1 := (wr.setCell ⟨go22, (x27_1 : Int).toNat, none⟩ (.int .u16 a2))) ?hg ?ho ?hn ?hr ?_;(case ho => rfl);(case hg => rfl);(case hn => rfl);(case hr => first|(go_simp;done)|(go_simp;rfl));intro w25 hw;have hg : wr.grownBy w25 (some go22) := (by rw [hw];exact HP24.2);have hp_ : Kd.R (Kd.int .u16) 39 w25 w.heap.size (fun _ => True) (.slice (some ⟨go22, 0, none⟩) x10_1.length co14) y159 := (by rw [hw, Ny159.out];exact HP24.1);clear HP24;have n0_ := Aside0.mk (Kd.R_over' (v := (.slice (some ⟨go22, 0, none⟩) x10_1.length co14)) (by (with_reducible repeat (first|apply Kd.R_alloc|apply Kd.R_drewN|apply Kd.R_drew));exact HO_9.out) (Kd.R_typed HO_10.out) (by decide) hg);have n1_ := Aside0.mk (hp_);have n2_ := Aside0.mk (blk_grown (g := gb151) (o := .cells #[.int .i64 a0_0, .slice A0_1 l0_1.length c0_1] 24 (0, 0)) (by (with_reducible repeat (first|apply blk_drewN|apply blk_drew|apply blk_alloc));exact BK151.out) hg (Kd.R_ne HO_10.out BK151.out (by decide)));have n3_ := Aside0.mk ((by rw [hw];exact below_set (HB.out) GB22.out : Below w.heap.size w w25));clear HO_9;clear HO_10;clear BK151;clear HB;have HO_9 := n0_;have HO_10 := n1_;have BK151 := n2_;have HB := n3_;clear n0_ n1_ n2_ n3_;clear hg hw hp_))
           (try simp only [← hl10_1])
           (try simp only [px_add0] at *)
           go_roundg k1
           case measure => have := HK1.out;omega
           case rel => exact ⟨(y159), (wrap64 (x27_1 + 1)), (by first|rfl|(simp;done)|(simp [*];done)), H', ⟨by have := HK1.out;omega⟩, ⟨by (try simp only [hl10_1]);(with_reducible repeat (first|apply Kd.R_alloc|apply Kd.R_drewN|apply Kd.R_drew));exact HO_9.out⟩, ⟨by (try simp only [hl10_1]);(with_reducible repeat (first|apply Kd.R_alloc|apply Kd.R_drewN|apply Kd.R_drew));exact HO_10.out⟩, ⟨by (try simp only [hl10_1]);(with_reducible repeat (first|apply blk_drewN|apply blk_drew|apply blk_alloc));exact BK151.out⟩, ⟨by repeat (first|(with_reducible first|exact HB.out|apply xa|apply xb|apply xc|refine below_set ?_ GE151.out)|exact HB.out)⟩⟩
          ·rw [if_neg c21] at H
           exact absurd H (by simp)
         ·rw [if_neg c20] at H
          have c20b0 : decide (0 < x27_1) = false := decide_eq_false c20
          clear c20
          have H' := Aside0.mk H
          clear H
          obtain ⟨Ao26, co26, eo26⟩ := Kd.R_slice HO_9.out
          subst eo26
          have p158 : 0 ≤ (x27_1 : Int) := of_decide_eq_true (by assumption)
          have q158 : x27_1 < (t152.length : Int) := of_decide_eq_true (by assumption)
          obtain ⟨ad158, e158, hx158_0⟩ := Kd.at_bool (Kd.R_reads' HO_9.out).2.2 x27_1 p158 q158
          (try rw [← Nbq18.out] at hx158_0)
          cases e158
          replace p158 := eq_true p158
          replace q158 := eq_true q158
          go_wp2
          (try simp only [← hl10_1])
          (try simp only [px_add0] at *)
          go_roundg k1
          case measure => have := HK1.out;omega
          case rel => exact ⟨(x10_1), (wrap64 (x27_1 + 1)), (by first|rfl|(simp;done)|(simp [*];done)), H', ⟨by have := HK1.out;omega⟩, ⟨by (try simp only [hl10_1]);(with_reducible repeat (first|apply Kd.R_alloc|apply Kd.R_drewN|apply Kd.R_drew));exact HO_9.out⟩, ⟨by (try simp only [hl10_1]);(with_reducible repeat (first|apply Kd.R_alloc|apply Kd.R_drewN|apply Kd.R_drew));exact HO_10.out⟩, ⟨by (try simp only [hl10_1]);(with_reducible repeat (first|apply blk_drewN|apply blk_drew|apply blk_alloc));exact BK151.out⟩, ⟨by repeat (first|(with_reducible first|exact HB.out|apply xa|apply xb|apply xc|refine below_set ?_ GE151.out)|exact HB.out)⟩⟩
        ·replace c19 := Bool.eq_false_iff.mpr c19
         subst c19
         have H1 : (lint_flow.l0 k1 a1 a2 t152 x10_1 (y155.length : Int) (wrap64 (x27_1 + 1)) a0_0 l0_1) = some r := by rw [if_neg (show ¬ (false = true) by decide)] at H;exact H
         clear H
         have H := H1
         clear H1
         have H' := Aside0.mk H
         clear H
         obtain ⟨Ao27, co27, eo27⟩ := Kd.R_slice HO_9.out
         subst eo27
         have p158 : 0 ≤ (x27_1 : Int) := of_decide_eq_true (by assumption)
         have q158 : x27_1 < (t152.length : Int) := of_decide_eq_true (by assumption)
         obtain ⟨ad158, e158, hx158_0⟩ := Kd.at_bool (Kd.R_reads' HO_9.out).2.2 x27_1 p158 q158
         (try rw [← Nbq18.out] at hx158_0)
         cases e158
         replace p158 := eq_true p158
         replace q158 := eq_true q158
         go_wp2
         (try simp only [← hl10_1])
         (try simp only [px_add0] at *)
         go_roundg k1
         case measure => have := HK1.out;omega
         case rel => exact ⟨(x10_1), (wrap64 (x27_1 + 1)), (by first|rfl|(simp;done)|(simp [*];done)), H', ⟨by have := HK1.out;omega⟩, ⟨by (try simp only [hl10_1]);(with_reducible repeat (first|apply Kd.R_alloc|apply Kd.R_drewN|apply Kd.R_drew));exact HO_9.out⟩, ⟨by (try simp only [hl10_1]);(with_reducible repeat (first|apply Kd.R_alloc|apply Kd.R_drewN|apply Kd.R_drew));exact HO_10.out⟩, ⟨by (try simp only [hl10_1]);(with_reducible repeat (first|apply blk_drewN|apply blk_drew|apply blk_alloc));exact BK151.out⟩, ⟨by repeat (first|(with_reducible first|exact HB.out|apply xa|apply xb|apply xc|refine below_set ?_ GE151.out)|exact HB.out)⟩⟩
       ·rw [if_neg c17] at H
        exact absurd H (by simp)
      ·rw [if_neg c16] at H
       exact absurd H (by simp)
     ·rw [if_neg c15] at H
      have c15b0 : decide (x27_1 < (y155.length : Int)) = false := decide_eq_false c15
      have c15b9 := c15b0
      (try simp only [hl10_1] at c15b9)
      clear c15
      have H' := Aside0.mk H
      clear H
      go_wp2
      go_loopg [12] k1 (fun kq v12 w' => ∃ (x10_2 : List Int) (x12_2 : Bool), v12 = .bool x12_2 ∧ Aside0 (lint_flow.l1 kq a1 t152 x10_2 x12_2 a0_0 l0_1 = some r) ∧ Aside0 (kq ≤ k1) ∧ Aside0 (Kd.R Kd.bool 4 w' w.heap.size (fun _ => True) v153 t152) ∧ Aside0 (Kd.R (Kd.int .u16) 39 w' w.heap.size (fun _ => True) (.slice Ao14 x10_1.length co14) x10_2) ∧ Aside0 (w'.heap[gb151]? = some (.cells #[.int .i64 a0_0, (.slice A0_1 l0_1.length c0_1)] 24 (0, 0))) ∧ Aside0 (Below w.heap.size w w'))
      case atStart => exact ⟨(x10_1), (true), (by first|rfl|(simp;done)|(simp [*];done)), H', ⟨Nat.le_refl _⟩, ⟨by (try simp only [hl10_1]);(with_reducible repeat (first|apply Kd.R_alloc|apply Kd.R_drewN|apply Kd.R_drew));exact HO_9.out⟩, ⟨by (try simp only [hl10_1]);(with_reducible repeat (first|apply Kd.R_alloc|apply Kd.R_drewN|apply Kd.R_drew));exact HO_10.out⟩, ⟨by (try simp only [hl10_1]);(with_reducible repeat (first|apply blk_drewN|apply blk_drew|apply blk_alloc));exact BK151.out⟩, ⟨by repeat (first|(with_reducible first|exact HB.out|apply xa|apply xb|apply xc|refine below_set ?_ GE151.out)|exact HB.out)⟩⟩
      case round =>
       clear H'
       try clear c1
       try clear p1
       try clear q1
       try clear hx1
       try clear c2
       try clear p2
       try clear q2
       try clear hx2
       try clear c6
       try clear c6b0
       try clear c6b1
       try clear p6
       try clear c7
       try clear c7b0
       try clear c7b1
       try clear c15
       try clear c15b0
       try clear p15
       try clear q15
       try clear hx15
       try clear c16
       try clear c16b0
       try clear c17
       try clear c17b0
       try clear q18
       try clear c19
       try clear c20
       try clear c20b0
       try clear c21
       try clear c21b0
       try clear p22
       try clear q22
       try clear hx22
       try clear hf22
       try clear hcz11_0
       try clear hcz11_1
       try clear hcz9_0
       try clear hcz9_1
       try clear hfz11_0
       try clear hfz11_1
       try clear hfz9_0
       try clear hfz9_1
       try clear hx158_0
       try clear hx22_0
       try clear p158
       try clear p2
       try clear p22
       try clear q158
       try clear q22
       obtain ⟨x10_2, x12_2, rfl, HA, HK2, HO_9, HO_10, BK151, HB⟩ := hrel
       have hl10_2 := (Kd.R_reads' HO_10.out).1
       rw [hl10_2] at HO_10
       (try simp only [hl10_2])
       (try simp only [hl10_2] at BK151)
       (try simp only [hl10_2] at HO_9)
       cases gk with
       | zero => exact absurd HA.out (by simp [lint_flow.l1])
       | succ k2 =>
        have H := HA.out
        clear HA
        simp only [lint_flow.l1] at H
        by_cases c28 : x12_2 = true
        ·subst c28
         have H1 : (lint_flow.l2 k2 a1 t152 x10_2 false l0_1 (l0_1.length : Int) 0 a0_0 l0_1) = some r := by rw [if_pos rfl] at H;exact H
         clear H
         have H := H1
         clear H1
         have H' := Aside0.mk H
         clear H
         have hcz29_0 : wr.cell? ⟨gb151, 0, none⟩ = some (.int .i64 a0_0) := (blk_cell BK151.out 0).trans rfl
         have hcz29_1 : wr.cell? ⟨gb151, 1, none⟩ = some (.slice A0_1 l0_1.length c0_1) := (blk_cell BK151.out 1).trans rfl
         have hfz29_0 := blk_frozen BK151.out 0
         have hfz29_1 := blk_frozen BK151.out 1
         go_wp2
         go_loopg [12, 47] k2 (fun kq v12 v47 w' => ∃ (x10_3 : List Int) (x12_3 : Bool) (x47_3 : Int), v12 = .bool x12_3 ∧ v47 = .int .i64 x47_3 ∧ Aside0 (lint_flow.l2 kq a1 t152 x10_3 x12_3 l0_1 (l0_1.length : Int) x47_3 a0_0 l0_1 = some r) ∧ Aside0 (kq ≤ k2) ∧ Aside0 (Kd.R Kd.bool 4 w' w.heap.size (fun _ => True) v153 t152) ∧ Aside0 (Kd.R (Kd.int .u16) 39 w' w.heap.size (fun _ => True) (.slice Ao14 x10_2.length co14) x10_3) ∧ Aside0 (w'.heap[gb151]? = some (.cells #[.int .i64 a0_0, (.slice A0_1 l0_1.length c0_1)] 24 (0, 0))) ∧ Aside0 (Below w.heap.size w w'))
         case atStart => exact ⟨(x10_2), (false), (0), (by first|rfl|(simp;done)|(simp [*];done)), (by first|rfl|(simp;done)|(simp [*];done)), H', ⟨Nat.le_refl _⟩, ⟨by (try simp only [hl10_1]);(try simp only [hl10_2]);(with_reducible repeat (first|apply Kd.R_alloc|apply Kd.R_drewN|apply Kd.R_drew));exact HO_9.out⟩, ⟨by (try simp only [hl10_1]);(try simp only [hl10_2]);(with_reducible repeat (first|apply Kd.R_alloc|apply Kd.R_drewN|apply Kd.R_drew));exact HO_10.out⟩, ⟨by (try simp only [hl10_1]);(try simp only [hl10_2]);(with_reducible repeat (first|apply blk_drewN|apply blk_drew|apply blk_alloc));exact BK151.out⟩, ⟨by repeat (first|(with_reducible first|exact HB.out|apply xa|apply xb|apply xc|refine below_set ?_ GE151.out)|exact HB.out)⟩⟩
         case round =>
          clear H'
          try clear c1
          try clear p1
          try clear q1
          try clear hx1
          try clear c2
          try clear p2
          try clear q2
          try clear hx2
          try clear c6
          try clear c6b0
          try clear c6b1
          try clear p6
          try clear c7
          try clear c7b0
          try clear c7b1
          try clear c15
          try clear c15b0
          try clear p15
          try clear q15
          try clear hx15
          try clear c16
          try clear c16b0
          try clear c17
          try clear c17b0
          try clear q18
          try clear c19
          try clear c20
          try clear c20b0
          try clear c21
          try clear c21b0
          try clear p22
          try clear q22
          try clear hx22
          try clear hf22
          try clear c28
          try clear hcz11_0
          try clear hcz11_1
          try clear hcz29_0
          try clear hcz29_1
          try clear hcz9_0
          try clear hcz9_1
          try clear hfz11_0
          try clear hfz11_1
          try clear hfz29_0
          try clear hfz29_1
          try clear hfz9_0
          try clear hfz9_1
          try clear hx158_0
          try clear hx22_0
          try clear p1
          try clear p15
          try clear p158
          try clear p2
          try clear p22
          try clear p6
          try clear q1
          try clear q15
          try clear q158
          try clear q18
          try clear q2
          try clear q22
          obtain ⟨x10_3, x12_3, x47_3, rfl, rfl, HA, HK3, HO_9, HO_10, BK151, HB⟩ := hrel
          have hl10_3 := (Kd.R_reads' HO_10.out).1
          rw [hl10_3] at HO_10
          (try simp only [hl10_3])
          (try simp only [hl10_3] at BK151)
          (try simp only [hl10_3] at HO_9)
          cases gk with
          | zero => exact absurd HA.out (by simp [lint_flow.l2])
          | succ k3 =>
           have H := HA.out
           clear HA
           simp only [lint_flow.l2] at H
           by_cases c30 : x47_3 < (l0_1.length : Int)
           ·rw [if_pos c30] at H
            have c30b0 : decide (x47_3 < (l0_1.length : Int)) = true := decide_eq_true c30
            clear c30
            by_cases c31 : 0 ≤ x47_3
            ·rw [if_pos c31] at H
             have c31b0 : decide (0 ≤ x47_3) = true := decide_eq_true c31
             clear c31
             by_cases c32 : x47_3 < (l0_1.length : Int)
             ·rw [if_pos c32] at H
              have c32b0 : decide (x47_3 < (l0_1.length : Int)) = true := decide_eq_true c32
              clear c32
              by_cases c33 : x47_3 < (t152.length : Int)
              ·rw [if_pos c33] at H
               have c33b0 : decide (x47_3 < (t152.length : Int)) = true := decide_eq_true c33
               clear c33
               obtain ⟨bq34, hbq34⟩ : ∃ b_ : Bool, b_ = (rdOf false t152 x47_3) := ⟨_, rfl⟩
               replace H : (if bq34 = true then (if x47_3 < (x10_3.length : Int) then ((lint_behind.f k3 ((rd_T41 l0_1 x47_3).f0) ((rd_T41 l0_1 x47_3).f1) ((rd_T41 l0_1 x47_3).f2) ((rd_T41 l0_1 x47_3).f3) (rd x10_3 x47_3) a1).bind fun t164 => ((lint_Next.f k3 a0_0 l0_1 x47_3).bind fun t165 => (lint_flow.l3 k3 a1 t152 x10_3 x12_3 t164 l0_1 (l0_1.length : Int) x47_3 t165 (t165.length : Int) 0 a0_0 l0_1))) else (none)) else (lint_flow.l2 k3 a1 t152 x10_3 x12_3 l0_1 (l0_1.length : Int) (wrap64 (x47_3 + 1)) a0_0 l0_1)) = some r := by rw [← hbq34] at H;exact H
               have Nbq34 := Aside0.mk hbq34
               (try rw [← Nbq34.out] at c31b0)
               (try rw [← Nbq34.out] at c31b1)
               (try rw [← Nbq34.out] at c31b2)
               (try rw [← Nbq34.out] at c31b3)
               (try rw [← Nbq34.out] at c32b0)
               (try rw [← Nbq34.out] at c32b1)
               (try rw [← Nbq34.out] at c32b2)
               (try rw [← Nbq34.out] at c32b3)
               (try rw [← Nbq34.out] at c33b0)
               (try rw [← Nbq34.out] at c33b1)
               (try rw [← Nbq34.out] at c33b2)
               (try rw [← Nbq34.out] at c33b3)
               clear hbq34
               by_cases c35 : bq34 = true
               ·subst c35
                have H1 : (if x47_3 < (x10_3.length : Int) then ((lint_behind.f k3 ((rd_T41 l0_1 x47_3).f0) ((rd_T41 l0_1 x47_3).f1) ((rd_T41 l0_1 x47_3).f2) ((rd_T41 l0_1 x47_3).f3) (rd x10_3 x47_3) a1).bind fun t164 => ((lint_Next.f k3 a0_0 l0_1 x47_3).bind fun t165 => (lint_flow.l3 k3 a1 t152 x10_3 x12_3 t164 l0_1 (l0_1.length : Int) x47_3 t165 (t165.length : Int) 0 a0_0 l0_1))) else (none)) = some r := by rw [if_pos rfl] at H;exact H
                clear H
                have H := H1
                clear H1
                by_cases c36 : x47_3 < (x10_3.length : Int)
                ·rw [if_pos c36] at H
                 have c36b0 : decide (x47_3 < (x10_3.length : Int)) = true := decide_eq_true c36
                 have c36b9 := c36b0
                 (try simp only [hl10_1] at c36b9)
                 (try simp only [hl10_2] at c36b9)
                 (try simp only [hl10_3] at c36b9)
                 clear c36
                 replace H := Option.bind_eq_some_iff.mp H
                 obtain ⟨t164, A370, H⟩ := H
                 replace H : ((lint_Next.f k3 a0_0 l0_1 x47_3).bind fun t165 => (lint_flow.l3 k3 a1 t152 x10_3 x12_3 t164 l0_1 (l0_1.length : Int) x47_3 t165 (t165.length : Int) 0 a0_0 l0_1)) = some r := H
                 have A37 := Aside0.mk A370
                 clear A370
                 replace H := Option.bind_eq_some_iff.mp H
                 obtain ⟨t165, A380, H⟩ := H
                 replace H : (lint_flow.l3 k3 a1 t152 x10_3 x12_3 t164 l0_1 (l0_1.length : Int) x47_3 t165 (t165.length : Int) 0 a0_0 l0_1) = some r := H
                 have A38 := Aside0.mk A380
                 clear A380
                 have H' := Aside0.mk H
                 clear H
                 have p160 : 0 ≤ (x47_3 : Int) := of_decide_eq_true (by assumption)
                 have q160 : x47_3 < (l0_1.length : Int) := of_decide_eq_true (by assumption)
                 obtain ⟨ad160, e160, hx160_0, hx160_1, hx160_2, hx160_3⟩ := at_T41 HR0_1.out x47_3 p160 q160
                 cases e160
                 replace hx160_0 := (HB.out.cell (World.block_lt_of_cell? w _ hx160_0)).trans hx160_0
                 replace hx160_1 := (HB.out.cell (World.block_lt_of_cell? w _ hx160_1)).trans hx160_1
                 replace hx160_2 := (HB.out.cell (World.block_lt_of_cell? w _ hx160_2)).trans hx160_2
                 replace hx160_3 := (HB.out.cell (World.block_lt_of_cell? w _ hx160_3)).trans hx160_3
                 replace p160 := eq_true p160
                 replace q160 := eq_true q160
                 try go_wp2_with (first|((with_reducible refine gate_dst (N := 14) rfl ?_);refine box_event ?hg (N := 14) ?hd (cs := #[.int .i64 0, .int .i64 0, .int .i64 0, .int .i32 0]) (t := 41) ?hr ?_;(case hd => rfl);(case hg => rfl);(case hr => first|(go_simp;done)|(go_simp;rfl));intro gb161 hg w39 hbox hb;have n0_ := Aside0.mk (Kd.R_below (by (with_reducible repeat (first|apply Kd.R_alloc|apply Kd.R_drewN|apply Kd.R_drew));exact HO_9.out) hb);have n1_ := Aside0.mk (Kd.R_below (by (with_reducible repeat (first|apply Kd.R_alloc|apply Kd.R_drewN|apply Kd.R_drew));exact HO_10.out) hb);have n2_ := Aside0.mk (blk_below (g := gb151) (o := .cells #[.int .i64 a0_0, .slice (some ad160) l0_1.length c0_1] 24 (0, 0)) (by (with_reducible repeat (first|apply blk_drewN|apply blk_drew|apply blk_alloc));exact BK151.out) hb);have n3_ := Aside0.mk (below_step (by repeat (first|(with_reducible first|exact HB.out|apply xa|apply xb|apply xc|refine below_set ?_ GE151.out)|exact HB.out)) hb);have n4_ := Aside0.mk (hbox);have n5_ := Aside0.mk ((by rw [hg];exact (below_size (by repeat (first|(with_reducible first|exact HB.out|apply xa|apply xb|apply xc|refine below_set ?_ GE151.out)|exact HB.out))) : w.heap.size ≤ gb161));have n6_ := Aside0.mk ((by rw [hg];exact (below_size (by repeat (first|(with_reducible first|exact HB.out|apply xa|apply xb|apply xc|refine below_set ?_ GE151.out)|exact HB.out))) : w.heap.size ≤ gb161));have n7_ := Aside0.mk ((by rw [hg];exact Nat.ne_of_lt (blk_lt (g := gb151) (o := .cells #[.int .i64 a0_0, .slice (some ad160) l0_1.length c0_1] 24 (0, 0)) (by (with_reducible repeat (first|apply blk_drewN|apply blk_drew|apply blk_alloc));exact BK151.out)) : gb151 ≠ gb161));have n8_ := Aside0.mk ((by rw [hg];exact Nat.ne_of_gt (blk_lt (g := gb151) (o := .cells #[.int .i64 a0_0, .slice (some ad160) l0_1.length c0_1] 24 (0, 0)) (by (with_reducible repeat (first|apply blk_drewN|apply blk_drew|apply blk_alloc));exact BK151.out)) : gb161 ≠ gb151));clear HO_9;clear HO_10;clear BK151;clear HB;have HO_9 := n0_;have HO_10 := n1_;have BK151 := n2_;have HB := n3_;have BK161 := n4_;have GW161 := n5_;have GE161 := n6_;have NB151_161 := n7_;have NB161_151 := n8_;clear n0_ n1_ n2_ n3_ n4_ n5_ n6_ n7_ n8_;clear hb hbox hg;have hnb40 := NB161_151.out;have hnc40 := NB151_161.out;have hcz41_0 : w39.cell? ⟨gb161, 0, none⟩ = some (.int .i64 0) := (blk_cell BK161.out 0).trans rfl;have hcz41_1 : w39.cell? ⟨gb161, 1, none⟩ = some (.int .i64 0) := (blk_cell BK161.out 1).trans rfl;have hcz41_2 : w39.cell? ⟨gb161, 2, none⟩ = some (.int .i64 0) := (blk_cell BK161.out 2).trans rfl;have hcz41_3 : w39.cell? ⟨gb161, 3, none⟩ = some (.int .i32 0) := (blk_cell BK161.out 3).trans rfl;have hfz41_0 := blk_frozen BK161.out 0;have hfz41_1 := blk_frozen BK161.out 1;have hfz41_2 := blk_frozen BK161.out 2;have hfz41_3 := blk_frozen BK161.out 3;obtain ⟨Ao42, co42, eo42⟩ := Kd.R_slice HO_9.out;subst eo42;have p162 : 0 ≤ (x47_3 : Int) := of_decide_eq_true (by assumption);have q162 : x47_3 < (t152.length : Int) := of_decide_eq_true (by assumption);obtain ⟨ad162, e162, hx162_0⟩ := Kd.at_bool (Kd.R_reads' HO_9.out).2.2 x47_3 p162 q162;(try rw [← Nbq34.out] at hx162_0);cases e162;have hn162_0 : ad162.block ≠ gb161 := Kd.own_blk (Kd.R_ne HO_9.out BK161.out (by decide));have hn162_1 : ad162.block ≠ gb161 := Kd.own_blk (Kd.R_ne HO_9.out BK161.out (by decide));have hn162_2 : ad162.block ≠ gb161 := Kd.own_blk (Kd.R_ne HO_9.out BK161.out (by decide));have hn162_3 : ad162.block ≠ gb161 := Kd.own_blk (Kd.R_ne HO_9.out BK161.out (by decide));replace hx162_0 := (cell_far (p := ⟨gb161, 0, none⟩) (by first|(rw [add_block];exact hn162_0)|(show (Addr.add _ _).block ≠ _;rw [add_block];exact hn162_0)|exact hn162_0) (.int .i64 ((rd_T41 l0_1 x47_3).f0))).trans hx162_0;replace hx162_0 := (cell_far (p := ⟨gb161, 1, none⟩) (by first|(rw [add_block];exact hn162_1)|(show (Addr.add _ _).block ≠ _;rw [add_block];exact hn162_1)|exact hn162_1) (.int .i64 ((rd_T41 l0_1 x47_3).f1))).trans hx162_0;replace hx162_0 := (cell_far (p := ⟨gb161, 2, none⟩) (by first|(rw [add_block];exact hn162_2)|(show (Addr.add _ _).block ≠ _;rw [add_block];exact hn162_2)|exact hn162_2) (.int .i64 ((rd_T41 l0_1 x47_3).f2))).trans hx162_0;replace hx162_0 := (cell_far (p := ⟨gb161, 3, none⟩) (by first|(rw [add_block];exact hn162_3)|(show (Addr.add _ _).block ≠ _;rw [add_block];exact hn162_3)|exact hn162_3) (.int .i32 ((rd_T41 l0_1 x47_3).f3))).trans hx162_0;clear hn162_0;clear hn162_1;clear hn162_2;clear hn162_3;replace p162 := eq_true p162;replace q162 := eq_true q162))
                 have n0_ : Aside0 (Kd.R Kd.bool 4 ((((w39.setCell ⟨gb161, 0, none⟩ (.int .i64 ((rd_T41 l0_1 x47_3).f0))).setCell ⟨gb161, 1, none⟩ (.int .i64 ((rd_T41 l0_1 x47_3).f1))).setCell ⟨gb161, 2, none⟩ (.int .i64 ((rd_T41 l0_1 x47_3).f2))).setCell ⟨gb161, 3, none⟩ (.int .i32 ((rd_T41 l0_1 x47_3).f3))) w.heap.size (fun _ => True) (.slice (some ad162) t152.length co42) t152) := ⟨by (with_reducible repeat (first|apply Kd.R_alloc|apply Kd.R_drewN|apply Kd.R_drew));exact Kd.R_mono (Kd.R_far (p := ⟨gb161, 3, none⟩) (Kd.R_far (p := ⟨gb161, 2, none⟩) (Kd.R_far (p := ⟨gb161, 1, none⟩) (Kd.R_far (p := ⟨gb161, 0, none⟩) (Kd.R_types HO_9.out BK161.out (by decide)) (fun _ hk => hk.2) (.int .i64 ((rd_T41 l0_1 x47_3).f0))) (fun _ hk => hk.2) (.int .i64 ((rd_T41 l0_1 x47_3).f1))) (fun _ hk => hk.2) (.int .i64 ((rd_T41 l0_1 x47_3).f2))) (fun _ hk => hk.2) (.int .i32 ((rd_T41 l0_1 x47_3).f3))) (fun _ hk => trivial)⟩
                 have n1_ : Aside0 (Kd.R (Kd.int .u16) 39 ((((w39.setCell ⟨gb161, 0, none⟩ (.int .i64 ((rd_T41 l0_1 x47_3).f0))).setCell ⟨gb161, 1, none⟩ (.int .i64 ((rd_T41 l0_1 x47_3).f1))).setCell ⟨gb161, 2, none⟩ (.int .i64 ((rd_T41 l0_1 x47_3).f2))).setCell ⟨gb161, 3, none⟩ (.int .i32 ((rd_T41 l0_1 x47_3).f3))) w.heap.size (fun _ => True) (.slice Ao14 x10_3.length co14) x10_3) := ⟨by (with_reducible repeat (first|apply Kd.R_alloc|apply Kd.R_drewN|apply Kd.R_drew));exact Kd.R_mono (Kd.R_far (p := ⟨gb161, 3, none⟩) (Kd.R_far (p := ⟨gb161, 2, none⟩) (Kd.R_far (p := ⟨gb161, 1, none⟩) (Kd.R_far (p := ⟨gb161, 0, none⟩) (Kd.R_types HO_10.out BK161.out (by decide)) (fun _ hk => hk.2) (.int .i64 ((rd_T41 l0_1 x47_3).f0))) (fun _ hk => hk.2) (.int .i64 ((rd_T41 l0_1 x47_3).f1))) (fun _ hk => hk.2) (.int .i64 ((rd_T41 l0_1 x47_3).f2))) (fun _ hk => hk.2) (.int .i32 ((rd_T41 l0_1 x47_3).f3))) (fun _ hk => trivial)⟩
                 have n2_ : Aside0 (((((w39.setCell ⟨gb161, 0, none⟩ (.int .i64 ((rd_T41 l0_1 x47_3).f0))).setCell ⟨gb161, 1, none⟩ (.int .i64 ((rd_T41 l0_1 x47_3).f1))).setCell ⟨gb161, 2, none⟩ (.int .i64 ((rd_T41 l0_1 x47_3).f2))).setCell ⟨gb161, 3, none⟩ (.int .i32 ((rd_T41 l0_1 x47_3).f3))).heap[gb151]? = some (.cells #[.int .i64 a0_0, .slice (some ad160) l0_1.length c0_1] 24 (0, 0))) := ⟨by (with_reducible repeat (first|apply blk_drewN|apply blk_drew|apply blk_alloc));refine blk_far ?_ NB151_161.out _;(with_reducible repeat (first|apply blk_drewN|apply blk_drew|apply blk_alloc));refine blk_far ?_ NB151_161.out _;(with_reducible repeat (first|apply blk_drewN|apply blk_drew|apply blk_alloc));refine blk_far ?_ NB151_161.out _;(with_reducible repeat (first|apply blk_drewN|apply blk_drew|apply blk_alloc));refine blk_far ?_ NB151_161.out _;(with_reducible repeat (first|apply blk_drewN|apply blk_drew|apply blk_alloc));exact BK151.out⟩
                 have n3_ : Aside0 (((((w39.setCell ⟨gb161, 0, none⟩ (.int .i64 ((rd_T41 l0_1 x47_3).f0))).setCell ⟨gb161, 1, none⟩ (.int .i64 ((rd_T41 l0_1 x47_3).f1))).setCell ⟨gb161, 2, none⟩ (.int .i64 ((rd_T41 l0_1 x47_3).f2))).setCell ⟨gb161, 3, none⟩ (.int .i32 ((rd_T41 l0_1 x47_3).f3))).heap[gb161]? = some (.cells #[.int .i64 ((rd_T41 l0_1 x47_3).f0), .int .i64 ((rd_T41 l0_1 x47_3).f1), .int .i64 ((rd_T41 l0_1 x47_3).f2), .int .i32 ((rd_T41 l0_1 x47_3).f3)] 41 (0, 0))) := ⟨by (with_reducible repeat (first|apply blk_drewN|apply blk_drew|apply blk_alloc));refine blk_put (cs := #[.int .i64 ((rd_T41 l0_1 x47_3).f0), .int .i64 ((rd_T41 l0_1 x47_3).f1), .int .i64 ((rd_T41 l0_1 x47_3).f2), .int .i32 0]) ?_ 3 _ rfl;(with_reducible repeat (first|apply blk_drewN|apply blk_drew|apply blk_alloc));refine blk_put (cs := #[.int .i64 ((rd_T41 l0_1 x47_3).f0), .int .i64 ((rd_T41 l0_1 x47_3).f1), .int .i64 0, .int .i32 0]) ?_ 2 _ rfl;(with_reducible repeat (first|apply blk_drewN|apply blk_drew|apply blk_alloc));refine blk_put (cs := #[.int .i64 ((rd_T41 l0_1 x47_3).f0), .int .i64 0, .int .i64 0, .int .i32 0]) ?_ 1 _ rfl;(with_reducible repeat (first|apply blk_drewN|apply blk_drew|apply blk_alloc));refine blk_put (cs := #[.int .i64 0, .int .i64 0, .int .i64 0, .int .i32 0]) ?_ 0 _ rfl;(with_reducible repeat (first|apply blk_drewN|apply blk_drew|apply blk_alloc));exact BK161.out⟩
                 have n4_ : Aside0 (Below w.heap.size w ((((w39.setCell ⟨gb161, 0, none⟩ (.int .i64 ((rd_T41 l0_1 x47_3).f0))).setCell ⟨gb161, 1, none⟩ (.int .i64 ((rd_T41 l0_1 x47_3).f1))).setCell ⟨gb161, 2, none⟩ (.int .i64 ((rd_T41 l0_1 x47_3).f2))).setCell ⟨gb161, 3, none⟩ (.int .i32 ((rd_T41 l0_1 x47_3).f3)))) := ⟨by repeat (first|(with_reducible first|exact HB.out|apply xa|apply xb|apply xc|refine below_set ?_ GE151.out|refine below_set ?_ GE161.out)|exact HB.out)⟩
                 (try clear HO_9)
                 (try clear HO_10)
                 (try clear BK151)
                 (try clear BK161)
                 (try clear HB)
                 generalize ((((w39.setCell ⟨gb161, 0, none⟩ (.int .i64 ((rd_T41 l0_1 x47_3).f0))).setCell ⟨gb161, 1, none⟩ (.int .i64 ((rd_T41 l0_1 x47_3).f1))).setCell ⟨gb161, 2, none⟩ (.int .i64 ((rd_T41 l0_1 x47_3).f2))).setCell ⟨gb161, 3, none⟩ (.int .i32 ((rd_T41 l0_1 x47_3).f3))) = w43 at n0_ n1_ n2_ n3_ n4_ ⊢
                 have HO_9 := n0_
                 have HO_10 := n1_
                 have BK151 := n2_
                 have BK161 := n3_
                 have HB := n4_
                 clear n0_ n1_ n2_ n3_ n4_
                 have n0_ := Aside0.mk (Kd.R_drew HO_9.out)
                 have n1_ := Aside0.mk (Kd.R_drew HO_10.out)
                 have n2_ := Aside0.mk (blk_drew BK151.out)
                 have n3_ := Aside0.mk (blk_drew BK161.out)
                 have n4_ := Aside0.mk (below_drew1 HB.out)
                 clear HO_9
                 clear HO_10
                 clear BK151
                 clear BK161
                 clear HB
                 have HO_9 := n0_
                 have HO_10 := n1_
                 have BK151 := n2_
                 have BK161 := n3_
                 have HB := n4_
                 clear n0_ n1_ n2_ n3_ n4_
                 have p163 : 0 ≤ (x47_3 : Int) := of_decide_eq_true (by assumption)
                 have q163 : x47_3 < (x10_3.length : Int) := of_decide_eq_true (by assumption)
                 obtain ⟨ad163, e163, hx163_0⟩ := Kd.at_int (Kd.R_reads' HO_10.out).2.2 x47_3 p163 q163
                 cases e163
                 replace p163 := eq_true p163
                 replace q163 := eq_true q163
                 refine start_ (n := 8) (S := fun w' => w'.cell? ⟨gb161, 0, none⟩ = some (.int .i64 ((rd_T41 l0_1 x47_3).f0)) ∧ w'.cell? ⟨gb161, 1, none⟩ = some (.int .i64 ((rd_T41 l0_1 x47_3).f1)) ∧ w'.cell? ⟨gb161, 2, none⟩ = some (.int .i64 ((rd_T41 l0_1 x47_3).f2)) ∧ w'.cell? ⟨gb161, 3, none⟩ = some (.int .i32 ((rd_T41 l0_1 x47_3).f3)) ∧ w'.cell? (ad163.add (x47_3).toNat) = some (.int .u16 (rd x10_3 x47_3))) (ds := []) #[false, false, false, false, false, false, false, false] (by kernel_rfl) rfl rfl ⟨(blk_cell BK161.out 0).trans rfl, (blk_cell BK161.out 1).trans rfl, (blk_cell BK161.out 2).trans rfl, (blk_cell BK161.out 3).trans rfl, hx163_0⟩ (fun hHeld => ?_);refine with_tabW lint_flow.tab16 lint_flow.bits16 (fun HT_ HW_ => ?_)
                 generalize w43.drew = w44 at HO_9 HO_10 BK151 BK161 HB hx163_0 hHeld ⊢
                 refine pure_ (i := 1) (N := some 58) (v := ?_) (a' := ?_) #[false, true, false, false, false, false, false, false] rfl rfl (any_of HT_.out (by kernel_rfl)) (fun _ _ _ h => h) (Or.inl ⟨by rfl, ?_⟩) ?_ ?_
                 rotate_left
                 ·intro w'
                  go_simp
                  with_reducible rfl
                 rotate_left
                 ·simp only [Act.put, List.setIfInBounds_toArray, List.set_cons_zero, List.set_cons_succ, i64_w, i32_w]
                  rfl
                 refine pure_ (i := 2) (N := some 59) (v := ?_) (a' := ?_) #[false, true, true, false, false, false, false, false] rfl rfl (any_of HT_.out (by kernel_rfl)) (fun _ _ _ h => h) (Or.inl ⟨by rfl, ?_⟩) ?_ ?_
                 rotate_left
                 ·intro w'
                  go_simp
                  with_reducible rfl
                 rotate_left
                 ·simp only [Act.put, List.setIfInBounds_toArray, List.set_cons_zero, List.set_cons_succ, i64_w, i32_w]
                  rfl
                 refine pure_ (i := 3) (N := some 60) (v := ?_) (a' := ?_) #[false, true, true, true, false, false, false, false] rfl rfl (any_of HT_.out (by kernel_rfl)) (fun _ _ _ h => h) (Or.inl ⟨by rfl, ?_⟩) ?_ ?_
                 rotate_left
                 ·intro w'
                  go_simp
                  with_reducible rfl
                 rotate_left
                 ·simp only [Act.put, List.setIfInBounds_toArray, List.set_cons_zero, List.set_cons_succ, i64_w, i32_w]
                  rfl
                 refine pure_ (i := 5) (N := some 62) (v := ?_) (a' := ?_) #[false, true, true, true, false, true, false, false] rfl rfl (any_of HT_.out (by kernel_rfl)) (fun _ _ _ h => h) (Or.inl ⟨by rfl, ?_⟩) ?_ ?_
                 rotate_left
                 ·intro w'
                  go_simp
                  with_reducible rfl
                 rotate_left
                 ·simp only [Act.put, List.setIfInBounds_toArray, List.set_cons_zero, List.set_cons_succ, i64_w, i32_w]
                  rfl
                 refine take_ (i := 0) (N := some 57) (v := ?_) (a' := ?_) #[true, true, true, true, false, true, false, false] rfl rfl (take_ofW HT_.out HW_.out (by kernel_rfl)) (fun _ _ _ h => h) (Or.inl ⟨by rfl, ?_⟩) hHeld ?_ ?_
                 rotate_left
                 ·rintro w' ⟨s0, s1, s2, s3, s4⟩
                  go_simp
                  with_reducible rfl
                 rotate_left
                 ·simp only [Act.put, List.setIfInBounds_toArray, List.set_cons_zero, List.set_cons_succ, i64_w, i32_w]
                  rfl
                 refine take_ (i := 4) (N := some 61) (v := ?_) (a' := ?_) #[true, true, true, true, true, true, false, false] rfl rfl (take_ofW HT_.out HW_.out (by kernel_rfl)) (fun _ _ _ h => h) (Or.inl ⟨by rfl, ?_⟩) hHeld ?_ ?_
                 rotate_left
                 ·rintro w' ⟨s0, s1, s2, s3, s4⟩
                  go_simp
                  with_reducible rfl
                 rotate_left
                 ·simp only [Act.put, List.setIfInBounds_toArray, List.set_cons_zero, List.set_cons_succ, i64_w, i32_w]
                  rfl
                 refine one_ (i := 6) (N := some 63) #[true, true, true, true, true, true, true, false] rfl rfl (one_of HT_.out (by kernel_rfl)) (by decide) (fun K hK => ?_)
                 refine goes_ Try.func111 (by kernel_rfl) rfl #[.agg #[.int .i64 ((rd_T41 l0_1 x47_3).f0), .int .i64 ((rd_T41 l0_1 x47_3).f1), .int .i64 ((rd_T41 l0_1 x47_3).f2), .int .i32 ((rd_T41 l0_1 x47_3).f3)], .int .u16 (rd x10_3 x47_3), .int .i64 a1] (by rfl) rfl rfl (by (try simp only [List.map_toArray, List.map_cons, List.map_nil]);first|done|rfl|(simp only [List.length_drop, List.length_take];rfl)) ?_
                 with_reducible refine (lint_behind.calls k3 ((rd_T41 l0_1 x47_3).f0) ((rd_T41 l0_1 x47_3).f1) ((rd_T41 l0_1 x47_3).f2) ((rd_T41 l0_1 x47_3).f3) (rd x10_3 x47_3) a1 t164 _ A37.out).mono ?_
                 rintro e w45 ⟨rfl, hb⟩
                 have HS4_ := (hb.cell (World.block_lt_of_cell? _ _ (hHeld.2.2.2.2))).trans (hHeld.2.2.2.2)
                 refine ⟨_, rfl, ?_⟩
                 have n0_ := Aside0.mk (Kd.R_below (by (with_reducible repeat (first|apply Kd.R_alloc|apply Kd.R_drewN|apply Kd.R_drew));exact HO_9.out) hb)
                 have n1_ := Aside0.mk (Kd.R_below (by (with_reducible repeat (first|apply Kd.R_alloc|apply Kd.R_drewN|apply Kd.R_drew));exact HO_10.out) hb)
                 have n2_ := Aside0.mk (blk_below (g := gb151) (o := .cells #[.int .i64 a0_0, .slice (some ad160) l0_1.length c0_1] 24 (0, 0)) (by (with_reducible repeat (first|apply blk_drewN|apply blk_drew|apply blk_alloc));exact BK151.out) hb)
                 have n3_ := Aside0.mk (blk_below (g := gb161) (o := .cells #[.int .i64 ((rd_T41 l0_1 x47_3).f0), .int .i64 ((rd_T41 l0_1 x47_3).f1), .int .i64 ((rd_T41 l0_1 x47_3).f2), .int .i32 ((rd_T41 l0_1 x47_3).f3)] 41 (0, 0)) (by (with_reducible repeat (first|apply blk_drewN|apply blk_drew|apply blk_alloc));exact BK161.out) hb)
                 have n4_ := Aside0.mk (below_step (by repeat (first|(with_reducible first|exact HB.out|apply xa|apply xb|apply xc|refine below_set ?_ GE151.out|refine below_set ?_ GE161.out)|exact HB.out)) hb)
                 clear HO_9
                 clear HO_10
                 clear BK151
                 clear BK161
                 clear HB
                 have HO_9 := n0_
                 have HO_10 := n1_
                 have BK151 := n2_
                 have BK161 := n3_
                 have HB := n4_
                 clear n0_ n1_ n2_ n3_ n4_
                 (try clear hb)
                 (try clear hb2)
                 (try clear hk)
                 (try clear hi)
                 refine hK.out _ _ ⟨(blk_cell BK161.out 0).trans rfl, (blk_cell BK161.out 1).trans rfl, (blk_cell BK161.out 2).trans rfl, (blk_cell BK161.out 3).trans rfl, HS4_⟩ (fun hHeld => ?_)
                 clear hK K
                 refine norm_ (a' := ?_) ?_ ?_
                 rotate_left
                 ·show Act.put _ (some 63) _ = _
                  simp only [Act.put, List.setIfInBounds_toArray, List.set_cons_zero, List.set_cons_succ, i64_w, i32_w]
                  rfl
                 refine pure_ (i := 7) (N := some 15) (v := ?_) (a' := ?_) #[true, true, true, true, true, true, true, true] rfl rfl (any_of HT_.out (by kernel_rfl)) (fun _ _ _ h => h) (Or.inl ⟨by rfl, ?_⟩) ?_ ?_
                 rotate_left
                 ·intro w'
                  go_simp
                  with_reducible rfl
                 rotate_left
                 ·simp only [Act.put, List.setIfInBounds_toArray, List.set_cons_zero, List.set_cons_succ, i64_w, i32_w]
                  rfl
                 refine done_ (done_of HT_.out (by kernel_rfl)) ?_
                 have hcz46_0 : w45.cell? ⟨gb151, 0, none⟩ = some (.int .i64 a0_0) := (blk_cell BK151.out 0).trans rfl
                 have hcz46_1 : w45.cell? ⟨gb151, 1, none⟩ = some (.slice (some ad160) l0_1.length c0_1) := (blk_cell BK151.out 1).trans rfl
                 have hfz46_0 := blk_frozen BK151.out 0
                 have hfz46_1 := blk_frozen BK151.out 1
                 try go_wp2_with (first|((with_reducible refine gate_callee (f := 21) rfl ?_);refine goesL_ (some 66) rfl rfl Try.func21 (by kernel_rfl) rfl #[.agg #[.int .i64 a0_0, .slice (some ad160) l0_1.length c0_1], .int .i64 x47_3] rfl (by (try simp only [List.map_toArray, List.map_cons, List.map_nil]);first|done|rfl|(simp only [List.length_drop, List.length_take];rfl)) ?_;(with_reducible refine (lint_Next.calls k3 a0_0 _ _ l0_1 x47_3 t165 _ ?side1 ?side2 A38.out).mono ?_);(case side1 => repeat (first|exact (Kd.C_below HR0_1.out HB.out)|(with_reducible refine Kd.C_alloc ?_ _)|(with_reducible refine Kd.C_drewN ?_ _)|(with_reducible refine Kd.C_drew ?_)));(case side2 => exact HC0_1.out);rintro e w47 ⟨v166, rfl, ho0, hb⟩;refine ⟨_, rfl, ?_⟩;have n0_ := Aside0.mk (Kd.R_below (by (with_reducible repeat (first|apply Kd.R_alloc|apply Kd.R_drewN|apply Kd.R_drew));exact HO_9.out) hb);have n1_ := Aside0.mk (Kd.R_below (by (with_reducible repeat (first|apply Kd.R_alloc|apply Kd.R_drewN|apply Kd.R_drew));exact HO_10.out) hb);have n2_ := Aside0.mk (Kd.R_lower ho0 (below_size (by repeat (first|(with_reducible first|exact HB.out|apply xa|apply xb|apply xc|refine below_set ?_ GE151.out|refine below_set ?_ GE161.out)|exact HB.out))));have n3_ := Aside0.mk (blk_below (g := gb151) (o := .cells #[.int .i64 a0_0, .slice (some ad160) l0_1.length c0_1] 24 (0, 0)) (by (with_reducible repeat (first|apply blk_drewN|apply blk_drew|apply blk_alloc));exact BK151.out) hb);have n4_ := Aside0.mk (blk_below (g := gb161) (o := .cells #[.int .i64 ((rd_T41 l0_1 x47_3).f0), .int .i64 ((rd_T41 l0_1 x47_3).f1), .int .i64 ((rd_T41 l0_1 x47_3).f2), .int .i32 ((rd_T41 l0_1 x47_3).f3)] 41 (0, 0)) (by (with_reducible repeat (first|apply blk_drewN|apply blk_drew|apply blk_alloc));exact BK161.out) hb);have n5_ := Aside0.mk (below_step (by repeat (first|(with_reducible first|exact HB.out|apply xa|apply xb|apply xc|refine below_set ?_ GE151.out|refine below_set ?_ GE161.out)|exact HB.out)) hb);clear HO_9;clear HO_10;clear BK151;clear BK161;clear HB;have HO_9 := n0_;have HO_10 := n1_;have HO167 := n2_;have BK151 := n3_;have BK161 := n4_;have HB := n5_;clear n0_ n1_ n2_ n3_ n4_ n5_;(try clear hb);(try clear hb2);(try clear hk);(try clear hi);(try clear ho0);obtain ⟨Ao48, co48, eo48⟩ := Kd.R_slice HO167.out;subst eo48))
                 go_loopg [12, 68] k3 (fun kq v12 v68 w' => ∃ (x10_4 : List Int) (x12_4 : Bool) (x68_4 : Int), v12 = .bool x12_4 ∧ v68 = .int .i64 x68_4 ∧ Aside0 (lint_flow.l3 kq a1 t152 x10_4 x12_4 t164 l0_1 (l0_1.length : Int) x47_3 t165 (t165.length : Int) x68_4 a0_0 l0_1 = some r) ∧ Aside0 (kq ≤ k3) ∧ Aside0 (Kd.R Kd.bool 4 w' w.heap.size (fun _ => True) (.slice (some ad162) t152.length co42) t152) ∧ Aside0 (Kd.R (Kd.int .u16) 39 w' w.heap.size (fun _ => True) (.slice (some ad163) x10_3.length co14) x10_4) ∧ Aside0 (Kd.R (Kd.int .i64) 3 w' w.heap.size (fun _ => True) (.slice Ao48 t165.length co48) t165) ∧ Aside0 (w'.heap[gb151]? = some (.cells #[.int .i64 a0_0, (.slice (some ad160) l0_1.length c0_1)] 24 (0, 0))) ∧ Aside0 (w'.heap[gb161]? = some (.cells #[.int .i64 ((rd_T41 l0_1 x47_3).f0), .int .i64 ((rd_T41 l0_1 x47_3).f1), .int .i64 ((rd_T41 l0_1 x47_3).f2), .int .i32 ((rd_T41 l0_1 x47_3).f3)] 41 (0, 0))) ∧ Aside0 (Below w.heap.size w w'))
                 case atStart => exact ⟨(x10_3), (x12_3), (0), (by first|rfl|(simp;done)|(simp [*];done)), (by first|rfl|(simp;done)|(simp [*];done)), H', ⟨Nat.le_refl _⟩, ⟨by (try simp only [hl10_1]);(try simp only [hl10_2]);(try simp only [hl10_3]);(with_reducible repeat (first|apply Kd.R_alloc|apply Kd.R_drewN|apply Kd.R_drew));exact HO_9.out⟩, ⟨by (try simp only [hl10_1]);(try simp only [hl10_2]);(try simp only [hl10_3]);(with_reducible repeat (first|apply Kd.R_alloc|apply Kd.R_drewN|apply Kd.R_drew));exact HO_10.out⟩, ⟨by (try simp only [hl10_1]);(try simp only [hl10_2]);(try simp only [hl10_3]);(with_reducible repeat (first|apply Kd.R_alloc|apply Kd.R_drewN|apply Kd.R_drew));exact HO167.out⟩, ⟨by (try simp only [hl10_1]);(try simp only [hl10_2]);(try simp only [hl10_3]);(with_reducible repeat (first|apply blk_drewN|apply blk_drew|apply blk_alloc));exact BK151.out⟩, ⟨by (try simp only [hl10_1]);(try simp only [hl10_2]);(try simp only [hl10_3]);(with_reducible repeat (first|apply blk_drewN|apply blk_drew|apply blk_alloc));exact BK161.out⟩, ⟨by repeat (first|(with_reducible first|exact HB.out|apply xa|apply xb|apply xc|refine below_set ?_ GE151.out|refine below_set ?_ GE161.out)|exact HB.out)⟩⟩
                 case round =>
                  clear H'
                  try clear c1
                  try clear p1
                  try clear q1
                  try clear hx1
                  try clear c2
                  try clear p2
                  try clear q2
                  try clear hx2
                  try clear c3
                  try clear q3
                  try clear c4
                  try clear c6
                  try clear c6b0
                  try clear c6b1
                  try clear p6
                  try clear c7
                  try clear c7b0
                  try clear c7b1
                  try clear c11
                  try clear c15
                  try clear c15b0
                  try clear p15
                  try clear q15
                  try clear hx15
                  try clear c16
                  try clear c16b0
                  try clear p16
                  try clear q16
                  try clear hx16
                  try clear c17
                  try clear c17b0
                  try clear q18
                  try clear c19
                  try clear c20
                  try clear c20b0
                  try clear c21
                  try clear c21b0
                  try clear p22
                  try clear q22
                  try clear hx22
                  try clear hf22
                  try clear c28
                  try clear c30
                  try clear c30b0
                  try clear c31
                  try clear c31b0
                  try clear c32
                  try clear c32b0
                  try clear c33
                  try clear c33b0
                  try clear q34
                  try clear c35
                  try clear c36
                  try clear c36b0
                  try clear c40
                  try clear hcz11_0
                  try clear hcz11_1
                  try clear hcz29_0
                  try clear hcz29_1
                  try clear hcz41_0
                  try clear hcz41_1
                  try clear hcz41_2
                  try clear hcz41_3
                  try clear hcz46_0
                  try clear hcz46_1
                  try clear hcz9_0
                  try clear hcz9_1
                  try clear hfz11_0
                  try clear hfz11_1
                  try clear hfz29_0
                  try clear hfz29_1
                  try clear hfz41_0
                  try clear hfz41_1
                  try clear hfz41_2
                  try clear hfz41_3
                  try clear hfz46_0
                  try clear hfz46_1
                  try clear hfz9_0
                  try clear hfz9_1
                  try clear hx158_0
                  try clear hx160_0
                  try clear hx160_1
                  try clear hx160_2
                  try clear hx160_3
                  try clear hx162_0
                  try clear hx163_0
                  try clear hx22_0
                  try clear p1
                  try clear p15
                  try clear p158
                  try clear p160
                  try clear p162
                  try clear p163
                  try clear p2
                  try clear p22
                  try clear p6
                  try clear q1
                  try clear q15
                  try clear q158
                  try clear q160
                  try clear q162
                  try clear q163
                  try clear q18
                  try clear q2
                  try clear q22
                  obtain ⟨x10_4, x12_4, x68_4, rfl, rfl, HA, HK4, HO_9, HO_10, HO_66, BK151, BK161, HB⟩ := hrel
                  have hl10_4 := (Kd.R_reads' HO_10.out).1
                  rw [hl10_4] at HO_10
                  (try simp only [hl10_4])
                  (try simp only [hl10_4] at BK151)
                  (try simp only [hl10_4] at BK161)
                  (try simp only [hl10_4] at HO_9)
                  (try simp only [hl10_4] at HO_66)
                  cases gk with
                  | zero => exact absurd HA.out (by simp [lint_flow.l3])
                  | succ k4 =>
                   have H := HA.out
                   clear HA
                   simp only [lint_flow.l3] at H
                   by_cases c49 : x68_4 < (t165.length : Int)
                   ·rw [if_pos c49] at H
                    have c49b0 : decide (x68_4 < (t165.length : Int)) = true := decide_eq_true c49
                    clear c49
                    by_cases c50 : 0 ≤ x68_4
                    ·rw [if_pos c50] at H
                     have c50b0 : decide (0 ≤ x68_4) = true := decide_eq_true c50
                     clear c50
                     by_cases c51 : x68_4 < (t165.length : Int)
                     ·rw [if_pos c51] at H
                      have c51b0 : decide (x68_4 < (t165.length : Int)) = true := decide_eq_true c51
                      clear c51
                      by_cases c52 : 0 ≤ (rd t165 x68_4)
                      ·rw [if_pos c52] at H
                       have c52b0 : decide (0 ≤ (rd t165 x68_4)) = true := decide_eq_true c52
                       clear c52
                       by_cases c53 : (rd t165 x68_4) < (x10_4.length : Int)
                       ·rw [if_pos c53] at H
                        have c53b0 : decide ((rd t165 x68_4) < (x10_4.length : Int)) = true := decide_eq_true c53
                        have c53b9 := c53b0
                        (try simp only [hl10_1] at c53b9)
                        (try simp only [hl10_2] at c53b9)
                        (try simp only [hl10_3] at c53b9)
                        (try simp only [hl10_4] at c53b9)
                        clear c53
                        replace H := Option.bind_eq_some_iff.mp H
                        obtain ⟨t170, A540, H⟩ := H
                        replace H : (if t170 = (rd x10_4 (rd t165 x68_4)) then (lint_flow.l3 k4 a1 t152 x10_4 x12_4 t164 l0_1 (l0_1.length : Int) x47_3 t165 (t165.length : Int) (wrap64 (x68_4 + 1)) a0_0 l0_1) else (lint_flow.l3 k4 a1 t152 (x10_4.set ((rd t165 x68_4) : Int).toNat t170) true t164 l0_1 (l0_1.length : Int) x47_3 t165 (t165.length : Int) (wrap64 (x68_4 + 1)) a0_0 l0_1)) = some r := H
                        have A54 := Aside0.mk A540
                        clear A540
                        by_cases c55 : t170 = (rd x10_4 (rd t165 x68_4))
                        ·rw [if_pos c55] at H
                         have c55b0 : (t170 == (rd x10_4 (rd t165 x68_4))) = true := beq_iff_eq.mpr c55
                         have c55b1 : (t170 != (rd x10_4 (rd t165 x68_4))) = false := bne_eq_false_iff_eq.mpr c55
                         clear c55
                         have H' := Aside0.mk H
                         clear H
                         have p168 : 0 ≤ (x68_4 : Int) := of_decide_eq_true (by assumption)
                         have q168 : x68_4 < (t165.length : Int) := of_decide_eq_true (by assumption)
                         obtain ⟨ad168, e168, hx168_0⟩ := Kd.at_int (Kd.R_reads' HO_66.out).2.2 x68_4 p168 q168
                         cases e168
                         replace p168 := eq_true p168
                         replace q168 := eq_true q168
                         have p169 : 0 ≤ ((rd t165 x68_4) : Int) := of_decide_eq_true (by assumption)
                         have q169 : (rd t165 x68_4) < (x10_4.length : Int) := of_decide_eq_true (by assumption)
                         obtain ⟨ad169, e169, hx169_0⟩ := Kd.at_int (Kd.R_reads' HO_10.out).2.2 (rd t165 x68_4) p169 q169
                         obtain rfl : ad163 = ad169 := (by injection e169)
                         replace p169 := eq_true p169
                         replace q169 := eq_true q169
                         go_wp2_with (first|(go_at_call 64;(with_reducible refine (lint_May_1.calls (rd x10_4 (rd t165 x68_4)) t164 t170 _ A54.out).mono ?_);rintro e w' ⟨rfl, ⟨nd, rfl⟩⟩;have p171 : 0 ≤ ((rd t165 x68_4) : Int) := of_decide_eq_true (by assumption);have q171 : (rd t165 x68_4) < (x10_4.length : Int) := of_decide_eq_true (by assumption);obtain ⟨ad171, e171, hx171_0⟩ := Kd.at_int (Kd.R_reads' HO_10.out).2.2 (rd t165 x68_4) p171 q171;obtain rfl : ad163 = ad171 := (by injection e171);replace p171 := eq_true p171;replace q171 := eq_true q171))
                         (try simp only [← hl10_4])
                         (try simp only [px_add0] at *)
                         go_roundg k4
                         case measure => have := HK1.out;have := HK2.out;have := HK3.out;have := HK4.out;omega
                         case rel => exact ⟨(x10_4), (x12_4), (wrap64 (x68_4 + 1)), (by first|rfl|(simp;done)|(simp [*];done)), (by first|rfl|(simp;done)|(simp [*];done)), H', ⟨by have := HK1.out;have := HK2.out;have := HK3.out;have := HK4.out;omega⟩, ⟨by (try simp only [hl10_1]);(try simp only [hl10_2]);(try simp only [hl10_3]);(try simp only [hl10_4]);(with_reducible repeat (first|apply Kd.R_alloc|apply Kd.R_drewN|apply Kd.R_drew));exact HO_9.out⟩, ⟨by (try simp only [hl10_1]);(try simp only [hl10_2]);(try simp only [hl10_3]);(try simp only [hl10_4]);(with_reducible repeat (first|apply Kd.R_alloc|apply Kd.R_drewN|apply Kd.R_drew));exact HO_10.out⟩, ⟨by (try simp only [hl10_1]);(try simp only [hl10_2]);(try simp only [hl10_3]);(try simp only [hl10_4]);(with_reducible repeat (first|apply Kd.R_alloc|apply Kd.R_drewN|apply Kd.R_drew));exact HO_66.out⟩, ⟨by (try simp only [hl10_1]);(try simp only [hl10_2]);(try simp only [hl10_3]);(try simp only [hl10_4]);(with_reducible repeat (first|apply blk_drewN|apply blk_drew|apply blk_alloc));exact BK151.out⟩, ⟨by (try simp only [hl10_1]);(try simp only [hl10_2]);(try simp only [hl10_3]);(try simp only [hl10_4]);(with_reducible repeat (first|apply blk_drewN|apply blk_drew|apply blk_alloc));exact BK161.out⟩, ⟨by repeat (first|(with_reducible first|exact HB.out|apply xa|apply xb|apply xc|refine below_set ?_ GE151.out|refine below_set ?_ GE161.out)|exact HB.out)⟩⟩
                        ·rw [if_neg c55] at H
                         have c55b0 : (t170 == (rd x10_4 (rd t165 x68_4))) = false := beq_eq_false_iff_ne.mpr c55
                         have c55b1 : (t170 != (rd x10_4 (rd t165 x68_4))) = true := bne_iff_ne.mpr c55
                         obtain ⟨y172, hy172⟩ : ∃ y_ : List Int, y_ = (x10_4.set ((rd t165 x68_4) : Int).toNat t170) := ⟨_, rfl⟩
                         replace H : (lint_flow.l3 k4 a1 t152 y172 true t164 l0_1 (l0_1.length : Int) x47_3 t165 (t165.length : Int) (wrap64 (x68_4 + 1)) a0_0 l0_1) = some r := by first|(rw [hy172];with_reducible exact H)|(have H2_ := (Option.bind_some _ _).symm.trans H;rw [hy172];with_reducible exact H2_)|(have H2_ := (Option.bind_some _ _).symm.trans H;with_reducible exact H2_)|with_reducible exact H|(rw [hy172];exact H)|exact H
                         have Ny172 := Aside0.mk hy172
                         clear hy172
                         have H' := Aside0.mk H
                         clear H
                         have p168 : 0 ≤ (x68_4 : Int) := of_decide_eq_true (by assumption)
                         have q168 : x68_4 < (t165.length : Int) := of_decide_eq_true (by assumption)
                         obtain ⟨ad168, e168, hx168_0⟩ := Kd.at_int (Kd.R_reads' HO_66.out).2.2 x68_4 p168 q168
                         cases e168
                         replace p168 := eq_true p168
                         replace q168 := eq_true q168
                         have p169 : 0 ≤ ((rd t165 x68_4) : Int) := of_decide_eq_true (by assumption)
                         have q169 : (rd t165 x68_4) < (x10_4.length : Int) := of_decide_eq_true (by assumption)
                         obtain ⟨ad169, e169, hx169_0⟩ := Kd.at_int (Kd.R_reads' HO_10.out).2.2 (rd t165 x68_4) p169 q169
                         obtain rfl : ad163 = ad169 := (by injection e169)
                         replace p169 := eq_true p169
                         replace q169 := eq_true q169
                         go_wp2_with (first|(go_at_call 64;(with_reducible refine (lint_May_1.calls (rd x10_4 (rd t165 x68_4)) t164 t170 _ A54.out).mono ?_);rintro e w' ⟨rfl, ⟨nd, rfl⟩⟩;(try (rw [drewN_self wr];generalize hq_ : World.drewN wr _ = wr;have n0_ : Aside0 (Kd.R (Kd.int .u16) 39 wr w.heap.size (fun _ => True) (.slice (some ad163) x10_4.length co14) x10_4) := ⟨by rw [← hq_];exact (by (with_reducible repeat (first|apply Kd.R_alloc|apply Kd.R_drewN|apply Kd.R_drew));exact HO_10.out)⟩;have n1_ : Aside0 (Kd.R (Kd.int .i64) 3 wr w.heap.size (fun _ => True) (.slice (some ad168) t165.length co48) t165) := ⟨by rw [← hq_];exact (by (with_reducible repeat (first|apply Kd.R_alloc|apply Kd.R_drewN|apply Kd.R_drew));exact HO_66.out)⟩;have n2_ : Aside0 (Kd.R Kd.bool 4 wr w.heap.size (fun _ => True) (.slice (some ad162) t152.length co42) t152) := ⟨by rw [← hq_];exact (by (with_reducible repeat (first|apply Kd.R_alloc|apply Kd.R_drewN|apply Kd.R_drew));exact HO_9.out)⟩;have n3_ : Aside0 (wr.heap[gb151]? = some (.cells #[.int .i64 a0_0, .slice (some ad160) l0_1.length c0_1] 24 (0, 0))) := ⟨by rw [← hq_];exact (by (with_reducible repeat (first|apply blk_drewN|apply blk_drew|apply blk_alloc));exact BK151.out)⟩;have n4_ : Aside0 (wr.heap[gb161]? = some (.cells #[.int .i64 ((rd_T41 l0_1 x47_3).f0), .int .i64 ((rd_T41 l0_1 x47_3).f1), .int .i64 ((rd_T41 l0_1 x47_3).f2), .int .i32 ((rd_T41 l0_1 x47_3).f3)] 41 (0, 0))) := ⟨by rw [← hq_];exact (by (with_reducible repeat (first|apply blk_drewN|apply blk_drew|apply blk_alloc));exact BK161.out)⟩;have n5_ : Aside0 (Below w.heap.size w wr) := ⟨by rw [← hq_];exact (by repeat (first|(with_reducible first|exact HB.out|apply xa|apply xb|apply xc|refine below_set ?_ GE151.out|refine below_set ?_ GE161.out)|exact HB.out))⟩;clear HO_10 HO_66 HO_9 BK151 BK161 HB hq_;have HO_10 := n0_;have HO_66 := n1_;have HO_9 := n2_;have BK151 := n3_;have BK161 := n4_;have HB := n5_;clear n0_ n1_ n2_ n3_ n4_ n5_));have p171 : 0 ≤ ((rd t165 x68_4) : Int) := of_decide_eq_true (by assumption);have q171 : (rd t165 x68_4) < (x10_4.length : Int) := of_decide_eq_true (by assumption);obtain ⟨ad171, e171, hx171_0⟩ := Kd.at_int (Kd.R_reads' HO_10.out).2.2 (rd t165 x68_4) p171 q171;obtain rfl : ad163 = ad171 := (by injection e171);replace p171 := eq_true p171;replace q171 := eq_true q171;have p56 : 0 ≤ ((rd t165 x68_4) : Int) := of_decide_eq_true (by assumption);have q56 : ((rd t165 x68_4) : Int) < ((x10_4.length : Int) : Int) := of_decide_eq_true (by assumption);obtain ⟨go56, co56, eo56, gb56, gl56, cl56, HG56⟩ := Kd.R_form HO_10.out (by omega);(first|cases eo56|(injection eo56 with ea_ en_ ec_;(first|subst ea_|(injection ea_ with ea_;subst ea_));subst ec_;clear en_));have GB56 := Aside0.mk gb56;have GG56 := Aside0.mk HG56;clear gb56 gl56 HG56;(first|simp only [add_plain] at hx163_0|skip);(first|simp only [add_plain] at hx169_0|skip);(first|simp only [add_plain] at hx171_0|skip);obtain ⟨hx56_0, hf56_0⟩ := Kd.R_celln 0 HO_10.out ((rd t165 x68_4) : Int) p56 q56;replace p56 := eq_true p56;replace q56 := eq_true q56;obtain ⟨hy57_, hz57_⟩ := Kd.R_celln 0 HO_10.out ((rd t165 x68_4) : Int) (of_decide_eq_true (by assumption)) (of_decide_eq_true (by assumption));have HP57 := Kd.R_putg HO_10.out ((rd t165 x68_4) : Int) t170)|((with_reducible refine gate_store (t := 39) (p := 88) rfl ?_);refine store_event (t := 39) (p := 88) (v := ?vo_w58) (w1 := (wr.setCell ⟨go56, ((rd t165 x68_4) : Int).toNat, none⟩ (.int .u16 t170))) ?hg ?ho ?hn ?hr ?_;(case ho => rfl);(case hg => rfl);(case hn => rfl);(case hr => first|(go_simp;done)|(go_simp;rfl));intro w58 hw;have hg : wr.grownBy w58 (some go56) := (by rw [hw];exact HP57.2);have hp_ : Kd.R (Kd.int .u16) 39 w58 w.heap.size (fun _ => True) (.slice (some ⟨go56, 0, none⟩) x10_4.length co14) y172 := (by rw [hw, Ny172.out];exact HP57.1);clear HP57;have n0_ := Aside0.mk (Kd.R_over' (v := (.slice (some ⟨go56, 0, none⟩) x10_4.length co14)) (by (with_reducible repeat (first|apply Kd.R_alloc|apply Kd.R_drewN|apply Kd.R_drew));exact HO_9.out) (Kd.R_typed HO_10.out) (by decide) hg);have n1_ := Aside0.mk (hp_);have n2_ := Aside0.mk (Kd.R_over' (v := (.slice (some ⟨go56, 0, none⟩) x10_4.length co14)) (by (with_reducible repeat (first|apply Kd.R_alloc|apply Kd.R_drewN|apply Kd.R_drew));exact HO_66.out) (Kd.R_typed HO_10.out) (by decide) hg);have n3_ := Aside0.mk (blk_grown (g := gb151) (o := .cells #[.int .i64 a0_0, .slice (some ad160) l0_1.length c0_1] 24 (0, 0)) (by (with_reducible repeat (first|apply blk_drewN|apply blk_drew|apply blk_alloc));exact BK151.out) hg (Kd.R_ne HO_10.out BK151.out (by decide)));have n4_ := Aside0.mk (blk_grown (g := gb161) (o := .cells #[.int .i64 ((rd_T41 l0_1 x47_3).f0), .int .i64 ((rd_T41 l0_1 x47_3).f1), .int .i64 ((rd_T41 l0_1 x47_3).f2), .int .i32 ((rd_T41 l0_1 x47_3).f3)] 41 (0, 0)) (by (with_reducible repeat (first|apply blk_drewN|apply blk_drew|apply blk_alloc));exact BK161.out) hg (Kd.R_ne HO_10.out BK161.out (by decide)));have n5_ := Aside0.mk ((by rw [hw];exact below_set (HB.out) GB56.out : Below w.heap.size w w58));clear HO_9;clear HO_10;clear HO_66;clear BK151;clear BK161;clear HB;have HO_9 := n0_;have HO_10 := n1_;have HO_66 := n2_;have BK151 := n3_;have BK161 := n4_;have HB := n5_;clear n0_ n1_ n2_ n3_ n4_ n5_;clear hg hw hp_))
                         (try simp only [← hl10_4])
                         (try simp only [px_add0] at *)
                         go_roundg k4
                         case measure => have := HK1.out;have := HK2.out;have := HK3.out;have := HK4.out;omega
                         case rel => exact ⟨(y172), (true), (wrap64 (x68_4 + 1)), (by first|rfl|(simp;done)|(simp [*];done)), (by first|rfl|(simp;done)|(simp [*];done)), H', ⟨by have := HK1.out;have := HK2.out;have := HK3.out;have := HK4.out;omega⟩, ⟨by (try simp only [hl10_1]);(try simp only [hl10_2]);(try simp only [hl10_3]);(try simp only [hl10_4]);(with_reducible repeat (first|apply Kd.R_alloc|apply Kd.R_drewN|apply Kd.R_drew));exact HO_9.out⟩, ⟨by (try simp only [hl10_1]);(try simp only [hl10_2]);(try simp only [hl10_3]);(try simp only [hl10_4]);(with_reducible repeat (first|apply Kd.R_alloc|apply Kd.R_drewN|apply Kd.R_drew));exact HO_10.out⟩, ⟨by (try simp only [hl10_1]);(try simp only [hl10_2]);(try simp only [hl10_3]);(try simp only [hl10_4]);(with_reducible repeat (first|apply Kd.R_alloc|apply Kd.R_drewN|apply Kd.R_drew));exact HO_66.out⟩, ⟨by (try simp only [hl10_1]);(try simp only [hl10_2]);(try simp only [hl10_3]);(try simp only [hl10_4]);(with_reducible repeat (first|apply blk_drewN|apply blk_drew|apply blk_alloc));exact BK151.out⟩, ⟨by (try simp only [hl10_1]);(try simp only [hl10_2]);(try simp only [hl10_3]);(try simp only [hl10_4]);(with_reducible repeat (first|apply blk_drewN|apply blk_drew|apply blk_alloc));exact BK161.out⟩, ⟨by repeat (first|(with_reducible first|exact HB.out|apply xa|apply xb|apply xc|refine below_set ?_ GE151.out|refine below_set ?_ GE161.out)|exact HB.out)⟩⟩
                       ·rw [if_neg c53] at H
                        exact absurd H (by simp)
                      ·rw [if_neg c52] at H
                       exact absurd H (by simp)
                     ·rw [if_neg c51] at H
                      exact absurd H (by simp)
                    ·rw [if_neg c50] at H
                     exact absurd H (by simp)
                   ·rw [if_neg c49] at H
                    have c49b0 : decide (x68_4 < (t165.length : Int)) = false := decide_eq_false c49
                    clear c49
                    have H' := Aside0.mk H
                    clear H
                    go_wp2
                    (try simp only [← hl10_3, ← hl10_4])
                    (try simp only [px_add0] at *)
                    go_roundg k4
                    case measure => have := HK1.out;have := HK2.out;have := HK3.out;have := HK4.out;omega
                    case rel => exact ⟨(x10_4), (x12_4), (wrap64 (x47_3 + 1)), (by first|rfl|(simp;done)|(simp [*];done)), (by first|rfl|(simp;done)|(simp [*];done)), H', ⟨by have := HK1.out;have := HK2.out;have := HK3.out;have := HK4.out;omega⟩, ⟨by (try simp only [hl10_1]);(try simp only [hl10_2]);(try simp only [hl10_3]);(try simp only [hl10_4]);(with_reducible repeat (first|apply Kd.R_alloc|apply Kd.R_drewN|apply Kd.R_drew));exact HO_9.out⟩, ⟨by (try simp only [hl10_1]);(try simp only [hl10_2]);(try simp only [hl10_3]);(try simp only [hl10_4]);(with_reducible repeat (first|apply Kd.R_alloc|apply Kd.R_drewN|apply Kd.R_drew));exact HO_10.out⟩, ⟨by (try simp only [hl10_1]);(try simp only [hl10_2]);(try simp only [hl10_3]);(try simp only [hl10_4]);(with_reducible repeat (first|apply blk_drewN|apply blk_drew|apply blk_alloc));exact BK151.out⟩, ⟨by repeat (first|(with_reducible first|exact HB.out|apply xa|apply xb|apply xc|refine below_set ?_ GE151.out|refine below_set ?_ GE161.out)|exact HB.out)⟩⟩
                ·rw [if_neg c36] at H
                 exact absurd H (by simp)
               ·replace c35 := Bool.eq_false_iff.mpr c35
                subst c35
                have H1 : (lint_flow.l2 k3 a1 t152 x10_3 x12_3 l0_1 (l0_1.length : Int) (wrap64 (x47_3 + 1)) a0_0 l0_1) = some r := by rw [if_neg (show ¬ (false = true) by decide)] at H;exact H
                clear H
                have H := H1
                clear H1
                have H' := Aside0.mk H
                clear H
                have p160 : 0 ≤ (x47_3 : Int) := of_decide_eq_true (by assumption)
                have q160 : x47_3 < (l0_1.length : Int) := of_decide_eq_true (by assumption)
                obtain ⟨ad160, e160, hx160_0, hx160_1, hx160_2, hx160_3⟩ := at_T41 HR0_1.out x47_3 p160 q160
                cases e160
                replace hx160_0 := (HB.out.cell (World.block_lt_of_cell? w _ hx160_0)).trans hx160_0
                replace hx160_1 := (HB.out.cell (World.block_lt_of_cell? w _ hx160_1)).trans hx160_1
                replace hx160_2 := (HB.out.cell (World.block_lt_of_cell? w _ hx160_2)).trans hx160_2
                replace hx160_3 := (HB.out.cell (World.block_lt_of_cell? w _ hx160_3)).trans hx160_3
                replace p160 := eq_true p160
                replace q160 := eq_true q160
                go_wp2_with (first|((with_reducible refine gate_dst (N := 14) rfl ?_);refine box_event ?hg (N := 14) ?hd (cs := #[.int .i64 0, .int .i64 0, .int .i64 0, .int .i32 0]) (t := 41) ?hr ?_;(case hd => rfl);(case hg => rfl);(case hr => first|(go_simp;done)|(go_simp;rfl));intro gb161 hg w59 hbox hb;have n0_ := Aside0.mk (Kd.R_below (by (with_reducible repeat (first|apply Kd.R_alloc|apply Kd.R_drewN|apply Kd.R_drew));exact HO_9.out) hb);have n1_ := Aside0.mk (Kd.R_below (by (with_reducible repeat (first|apply Kd.R_alloc|apply Kd.R_drewN|apply Kd.R_drew));exact HO_10.out) hb);have n2_ := Aside0.mk (blk_below (g := gb151) (o := .cells #[.int .i64 a0_0, .slice (some ad160) l0_1.length c0_1] 24 (0, 0)) (by (with_reducible repeat (first|apply blk_drewN|apply blk_drew|apply blk_alloc));exact BK151.out) hb);have n3_ := Aside0.mk (below_step (by repeat (first|(with_reducible first|exact HB.out|apply xa|apply xb|apply xc|refine below_set ?_ GE151.out)|exact HB.out)) hb);have n4_ := Aside0.mk (hbox);have n5_ := Aside0.mk ((by rw [hg];exact (below_size (by repeat (first|(with_reducible first|exact HB.out|apply xa|apply xb|apply xc|refine below_set ?_ GE151.out)|exact HB.out))) : w.heap.size ≤ gb161));have n6_ := Aside0.mk ((by rw [hg];exact (below_size (by repeat (first|(with_reducible first|exact HB.out|apply xa|apply xb|apply xc|refine below_set ?_ GE151.out)|exact HB.out))) : w.heap.size ≤ gb161));have n7_ := Aside0.mk ((by rw [hg];exact Nat.ne_of_lt (blk_lt (g := gb151) (o := .cells #[.int .i64 a0_0, .slice (some ad160) l0_1.length c0_1] 24 (0, 0)) (by (with_reducible repeat (first|apply blk_drewN|apply blk_drew|apply blk_alloc));exact BK151.out)) : gb151 ≠ gb161));have n8_ := Aside0.mk ((by rw [hg];exact Nat.ne_of_gt (blk_lt (g := gb151) (o := .cells #[.int .i64 a0_0, .slice (some ad160) l0_1.length c0_1] 24 (0, 0)) (by (with_reducible repeat (first|apply blk_drewN|apply blk_drew|apply blk_alloc));exact BK151.out)) : gb161 ≠ gb151));clear HO_9;clear HO_10;clear BK151;clear HB;have HO_9 := n0_;have HO_10 := n1_;have BK151 := n2_;have HB := n3_;have BK161 := n4_;have GW161 := n5_;have GE161 := n6_;have NB151_161 := n7_;have NB161_151 := n8_;clear n0_ n1_ n2_ n3_ n4_ n5_ n6_ n7_ n8_;clear hb hbox hg;have hnb60 := NB161_151.out;have hnc60 := NB151_161.out;have hcz61_0 : w59.cell? ⟨gb161, 0, none⟩ = some (.int .i64 0) := (blk_cell BK161.out 0).trans rfl;have hcz61_1 : w59.cell? ⟨gb161, 1, none⟩ = some (.int .i64 0) := (blk_cell BK161.out 1).trans rfl;have hcz61_2 : w59.cell? ⟨gb161, 2, none⟩ = some (.int .i64 0) := (blk_cell BK161.out 2).trans rfl;have hcz61_3 : w59.cell? ⟨gb161, 3, none⟩ = some (.int .i32 0) := (blk_cell BK161.out 3).trans rfl;have hfz61_0 := blk_frozen BK161.out 0;have hfz61_1 := blk_frozen BK161.out 1;have hfz61_2 := blk_frozen BK161.out 2;have hfz61_3 := blk_frozen BK161.out 3;obtain ⟨Ao62, co62, eo62⟩ := Kd.R_slice HO_9.out;subst eo62;have p162 : 0 ≤ (x47_3 : Int) := of_decide_eq_true (by assumption);have q162 : x47_3 < (t152.length : Int) := of_decide_eq_true (by assumption);obtain ⟨ad162, e162, hx162_0⟩ := Kd.at_bool (Kd.R_reads' HO_9.out).2.2 x47_3 p162 q162;(try rw [← Nbq34.out] at hx162_0);cases e162;have hn162_0 : ad162.block ≠ gb161 := Kd.own_blk (Kd.R_ne HO_9.out BK161.out (by decide));have hn162_1 : ad162.block ≠ gb161 := Kd.own_blk (Kd.R_ne HO_9.out BK161.out (by decide));have hn162_2 : ad162.block ≠ gb161 := Kd.own_blk (Kd.R_ne HO_9.out BK161.out (by decide));have hn162_3 : ad162.block ≠ gb161 := Kd.own_blk (Kd.R_ne HO_9.out BK161.out (by decide));replace hx162_0 := (cell_far (p := ⟨gb161, 0, none⟩) (by first|(rw [add_block];exact hn162_0)|(show (Addr.add _ _).block ≠ _;rw [add_block];exact hn162_0)|exact hn162_0) (.int .i64 ((rd_T41 l0_1 x47_3).f0))).trans hx162_0;replace hx162_0 := (cell_far (p := ⟨gb161, 1, none⟩) (by first|(rw [add_block];exact hn162_1)|(show (Addr.add _ _).block ≠ _;rw [add_block];exact hn162_1)|exact hn162_1) (.int .i64 ((rd_T41 l0_1 x47_3).f1))).trans hx162_0;replace hx162_0 := (cell_far (p := ⟨gb161, 2, none⟩) (by first|(rw [add_block];exact hn162_2)|(show (Addr.add _ _).block ≠ _;rw [add_block];exact hn162_2)|exact hn162_2) (.int .i64 ((rd_T41 l0_1 x47_3).f2))).trans hx162_0;replace hx162_0 := (cell_far (p := ⟨gb161, 3, none⟩) (by first|(rw [add_block];exact hn162_3)|(show (Addr.add _ _).block ≠ _;rw [add_block];exact hn162_3)|exact hn162_3) (.int .i32 ((rd_T41 l0_1 x47_3).f3))).trans hx162_0;clear hn162_0;clear hn162_1;clear hn162_2;clear hn162_3;replace p162 := eq_true p162;replace q162 := eq_true q162))
                (try simp only [← hl10_3])
                (try simp only [px_add0] at *)
                go_roundg k3
                case measure => have := HK1.out;have := HK2.out;have := HK3.out;omega
                case rel => exact ⟨(x10_3), (x12_3), (wrap64 (x47_3 + 1)), (by first|rfl|(simp;done)|(simp [*];done)), (by first|rfl|(simp;done)|(simp [*];done)), H', ⟨by have := HK1.out;have := HK2.out;have := HK3.out;omega⟩, ⟨by (try simp only [hl10_1]);(try simp only [hl10_2]);(try simp only [hl10_3]);(with_reducible repeat (first|apply Kd.R_alloc|apply Kd.R_drewN|apply Kd.R_drew));exact Kd.R_mono (Kd.R_far (p := ⟨gb161, 3, none⟩) (Kd.R_far (p := ⟨gb161, 2, none⟩) (Kd.R_far (p := ⟨gb161, 1, none⟩) (Kd.R_far (p := ⟨gb161, 0, none⟩) (Kd.R_types HO_9.out BK161.out (by decide)) (fun _ hk => hk.2) (.int .i64 ((rd_T41 l0_1 x47_3).f0))) (fun _ hk => hk.2) (.int .i64 ((rd_T41 l0_1 x47_3).f1))) (fun _ hk => hk.2) (.int .i64 ((rd_T41 l0_1 x47_3).f2))) (fun _ hk => hk.2) (.int .i32 ((rd_T41 l0_1 x47_3).f3))) (fun _ hk => trivial)⟩, ⟨by (try simp only [hl10_1]);(try simp only [hl10_2]);(try simp only [hl10_3]);(with_reducible repeat (first|apply Kd.R_alloc|apply Kd.R_drewN|apply Kd.R_drew));exact Kd.R_mono (Kd.R_far (p := ⟨gb161, 3, none⟩) (Kd.R_far (p := ⟨gb161, 2, none⟩) (Kd.R_far (p := ⟨gb161, 1, none⟩) (Kd.R_far (p := ⟨gb161, 0, none⟩) (Kd.R_types HO_10.out BK161.out (by decide)) (fun _ hk => hk.2) (.int .i64 ((rd_T41 l0_1 x47_3).f0))) (fun _ hk => hk.2) (.int .i64 ((rd_T41 l0_1 x47_3).f1))) (fun _ hk => hk.2) (.int .i64 ((rd_T41 l0_1 x47_3).f2))) (fun _ hk => hk.2) (.int .i32 ((rd_T41 l0_1 x47_3).f3))) (fun _ hk => trivial)⟩, ⟨by (try simp only [hl10_1]);(try simp only [hl10_2]);(try simp only [hl10_3]);(with_reducible repeat (first|apply blk_drewN|apply blk_drew|apply blk_alloc));refine blk_far ?_ NB151_161.out _;(with_reducible repeat (first|apply blk_drewN|apply blk_drew|apply blk_alloc));refine blk_far ?_ NB151_161.out _;(with_reducible repeat (first|apply blk_drewN|apply blk_drew|apply blk_alloc));refine blk_far ?_ NB151_161.out _;(with_reducible repeat (first|apply blk_drewN|apply blk_drew|apply blk_alloc));refine blk_far ?_ NB151_161.out _;(with_reducible repeat (first|apply blk_drewN|apply blk_drew|apply blk_alloc));exact BK151.out⟩, ⟨by repeat (first|(with_reducible first|exact HB.out|apply xa|apply xb|apply xc|refine below_set ?_ GE151.out|refine below_set ?_ GE161.out)|exact HB.out)⟩⟩
              ·rw [if_neg c33] at H
               exact absurd H (by simp)
             ·rw [if_neg c32] at H
              exact absurd H (by simp)
            ·rw [if_neg c31] at H
             exact absurd H (by simp)
           ·rw [if_neg c30] at H
            have c30b0 : decide (x47_3 < (l0_1.length : Int)) = false := decide_eq_false c30
            clear c30
            have H' := Aside0.mk H
            clear H
            go_wp2
            (try simp only [← hl10_2, ← hl10_3])
            (try simp only [px_add0] at *)
            go_roundg k3
            case measure => have := HK1.out;have := HK2.out;have := HK3.out;omega
            case rel => exact ⟨(x10_3), (x12_3), (by first|rfl|(simp;done)|(simp [*];done)), H', ⟨by have := HK1.out;have := HK2.out;have := HK3.out;omega⟩, ⟨by (try simp only [hl10_1]);(try simp only [hl10_2]);(try simp only [hl10_3]);(with_reducible repeat (first|apply Kd.R_alloc|apply Kd.R_drewN|apply Kd.R_drew));exact HO_9.out⟩, ⟨by (try simp only [hl10_1]);(try simp only [hl10_2]);(try simp only [hl10_3]);(with_reducible repeat (first|apply Kd.R_alloc|apply Kd.R_drewN|apply Kd.R_drew));exact HO_10.out⟩, ⟨by (try simp only [hl10_1]);(try simp only [hl10_2]);(try simp only [hl10_3]);(with_reducible repeat (first|apply blk_drewN|apply blk_drew|apply blk_alloc));exact BK151.out⟩, ⟨by repeat (first|(with_reducible first|exact HB.out|apply xa|apply xb|apply xc|refine below_set ?_ GE151.out)|exact HB.out)⟩⟩
        ·replace c28 := Bool.eq_false_iff.mpr c28
         subst c28
         have H1 : (some x10_2) = some r := by rw [if_neg (show ¬ (false = true) by decide)] at H;exact H
         clear H
         have H := H1
         clear H1
         obtain rfl := Option.some.inj H
         go_wp2
         go_ret
         exact ⟨_, by first|rfl|(simp [errW_none, errW_some] <;> rfl)|(simp [*, errW_none, errW_some] <;> rfl), by (with_reducible repeat (first|apply Kd.R_alloc|apply Kd.R_drewN|apply Kd.R_drew));exact HO_10.out, by repeat (first|(with_reducible first|exact HB.out|apply xa|apply xb|apply xc|refine below_set ?_ GE151.out)|exact HB.out)⟩
  ·rw [if_neg c7] at H
   exact absurd H (by simp)
 ·rw [if_neg c6] at H
  exact absurd H (by simp)

end Go.Proofs.Ytgiimdoabkcoaaa.PLint
