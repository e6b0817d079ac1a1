/- Functions of the program as Lean functions, and proofs that the code comes to their answers: printed by this session's program. -/
import Derived.Test.YtgiimdoabkcoaaaPLintx0
import Derived.Test.YtgiimdoabkcoaaaPLintx1
namespace Go.Proofs.Ytgiimdoabkcoaaa.PLint
open Go.RowKit Go.Proofs.YtgiimdoabkcoaaaW.PrintWords Go.Proofs.YtgiimdoabkcoaaaW.PrintLast Go.Proofs.YtgiimdoabkcoaaaW.PrintMore
attribute [local go_sem] max2_int min2_int max_two min_two max_three min_three max_four min_four   -- for this text's walks alone
set_option linter.unusedVariables false
set_option linter.unusedSimpArgs false

/-! ### lint_Reach: function 19 -/
mutual
def lint_Reach.l0 : Nat → List Bool → List Int → Int → List (S41) → Option (List Bool)
 | 0, _, _, _, _ => none
 | k + 1, x3, x4, x130000, x130001 => if (x4.length : Int) > 0 then (if 0 ≤ (wrap64 ((x4.length : Int) - 1)) then (if (wrap64 ((x4.length : Int) - 1)) < (x4.length : Int) then (if (wrap64 ((x4.length : Int) - 1)) ≤ (x4.length : Int) then ((lint_Next.f k x130000 x130001 (rd x4 (wrap64 ((x4.length : Int) - 1)))).bind fun t141 => (lint_Reach.l1 k x3 (x4.take ((wrap64 ((x4.length : Int) - 1)) : Int).toNat) t141 (t141.length : Int) 0 x130000 x130001)) else (none)) else (none)) else (none)) else (some x3)
def lint_Reach.l1 : Nat → List Bool → List Int → List Int → Int → Int → Int → List (S41) → Option (List Bool)
 | 0, _, _, _, _, _, _, _ => none
 | k + 1, x3, x4, x36, x37, x38, x130000, x130001 => if x38 < x37 then (if 0 ≤ x38 then (if x38 < (x36.length : Int) then (if 0 ≤ (rd x36 x38) then (if (rd x36 x38) < (x3.length : Int) then (if (rdOf false x3 (rd x36 x38) = true) then (lint_Reach.l1 k x3 x4 x36 x37 (wrap64 (x38 + 1)) x130000 x130001) else (if x4.length < 17592186044416 then (lint_Reach.l1 k (x3.set ((rd x36 x38) : Int).toNat true) (x4 ++ [rd x36 x38]) x36 x37 (wrap64 (x38 + 1)) x130000 x130001) else (none))) else (none)) else (none)) else (none)) else (none)) else (lint_Reach.l0 k x3 x4 x130000 x130001)
end
def lint_Reach.f (k : Nat) (a0_0 : Int) (l0_1 : List (S41)) : Option (List Bool) := if 0 ≤ (l0_1.length : Int) then (if ((l0_1.length : Int) : Int).toNat ≤ 281474976710656 then ((some (List.replicate ((l0_1.length : Int) : Int).toNat false : List Bool)).bind fun y130 => (if (l0_1.length : Int) = 0 then (some y130) else (if 0 < (y130.length : Int) then (lint_Reach.l0 k (y130.set (0 : Int).toNat true) (([0] : List Int)) a0_0 l0_1) else (none)))) else (none)) else (none)
theorem lint_Reach.mono_l : ∀ k, (∀ y0 y1 y2 y3, LeO (lint_Reach.l0 k y0 y1 y2 y3) (lint_Reach.l0 (k + 1) y0 y1 y2 y3)) ∧ (∀ y0 y1 y2 y3 y4 y5 y6, LeO (lint_Reach.l1 k y0 y1 y2 y3 y4 y5 y6) (lint_Reach.l1 (k + 1) y0 y1 y2 y3 y4 y5 y6))
 | 0 => ⟨fun _ _ _ _ r h => by simp [lint_Reach.l0] at h, fun _ _ _ _ _ _ _ r h => by simp [lint_Reach.l1] at h⟩
 | k + 1 => by
  obtain ⟨ih0, ih1⟩ := lint_Reach.mono_l k
  refine ⟨?_, ?_⟩
  ·intro y0 y1 y2 y3
   unfold lint_Reach.l0
   repeat' first
   | (with_reducible exact ih0 _ _ _ _)
   | (with_reducible exact ih1 _ _ _ _ _ _ _)
   | (with_reducible exact lint_Next.mono _ _ _ _)
   | (with_reducible exact LeO.refl _)
   | (with_reducible exact LeO.none _)
   | (with_reducible refine LeO.ite ?_ ?_)
   | (with_reducible refine LeO.bind ?_ (fun _ => ?_))
   | exact ih0 _ _ _ _
   | exact ih1 _ _ _ _ _ _ _
   | exact lint_Next.mono _ _ _ _
   | exact LeO.none _
   | refine LeO.ite ?_ ?_
   | refine LeO.bind ?_ (fun _ => ?_)
  ·intro y0 y1 y2 y3 y4 y5 y6
   unfold lint_Reach.l1
   repeat' first
   | (with_reducible exact ih0 _ _ _ _)
   | (with_reducible exact ih1 _ _ _ _ _ _ _)
   | (with_reducible exact lint_Next.mono _ _ _ _)
   | (with_reducible exact LeO.refl _)
   | (with_reducible exact LeO.none _)
   | (with_reducible refine LeO.ite ?_ ?_)
   | (with_reducible refine LeO.bind ?_ (fun _ => ?_))
   | exact ih0 _ _ _ _
   | exact ih1 _ _ _ _ _ _ _
   | exact lint_Next.mono _ _ _ _
   | exact LeO.none _
   | refine LeO.ite ?_ ?_
   | refine LeO.bind ?_ (fun _ => ?_)
theorem lint_Reach.mono : ∀ a0 a1 k, LeO (lint_Reach.f k a0 a1) (lint_Reach.f (k + 1) a0 a1) := by
 intro a0 a1 k
 obtain ⟨ih0, ih1⟩ := lint_Reach.mono_l k
 unfold lint_Reach.f
 repeat' first
   | (with_reducible exact ih0 _ _ _ _)
   | (with_reducible exact ih1 _ _ _ _ _ _ _)
   | (with_reducible exact lint_Next.mono _ _ _ _)
   | (with_reducible exact LeO.refl _)
   | (with_reducible exact LeO.none _)
   | (with_reducible refine LeO.ite ?_ ?_)
   | (with_reducible refine LeO.bind ?_ (fun _ => ?_))
   | exact ih0 _ _ _ _
   | exact ih1 _ _ _ _ _ _ _
   | exact lint_Next.mono _ _ _ _
   | exact LeO.none _
   | refine LeO.ite ?_ ?_
   | refine LeO.bind ?_ (fun _ => ?_)
set_option maxHeartbeats 8000000 in
set_option maxRecDepth 100000 in
theorem lint_Reach.calls (k : Nat) (a0_0 : Int) (A0_1 : Option Addr) (c0_1 : Nat) (l0_1 : List (S41)) (r : List Bool) (w : World) (hr0_1 : Kd.C k41 w A0_1 l0_1.length l0_1) (hc0_1 : l0_1.length ≤ c0_1) (h : lint_Reach.f k a0_0 l0_1 = some r) :
  Calls Try.prog 19 #[.agg #[.int .i64 a0_0, .slice A0_1 l0_1.length c0_1]] w fun e w' => ∃ v0_ : Value, e = .returned (v0_) ∧ Kd.R Kd.bool 4 w' w.heap.size (fun _ => True) v0_ r ∧ Below w.heap.size w w' := by
 have hu24 := Try.underlying24
 have HR0_1 := Aside0.mk hr0_1
 have HC0_1 := Aside0.mk hc0_1
 clear hr0_1 hc0_1
 have HB := Aside0.mk (Below.refl w.heap.size w)
 have H : (if 0 ≤ (l0_1.length : Int) then (if ((l0_1.length : Int) : Int).toNat ≤ 281474976710656 then ((some (List.replicate ((l0_1.length : Int) : Int).toNat false : List Bool)).bind fun y130 => (if (l0_1.length : Int) = 0 then (some y130) else (if 0 < (y130.length : Int) then (lint_Reach.l0 k (y130.set (0 : Int).toNat true) (([0] : List Int)) a0_0 l0_1) else (none)))) else (none)) else (none)) = some r := h
 clear h
 by_cases c2 : 0 ≤ (l0_1.length : Int)
 ·rw [if_pos c2] at H
  have c2b0 := eq_true c2
  have c2b1 : decide (0 ≤ (l0_1.length : Int)) = true := decide_eq_true c2
  clear c2
  by_cases c3 : ((l0_1.length : Int) : Int).toNat ≤ 281474976710656
  ·rw [if_pos c3] at H
   have c3b0 := eq_true c3
   have c3b1 : decide (((l0_1.length : Int) : Int).toNat ≤ 281474976710656) = true := decide_eq_true c3
   clear c3
   obtain ⟨y130, hy130⟩ : ∃ y_ : List Bool, y_ = (List.replicate ((l0_1.length : Int) : Int).toNat false) := ⟨_, rfl⟩
   replace H : (if (l0_1.length : Int) = 0 then (some y130) else (if 0 < (y130.length : Int) then (lint_Reach.l0 k (y130.set (0 : Int).toNat true) (([0] : List Int)) a0_0 l0_1) else (none))) = some r := by first|(rw [hy130];with_reducible exact H)|(have H2_ := (Option.bind_some _ _).symm.trans H;rw [hy130];with_reducible exact H2_)|(have H2_ := (Option.bind_some _ _).symm.trans H;with_reducible exact H2_)|with_reducible exact H|(rw [hy130];exact H)|exact H
   have Ny130 := Aside0.mk hy130
   clear hy130
   by_cases c4 : (l0_1.length : Int) = 0
   ·rw [if_pos c4] at H
    have c4b0 : ((l0_1.length : Int) == 0) = true := beq_iff_eq.mpr c4
    have c4b1 : ((l0_1.length : Int) != 0) = false := bne_eq_false_iff_eq.mpr c4
    clear c4
    obtain rfl := Option.some.inj H
    go_enter Try.func19, Try.ntmps19
    go_wp2_with (first|((with_reducible refine gate_dst (N := 1) rfl ?_);refine box_event ?hg (N := 1) ?hd (cs := #[.int .i64 a0_0, .slice A0_1 l0_1.length c0_1]) (t := 24) ?hr ?_;(case hd => rfl);(case hg => rfl);(case hr => first|(go_simp;done)|(go_simp;rfl));intro gb129 hg w5 hbox hb;have n0_ := Aside0.mk (below_step (by repeat (with_reducible first|exact HB.out|apply xa|apply xb|apply xc)) hb);have n1_ := Aside0.mk (hbox);have n2_ := Aside0.mk ((by rw [hg];exact (below_size (by repeat (with_reducible first|exact HB.out|apply xa|apply xb|apply xc))) : w.heap.size ≤ gb129));have n3_ := Aside0.mk ((by rw [hg];exact (below_size (by repeat (with_reducible first|exact HB.out|apply xa|apply xb|apply xc))) : w.heap.size ≤ gb129));clear HB;have HB := n0_;have BK129 := n1_;have GW129 := n2_;have GE129 := n3_;clear n0_ n1_ n2_ n3_;clear hb hbox hg;have hcz6_0 : w5.cell? ⟨gb129, 0, none⟩ = some (.int .i64 a0_0) := (blk_cell BK129.out 0).trans rfl;have hcz6_1 : w5.cell? ⟨gb129, 1, none⟩ = some (.slice A0_1 l0_1.length c0_1) := (blk_cell BK129.out 1).trans rfl;have hfz6_0 := blk_frozen BK129.out 0;have hfz6_1 := blk_frozen BK129.out 1)|((with_reducible refine gate_dst (N := 11) rfl ?_);refine Kd.R_make Kd.bool _ 4 rfl (N := 11) rfl 29 _ _ rfl (l0_1.length : Int) rfl rfl Try.underlying29 (.bool false) 1 info4 rfl (by decide) (by omega) false (ok := fun _ => True) (okp := fun _ => True) rfl (fun _ hk => hk) trivial (of_decide_eq_true (by assumption)) (Nat.le_trans (Nat.mul_le_mul_right _ (of_decide_eq_true (by assumption) : (l0_1.length : Int).toNat ≤ 281474976710656)) (by omega)) (Below.refl _ _) (Nat.le_refl _) ?_;intro v131 w7 ho8 hb hg_ hnew_;clear hg_ hnew_;(first|rw [← Ny130.out] at ho8|(simp only [Int.reduceToNat] at ho8;rw [← Ny130.out] at ho8));have n0_ := Aside0.mk (Kd.R_lower ho8 (below_size (by repeat (first|(with_reducible first|exact HB.out|apply xa|apply xb|apply xc|refine below_set ?_ GE129.out)|exact HB.out))));have n1_ := Aside0.mk (blk_below (g := gb129) (o := .cells #[.int .i64 a0_0, .slice A0_1 l0_1.length c0_1] 24 (0, 0)) (by (with_reducible repeat (first|apply blk_drewN|apply blk_drew|apply blk_alloc));exact BK129.out) hb);have n2_ := Aside0.mk (below_step (by repeat (first|(with_reducible first|exact HB.out|apply xa|apply xb|apply xc|refine below_set ?_ GE129.out)|exact HB.out)) hb);clear BK129;clear HB;have HO132 := n0_;have BK129 := n1_;have HB := n2_;clear n0_ n1_ n2_;clear hb ho8;have hcz9_0 : w7.cell? ⟨gb129, 0, none⟩ = some (.int .i64 a0_0) := (blk_cell BK129.out 0).trans rfl;have hcz9_1 : w7.cell? ⟨gb129, 1, none⟩ = some (.slice A0_1 l0_1.length c0_1) := (blk_cell BK129.out 1).trans rfl;have hfz9_0 := blk_frozen BK129.out 0;have hfz9_1 := blk_frozen BK129.out 1))
    go_ret
    exact ⟨_, by first|rfl|(simp [errW_none, errW_some] <;> rfl)|(simp [*, errW_none, errW_some] <;> rfl), by (with_reducible repeat (first|apply Kd.R_alloc|apply Kd.R_drewN|apply Kd.R_drew));exact HO132.out, by repeat (first|(with_reducible first|exact HB.out|apply xa|apply xb|apply xc|refine below_set ?_ GE129.out)|exact HB.out)⟩
   ·rw [if_neg c4] at H
    have c4b0 : ((l0_1.length : Int) == 0) = false := beq_eq_false_iff_ne.mpr c4
    have c4b1 : ((l0_1.length : Int) != 0) = true := bne_iff_ne.mpr c4
    have c4b2 : ¬ (l0_1 = []) := fun h_ => c4 (by rw [h_];rfl)
    obtain ⟨y133, hy133⟩ : ∃ y_ : List Int, y_ = (([0] : List Int)) := ⟨_, rfl⟩
    replace H : (if 0 < (y130.length : Int) then (lint_Reach.l0 k (y130.set (0 : Int).toNat true) y133 a0_0 l0_1) else (none)) = some r := by first|(rw [hy133];with_reducible exact H)|(have H2_ := (Option.bind_some _ _).symm.trans H;rw [hy133];with_reducible exact H2_)|(have H2_ := (Option.bind_some _ _).symm.trans H;with_reducible exact H2_)|with_reducible exact H|(rw [hy133];exact H)|exact H
    have Ny133 := Aside0.mk hy133
    clear hy133
    by_cases c10 : 0 < (y130.length : Int)
    ·rw [if_pos c10] at H
     have c10b0 : decide (0 < (y130.length : Int)) = true := decide_eq_true c10
     have c10b1 : decide (0 < y130.length) = true := decide_eq_true (by omega)
     clear c10
     obtain ⟨y136, hy136⟩ : ∃ y_ : List Bool, y_ = (y130.set (0 : Int).toNat true) := ⟨_, rfl⟩
     replace H : (lint_Reach.l0 k y136 y133 a0_0 l0_1) = some r := by first|(rw [hy136];with_reducible exact H)|(have H2_ := (Option.bind_some _ _).symm.trans H;rw [hy136];with_reducible exact H2_)|(have H2_ := (Option.bind_some _ _).symm.trans H;with_reducible exact H2_)|with_reducible exact H|(rw [hy136];exact H)|exact H
     have Ny136 := Aside0.mk hy136
     clear hy136
     have H' := Aside0.mk H
     clear H
     go_enter Try.func19, Try.ntmps19
     go_wp2_with (first|((with_reducible refine gate_dst (N := 1) rfl ?_);refine box_event ?hg (N := 1) ?hd (cs := #[.int .i64 a0_0, .slice A0_1 l0_1.length c0_1]) (t := 24) ?hr ?_;(case hd => rfl);(case hg => rfl);(case hr => first|(go_simp;done)|(go_simp;rfl));intro gb129 hg w12 hbox hb;have n0_ := Aside0.mk (below_step (by repeat (with_reducible first|exact HB.out|apply xa|apply xb|apply xc)) hb);have n1_ := Aside0.mk (hbox);have n2_ := Aside0.mk ((by rw [hg];exact (below_size (by repeat (with_reducible first|exact HB.out|apply xa|apply xb|apply xc))) : w.heap.size ≤ gb129));have n3_ := Aside0.mk ((by rw [hg];exact (below_size (by repeat (with_reducible first|exact HB.out|apply xa|apply xb|apply xc))) : w.heap.size ≤ gb129));clear HB;have HB := n0_;have BK129 := n1_;have GW129 := n2_;have GE129 := n3_;clear n0_ n1_ n2_ n3_;clear hb hbox hg;have hcz13_0 : w12.cell? ⟨gb129, 0, none⟩ = some (.int .i64 a0_0) := (blk_cell BK129.out 0).trans rfl;have hcz13_1 : w12.cell? ⟨gb129, 1, none⟩ = some (.slice A0_1 l0_1.length c0_1) := (blk_cell BK129.out 1).trans rfl;have hfz13_0 := blk_frozen BK129.out 0;have hfz13_1 := blk_frozen BK129.out 1)|((with_reducible refine gate_dst (N := 11) rfl ?_);refine Kd.R_make Kd.bool _ 4 rfl (N := 11) rfl 29 _ _ rfl (l0_1.length : Int) rfl rfl Try.underlying29 (.bool false) 1 info4 rfl (by decide) (by omega) false (ok := fun _ => True) (okp := fun _ => True) rfl (fun _ hk => hk) trivial (of_decide_eq_true (by assumption)) (Nat.le_trans (Nat.mul_le_mul_right _ (of_decide_eq_true (by assumption) : (l0_1.length : Int).toNat ≤ 281474976710656)) (by omega)) (Below.refl _ _) (Nat.le_refl _) ?_;intro v131 w14 ho15 hb hg_ hnew_;clear hg_ hnew_;(first|rw [← Ny130.out] at ho15|(simp only [Int.reduceToNat] at ho15;rw [← Ny130.out] at ho15));have n0_ := Aside0.mk (Kd.R_lower ho15 (below_size (by repeat (first|(with_reducible first|exact HB.out|apply xa|apply xb|apply xc|refine below_set ?_ GE129.out)|exact HB.out))));have n1_ := Aside0.mk (blk_below (g := gb129) (o := .cells #[.int .i64 a0_0, .slice A0_1 l0_1.length c0_1] 24 (0, 0)) (by (with_reducible repeat (first|apply blk_drewN|apply blk_drew|apply blk_alloc));exact BK129.out) hb);have n2_ := Aside0.mk (below_step (by repeat (first|(with_reducible first|exact HB.out|apply xa|apply xb|apply xc|refine below_set ?_ GE129.out)|exact HB.out)) hb);clear BK129;clear HB;have HO132 := n0_;have BK129 := n1_;have HB := n2_;clear n0_ n1_ n2_;clear hb ho15;have hcz16_0 : w14.cell? ⟨gb129, 0, none⟩ = some (.int .i64 a0_0) := (blk_cell BK129.out 0).trans rfl;have hcz16_1 : w14.cell? ⟨gb129, 1, none⟩ = some (.slice A0_1 l0_1.length c0_1) := (blk_cell BK129.out 1).trans rfl;have hfz16_0 := blk_frozen BK129.out 0;have hfz16_1 := blk_frozen BK129.out 1)|((with_reducible refine gate_dst (N := 17) rfl ?_);refine Kd.R_lit (Kd.int .i64) _ 3 ?hg (N := 17) ?hd (xs := ([0] : List Int)) (inner := [.int .i64 0]) (ok := fun _ => True) (okp := fun _ => True) ?hr ?hp (fun _ hk => hk) trivial (Below.refl _ _) (Nat.le_refl _) (by simp) ?_;(case hd => rfl);(case hg => rfl);(case hr => first|(go_simp;done)|(go_simp;rfl));(case hp => exact (Reps.one (show Kd.M (Kd.int .i64) _ _ _ 0 [.int .i64 0] from rfl) (Reps.none _ _)));intro v134 w17 ho18 hb hg_ hnew_;clear hg_ hnew_;(first|rw [← Ny133.out] at ho18|(simp only [Int.reduceToNat] at ho18;rw [← Ny133.out] at ho18));have n0_ := Aside0.mk (Kd.R_below (by (with_reducible repeat (first|apply Kd.R_alloc|apply Kd.R_drewN|apply Kd.R_drew));exact HO132.out) hb);have n1_ := Aside0.mk (Kd.R_lower ho18 (below_size (by repeat (first|(with_reducible first|exact HB.out|apply xa|apply xb|apply xc|refine below_set ?_ GE129.out)|exact HB.out))));have n2_ := Aside0.mk (blk_below (g := gb129) (o := .cells #[.int .i64 a0_0, .slice A0_1 l0_1.length c0_1] 24 (0, 0)) (by (with_reducible repeat (first|apply blk_drewN|apply blk_drew|apply blk_alloc));exact BK129.out) hb);have n3_ := Aside0.mk (below_step (by repeat (first|(with_reducible first|exact HB.out|apply xa|apply xb|apply xc|refine below_set ?_ GE129.out)|exact HB.out)) hb);clear HO132;clear BK129;clear HB;have HO132 := n0_;have HO135 := n1_;have BK129 := n2_;have HB := n3_;clear n0_ n1_ n2_ n3_;clear hb ho18;have p11 : 0 ≤ (0 : Int) := (by omega);have q11 : (0 : Int) < ((y130.length : Int) : Int) := of_decide_eq_true (by assumption);have qi11 : (0 < y130.length) = True := eq_true (by omega);obtain ⟨go11, co11, eo11, gb11, gl11, cl11, HG11⟩ := Kd.R_form HO132.out (by omega);(first|cases eo11|(injection eo11 with ea_ en_ ec_;(first|subst ea_|(injection ea_ with ea_;subst ea_));subst ec_;clear en_));have GB11 := Aside0.mk gb11;have GG11 := Aside0.mk HG11;clear gb11 gl11 HG11;obtain ⟨hx11_0, hf11_0⟩ := Kd.R_celln false HO132.out (0 : Int) p11 q11;(try rw [show ((0 : Int)).toNat = 0 from rfl] at hx11_0);(try simp only [Nat.reduceMul, Nat.zero_mul, Nat.zero_add, Nat.reduceAdd] at hx11_0);(try rw [show ((0 : Int)).toNat = 0 from rfl] at hf11_0);(try simp only [Nat.reduceMul, Nat.zero_mul, Nat.zero_add, Nat.reduceAdd] at hf11_0);replace p11 := eq_true p11;replace q11 := eq_true q11;obtain ⟨hy19_, hz19_⟩ := Kd.R_celln false HO132.out (0 : Int) (by omega) (of_decide_eq_true (by assumption));(try simp only [Int.reduceToNat, Int.toNat_zero, Int.toNat_ofNat, Nat.reduceMul, Nat.zero_mul, Nat.zero_add] at hy19_ hz19_);(try rw [show ((0 : Int)).toNat = 0 from rfl] at hy19_);(try rw [show ((0 : Int)).toNat = 0 from rfl] at hz19_);have HP19 := Kd.R_putg HO132.out (0 : Int) true)|((with_reducible refine gate_store (t := 4) (p := 19) rfl ?_);refine store_event (t := 4) (p := 19) (v := ?vo_w20) (w1 := (w17.setCell ⟨go11, (0 : Int).toNat, none⟩ (.bool true))) ?hg ?ho ?hn ?hr ?_;(case ho => rfl);(case hg => rfl);(case hn => rfl);(case hr => first|(go_simp;done)|(go_simp;rfl));intro w20 hw;have hg : w17.grownBy w20 (some go11) := (by rw [hw];exact HP19.2);have hp_ : Kd.R Kd.bool 4 w20 w.heap.size (fun _ => True) (.slice (some ⟨go11, 0, none⟩) y130.length co11) y136 := (by rw [hw, Ny136.out];exact HP19.1);clear HP19;have n0_ := Aside0.mk (blk_grown (g := gb129) (o := .cells #[.int .i64 a0_0, .slice A0_1 l0_1.length c0_1] 24 (0, 0)) (by (with_reducible repeat (first|apply blk_drewN|apply blk_drew|apply blk_alloc));exact BK129.out) hg (Kd.R_ne HO132.out BK129.out (by decide)));have n1_ := Aside0.mk (hp_);have n2_ := Aside0.mk (Kd.R_over' (v := (.slice (some ⟨go11, 0, none⟩) y130.length co11)) (by (with_reducible repeat (first|apply Kd.R_alloc|apply Kd.R_drewN|apply Kd.R_drew));exact HO135.out) (Kd.R_typed HO132.out) (by decide) hg);have n3_ := Aside0.mk ((by rw [hw];exact below_set (HB.out) GB11.out : Below w.heap.size w w20));clear BK129;clear HO132;clear HO135;clear HB;have BK129 := n0_;have HO132 := n1_;have HO135 := n2_;have HB := n3_;clear n0_ n1_ n2_ n3_;clear hg hw hp_))
     go_loopg [4] k (fun kq v4 w' => ∃ (x3_1 : List Bool) (x4_1 : List Int), Aside0 (lint_Reach.l0 kq x3_1 x4_1 a0_0 l0_1 = some r) ∧ Aside0 (kq ≤ k) ∧ Aside0 (Kd.R Kd.bool 4 w' w.heap.size (fun _ => True) (.slice (some ⟨go11, 0, none⟩) y130.length co11) x3_1) ∧ Aside0 (Kd.R (Kd.int .i64) 3 w' w.heap.size (fun _ => True) v4 x4_1) ∧ Aside0 (w'.heap[gb129]? = some (.cells #[.int .i64 a0_0, (.slice A0_1 l0_1.length c0_1)] 24 (0, 0))) ∧ Aside0 (Below w.heap.size w w'))
     case atStart => exact ⟨(y136), (y133), H', ⟨Nat.le_refl _⟩, ⟨by (with_reducible repeat (first|apply Kd.R_alloc|apply Kd.R_drewN|apply Kd.R_drew));exact HO132.out⟩, ⟨by (with_reducible repeat (first|apply Kd.R_alloc|apply Kd.R_drewN|apply Kd.R_drew));exact HO135.out⟩, ⟨by (with_reducible repeat (first|apply blk_drewN|apply blk_drew|apply blk_alloc));exact BK129.out⟩, ⟨by repeat (first|(with_reducible first|exact HB.out|apply xa|apply xb|apply xc|refine below_set ?_ GE129.out)|exact HB.out)⟩⟩
     case round =>
      clear H'
      try clear c1
      try clear p1
      try clear q1
      try clear hx1
      try clear qi1
      try clear hf1
      try clear c2
      try clear c2b0
      try clear c2b1
      try clear p2
      try clear c3
      try clear c3b0
      try clear c3b1
      try clear c4
      try clear c4b0
      try clear c4b1
      try clear c4b2
      try clear c10
      try clear c10b0
      try clear c10b1
      try clear p11
      try clear q11
      try clear hx11
      try clear qi11
      try clear hf11
      try clear c19
      try clear hcz13_0
      try clear hcz13_1
      try clear hcz16_0
      try clear hcz16_1
      try clear hcz6_0
      try clear hcz6_1
      try clear hcz9_0
      try clear hcz9_1
      try clear hfz13_0
      try clear hfz13_1
      try clear hfz16_0
      try clear hfz16_1
      try clear hfz6_0
      try clear hfz6_1
      try clear hfz9_0
      try clear hfz9_1
      try clear hx11_0
      try clear p11
      try clear q11
      obtain ⟨x3_1, x4_1, HA, HK1, HO_3, HO_4, BK129, HB⟩ := hrel
      have hl3_1 := (Kd.R_reads' HO_3.out).1
      rw [hl3_1] at HO_3
      (try simp only [hl3_1])
      (try simp only [hl3_1] at BK129)
      (try simp only [hl3_1] at HO_4)
      cases gk with
      | zero => exact absurd HA.out (by simp [lint_Reach.l0])
      | succ k1 =>
       have H := HA.out
       clear HA
       simp only [lint_Reach.l0] at H
       by_cases c21 : (x4_1.length : Int) > 0
       ·rw [if_pos c21] at H
        have c21b0 : decide (0 < (x4_1.length : Int)) = true := decide_eq_true c21
        have c21b9 := c21b0
        (try simp only [hl3_1] at c21b9)
        have c21b1 : decide (0 < x4_1.length) = true := decide_eq_true (by omega)
        clear c21
        obtain ⟨ji22, hji22⟩ : ∃ j_ : Int, (wrap64 ((x4_1.length : Int) - 1)) = j_ := ⟨_, rfl⟩
        replace H : (if 0 ≤ (ji22) then (if (ji22) < (x4_1.length : Int) then (if (ji22) ≤ (x4_1.length : Int) then ((lint_Next.f k1 a0_0 l0_1 (rd x4_1 (ji22))).bind fun t141 => (lint_Reach.l1 k1 x3_1 (x4_1.take ((ji22) : Int).toNat) t141 (t141.length : Int) 0 a0_0 l0_1)) else (none)) else (none)) else (none)) = some r := by first|(rw [hji22] at H;exact H)|(simp only [hji22] at H ⊢;exact H)
        have hji22w : (IntKind.i64.wrap ((x4_1.length : Int) - 1)) = ji22 := (i64_w _).trans hji22
        by_cases c23 : 0 ≤ (ji22)
        ·rw [if_pos c23] at H
         have c23b0 : decide (0 ≤ (ji22)) = true := decide_eq_true c23
         clear c23
         by_cases c24 : (ji22) < (x4_1.length : Int)
         ·rw [if_pos c24] at H
          have c24b0 : decide ((ji22) < (x4_1.length : Int)) = true := decide_eq_true c24
          have c24b9 := c24b0
          (try simp only [hl3_1] at c24b9)
          clear c24
          by_cases c25 : (ji22) ≤ (x4_1.length : Int)
          ·rw [if_pos c25] at H
           have c25b0 := eq_true c25
           have c25b1 : decide ((ji22) ≤ (x4_1.length : Int)) = true := decide_eq_true c25
           clear c25
           obtain ⟨y138, hy138⟩ : ∃ y_ : List Int, y_ = (x4_1.take ((ji22) : Int).toNat) := ⟨_, rfl⟩
           replace H : ((lint_Next.f k1 a0_0 l0_1 (rd x4_1 (ji22))).bind fun t141 => (lint_Reach.l1 k1 x3_1 y138 t141 (t141.length : Int) 0 a0_0 l0_1)) = some r := by first|(rw [hy138];with_reducible exact H)|(have H2_ := (Option.bind_some _ _).symm.trans H;rw [hy138];with_reducible exact H2_)|(have H2_ := (Option.bind_some _ _).symm.trans H;with_reducible exact H2_)|with_reducible exact H|(rw [hy138];exact H)|exact H
           have Ny138 := Aside0.mk hy138
           clear hy138
           replace H := Option.bind_eq_some_iff.mp H
           obtain ⟨t141, A260, H⟩ := H
           replace H : (lint_Reach.l1 k1 x3_1 y138 t141 (t141.length : Int) 0 a0_0 l0_1) = some r := H
           have A26 := Aside0.mk A260
           clear A260
           have H' := Aside0.mk H
           clear H
           obtain ⟨Ao27, co27, eo27⟩ := Kd.R_slice HO_4.out
           subst eo27
           have p137 : 0 ≤ ((ji22) : Int) := of_decide_eq_true (by assumption)
           have q137 : (ji22) < (x4_1.length : Int) := of_decide_eq_true (by assumption)
           obtain ⟨ad137, e137, hx137_0⟩ := Kd.at_int (Kd.R_reads' HO_4.out).2.2 (ji22) p137 q137
           cases e137
           replace p137 := eq_true p137
           replace q137 := eq_true q137
           have q28 : ((ji22) : Int) ≤ ((x4_1.length : Int) : Int) := of_decide_eq_true (by assumption)
           obtain ⟨i028, hi028, _, hsz28, _⟩ := info_parts info3
           have hcut28 := cut_to (P := Try.prog) 27 3 .i64 Try.underlying27 hi028 (some ad137) x4_1.length co27 (ji22) (of_decide_eq_true (by assumption)) q28 (Kd.R_reads' HO_4.out).2.1
           have hr28 := Kd.R_take (m := ((ji22) : Int).toNat) HO_4.out (by omega)
           have hy28 : y138.length = ((ji22) : Int).toNat := (by rw [Ny138.out, List.length_take];omega)
           rw [← Ny138.out] at hr28
           rw [← hy28] at hr28 hcut28
           clear hy28 hi028 hsz28 HO_4
           have HO140 := Aside0.mk hr28
           clear hr28
           replace q28 := eq_true q28
           have hcz29_0 : wr.cell? ⟨gb129, 0, none⟩ = some (.int .i64 a0_0) := (blk_cell BK129.out 0).trans rfl
           have hcz29_1 : wr.cell? ⟨gb129, 1, none⟩ = some (.slice A0_1 l0_1.length c0_1) := (blk_cell BK129.out 1).trans rfl
           have hfz29_0 := blk_frozen BK129.out 0
           have hfz29_1 := blk_frozen BK129.out 1
           go_wp2_with (first|((with_reducible refine gate_callee (f := 21) rfl ?_);refine goesL_ (some 36) rfl rfl Try.func21 (by kernel_rfl) rfl #[.agg #[.int .i64 a0_0, .slice A0_1 l0_1.length c0_1], .int .i64 (rd x4_1 (ji22))] rfl (by (try simp only [List.map_toArray, List.map_cons, List.map_nil]);first|done|(simp only [hji22];rfl)|rfl|(simp only [List.length_drop, List.length_take];rfl)) ?_;(with_reducible refine (lint_Next.calls k1 a0_0 _ _ l0_1 (rd x4_1 (ji22)) t141 _ ?side1 ?side2 A26.out).mono ?_);(case side1 => repeat (first|exact (Kd.C_below HR0_1.out HB.out)|(with_reducible refine Kd.C_alloc ?_ _)|(with_reducible refine Kd.C_drewN ?_ _)|(with_reducible refine Kd.C_drew ?_)));(case side2 => exact HC0_1.out);rintro e w30 ⟨v142, rfl, ho0, hb⟩;refine ⟨_, rfl, ?_⟩;have n0_ := Aside0.mk (Kd.R_below (by (with_reducible repeat (first|apply Kd.R_alloc|apply Kd.R_drewN|apply Kd.R_drew));exact HO_3.out) hb);have n1_ := Aside0.mk (Kd.R_elder' (by (with_reducible repeat (first|apply Kd.R_alloc|apply Kd.R_drewN|apply Kd.R_drew));exact HO140.out) (Kd.R_base ho0) hb);have n2_ := Aside0.mk (Kd.R_lower (Kd.R_new' ho0 (Kd.R_lt (by (with_reducible repeat (first|apply Kd.R_alloc|apply Kd.R_drewN|apply Kd.R_drew));exact HO140.out))) (below_size (by repeat (first|(with_reducible first|exact HB.out|apply xa|apply xb|apply xc|refine below_set ?_ GE129.out)|exact HB.out))));have n3_ := Aside0.mk (blk_below (g := gb129) (o := .cells #[.int .i64 a0_0, .slice A0_1 l0_1.length c0_1] 24 (0, 0)) (by (with_reducible repeat (first|apply blk_drewN|apply blk_drew|apply blk_alloc));exact BK129.out) hb);have n4_ := Aside0.mk (below_step (by repeat (first|(with_reducible first|exact HB.out|apply xa|apply xb|apply xc|refine below_set ?_ GE129.out)|exact HB.out)) hb);clear HO_3;clear HO140;clear BK129;clear HB;have HO_3 := n0_;have HO140 := n1_;have HO143 := n2_;have BK129 := n3_;have HB := n4_;clear n0_ n1_ n2_ n3_ n4_;(try clear hb);(try clear hb2);(try clear hk);(try clear hi);(try clear ho0);obtain ⟨Ao31, co31, eo31⟩ := Kd.R_slice HO143.out;subst eo31))
           go_loopg [4, 38] k1 (fun kq v4 v38 w' => ∃ (x3_2 : List Bool) (x4_2 : List Int) (x38_2 : Int), v38 = .int .i64 x38_2 ∧ Aside0 (lint_Reach.l1 kq x3_2 x4_2 t141 (t141.length : Int) x38_2 a0_0 l0_1 = some r) ∧ Aside0 (kq ≤ k1) ∧ Aside0 (Kd.R Kd.bool 4 w' w.heap.size (fun _ => True) (.slice (some ⟨go11, 0, none⟩) x3_1.length co11) x3_2) ∧ Aside0 (Kd.R (Kd.int .i64) 3 w' w.heap.size (fun k_ => some k_ ≠ ((.slice Ao31 t141.length co31) : Value).ownBlock) v4 x4_2) ∧ Aside0 (Kd.R (Kd.int .i64) 3 w' w.heap.size (fun k_ => some k_ ≠ (v4 : Value).ownBlock) (.slice Ao31 t141.length co31) t141) ∧ Aside0 (w'.heap[gb129]? = some (.cells #[.int .i64 a0_0, (.slice A0_1 l0_1.length c0_1)] 24 (0, 0))) ∧ Aside0 (Below w.heap.size w w'))
           case atStart => exact ⟨(x3_1), (y138), (0), (by first|rfl|(simp;done)|(simp [*];done)), H', ⟨Nat.le_refl _⟩, ⟨by (try simp only [hl3_1]);(with_reducible repeat (first|apply Kd.R_alloc|apply Kd.R_drewN|apply Kd.R_drew));exact HO_3.out⟩, ⟨by (try simp only [hl3_1]);(with_reducible repeat (first|apply Kd.R_alloc|apply Kd.R_drewN|apply Kd.R_drew));exact Kd.R_mono HO140.out (fun _ hk => hk.2)⟩, ⟨by (try simp only [hl3_1]);(with_reducible repeat (first|apply Kd.R_alloc|apply Kd.R_drewN|apply Kd.R_drew));exact Kd.R_mono HO143.out (fun _ hk => hk.2)⟩, ⟨by (try simp only [hl3_1]);(with_reducible repeat (first|apply blk_drewN|apply blk_drew|apply blk_alloc));exact BK129.out⟩, ⟨by repeat (first|(with_reducible first|exact HB.out|apply xa|apply xb|apply xc|refine below_set ?_ GE129.out)|exact HB.out)⟩⟩
           case round =>
            clear H'
            try clear c1
            try clear p1
            try clear q1
            try clear hx1
            try clear qi1
            try clear hf1
            try clear c2
            try clear c2b0
            try clear c2b1
            try clear p2
            try clear q2
            try clear c3
            try clear c3b0
            try clear c3b1
            try clear c4
            try clear c4b0
            try clear c4b1
            try clear c4b2
            try clear p6
            try clear c10
            try clear c10b0
            try clear c10b1
            try clear p11
            try clear q11
            try clear hx11
            try clear qi11
            try clear hf11
            try clear p13
            try clear q13
            try clear hx13
            try clear c19
            try clear c21
            try clear c21b0
            try clear c21b1
            try clear c23
            try clear c23b0
            try clear c24
            try clear c24b0
            try clear c25
            try clear c25b0
            try clear c25b1
            try clear q28
            try clear hcz13_0
            try clear hcz13_1
            try clear hcz16_0
            try clear hcz16_1
            try clear hcz29_0
            try clear hcz29_1
            try clear hcz6_0
            try clear hcz6_1
            try clear hcz9_0
            try clear hcz9_1
            try clear hfz13_0
            try clear hfz13_1
            try clear hfz16_0
            try clear hfz16_1
            try clear hfz29_0
            try clear hfz29_1
            try clear hfz6_0
            try clear hfz6_1
            try clear hfz9_0
            try clear hfz9_1
            try clear hx11_0
            try clear hx137_0
            try clear p1
            try clear p11
            try clear p137
            try clear p2
            try clear q1
            try clear q11
            try clear q137
            try clear q28
            obtain ⟨x3_2, x4_2, x38_2, rfl, HA, HK2, HO_3, HO_4, HO_36, BK129, HB⟩ := hrel
            have hl3_2 := (Kd.R_reads' HO_3.out).1
            rw [hl3_2] at HO_3
            (try simp only [hl3_2])
            (try simp only [hl3_2] at BK129)
            (try simp only [hl3_2] at HO_4)
            (try simp only [hl3_2] at HO_36)
            cases gk with
            | zero => exact absurd HA.out (by simp [lint_Reach.l1])
            | succ k2 =>
             have H := HA.out
             clear HA
             simp only [lint_Reach.l1] at H
             by_cases c32 : x38_2 < (t141.length : Int)
             ·rw [if_pos c32] at H
              have c32b0 : decide (x38_2 < (t141.length : Int)) = true := decide_eq_true c32
              clear c32
              by_cases c33 : 0 ≤ x38_2
              ·rw [if_pos c33] at H
               have c33b0 : decide (0 ≤ x38_2) = true := decide_eq_true c33
               clear c33
               by_cases c34 : x38_2 < (t141.length : Int)
               ·rw [if_pos c34] at H
                have c34b0 : decide (x38_2 < (t141.length : Int)) = true := decide_eq_true c34
                clear c34
                by_cases c35 : 0 ≤ (rd t141 x38_2)
                ·rw [if_pos c35] at H
                 have c35b0 : decide (0 ≤ (rd t141 x38_2)) = true := decide_eq_true c35
                 clear c35
                 by_cases c36 : (rd t141 x38_2) < (x3_2.length : Int)
                 ·rw [if_pos c36] at H
                  have c36b0 : decide ((rd t141 x38_2) < (x3_2.length : Int)) = true := decide_eq_true c36
                  have c36b9 := c36b0
                  (try simp only [hl3_1] at c36b9)
                  (try simp only [hl3_2] at c36b9)
                  clear c36
                  obtain ⟨bq37, hbq37⟩ : ∃ b_ : Bool, b_ = (rdOf false x3_2 (rd t141 x38_2)) := ⟨_, rfl⟩
                  replace H : (if (bq37 = true) then (lint_Reach.l1 k2 x3_2 x4_2 t141 (t141.length : Int) (wrap64 (x38_2 + 1)) a0_0 l0_1) else (if x4_2.length < 17592186044416 then (lint_Reach.l1 k2 (x3_2.set ((rd t141 x38_2) : Int).toNat true) (x4_2 ++ [rd t141 x38_2]) t141 (t141.length : Int) (wrap64 (x38_2 + 1)) a0_0 l0_1) else (none))) = some r := by rw [← hbq37] at H;exact H
                  have Nbq37 := Aside0.mk hbq37
                  (try rw [← Nbq37.out] at c34b0)
                  (try rw [← Nbq37.out] at c34b1)
                  (try rw [← Nbq37.out] at c34b2)
                  (try rw [← Nbq37.out] at c34b3)
                  (try rw [← Nbq37.out] at c35b0)
                  (try rw [← Nbq37.out] at c35b1)
                  (try rw [← Nbq37.out] at c35b2)
                  (try rw [← Nbq37.out] at c35b3)
                  (try rw [← Nbq37.out] at c36b0)
                  (try rw [← Nbq37.out] at c36b1)
                  (try rw [← Nbq37.out] at c36b2)
                  (try rw [← Nbq37.out] at c36b3)
                  clear hbq37
                  by_cases c38 : (bq37 = true)
                  ·subst c38
                   have H1 : (lint_Reach.l1 k2 x3_2 x4_2 t141 (t141.length : Int) (wrap64 (x38_2 + 1)) a0_0 l0_1) = some r := by rw [if_pos rfl] at H;exact H
                   clear H
                   have H := H1
                   clear H1
                   have H' := Aside0.mk H
                   clear H
                   have p144 : 0 ≤ (x38_2 : Int) := of_decide_eq_true (by assumption)
                   have q144 : x38_2 < (t141.length : Int) := of_decide_eq_true (by assumption)
                   obtain ⟨ad144, e144, hx144_0⟩ := Kd.at_int (Kd.R_reads' HO_36.out).2.2 x38_2 p144 q144
                   cases e144
                   replace p144 := eq_true p144
                   replace q144 := eq_true q144
                   have p145 : 0 ≤ ((rd t141 x38_2) : Int) := of_decide_eq_true (by assumption)
                   have q145 : (rd t141 x38_2) < (x3_2.length : Int) := of_decide_eq_true (by assumption)
                   obtain ⟨ad145, e145, hx145_0⟩ := Kd.at_bool (Kd.R_reads' HO_3.out).2.2 (rd t141 x38_2) p145 q145
                   (try rw [← Nbq37.out] at hx145_0)
                   obtain rfl : (⟨go11, 0, none⟩ : Addr) = ad145 := (by injection e145)
                   (first|simp only [add_plain] at hx145_0|simp only [add_at] at hx145_0|simp only [Addr.add, Nat.zero_add] at hx145_0|skip)
                   replace p145 := eq_true p145
                   replace q145 := eq_true q145
                   go_wp2
                   (try simp only [← hl3_2])
                   (try simp only [px_add0] at *)
                   go_roundg k2
                   case measure => have := HK1.out;have := HK2.out;omega
                   case rel => exact ⟨(x3_2), (x4_2), (wrap64 (x38_2 + 1)), (by first|rfl|(simp;done)|(simp [*];done)), H', ⟨by have := HK1.out;have := HK2.out;omega⟩, ⟨by (try simp only [hl3_1]);(try simp only [hl3_2]);(with_reducible repeat (first|apply Kd.R_alloc|apply Kd.R_drewN|apply Kd.R_drew));exact HO_3.out⟩, ⟨by (try simp only [hl3_1]);(try simp only [hl3_2]);(with_reducible repeat (first|apply Kd.R_alloc|apply Kd.R_drewN|apply Kd.R_drew));exact HO_4.out⟩, ⟨by (try simp only [hl3_1]);(try simp only [hl3_2]);(with_reducible repeat (first|apply Kd.R_alloc|apply Kd.R_drewN|apply Kd.R_drew));exact HO_36.out⟩, ⟨by (try simp only [hl3_1]);(try simp only [hl3_2]);(with_reducible repeat (first|apply blk_drewN|apply blk_drew|apply blk_alloc));exact BK129.out⟩, ⟨by repeat (first|(with_reducible first|exact HB.out|apply xa|apply xb|apply xc|refine below_set ?_ GE129.out)|exact HB.out)⟩⟩
                  ·replace c38 := Bool.eq_false_iff.mpr c38
                   subst c38
                   have H1 : (if x4_2.length < 17592186044416 then (lint_Reach.l1 k2 (x3_2.set ((rd t141 x38_2) : Int).toNat true) (x4_2 ++ [rd t141 x38_2]) t141 (t141.length : Int) (wrap64 (x38_2 + 1)) a0_0 l0_1) else (none)) = some r := by rw [if_neg (show ¬ (false = true) by decide)] at H;exact H
                   clear H
                   have H := H1
                   clear H1
                   obtain ⟨y146, hy146⟩ : ∃ y_ : List Bool, y_ = (x3_2.set ((rd t141 x38_2) : Int).toNat true) := ⟨_, rfl⟩
                   replace H : (if x4_2.length < 17592186044416 then (lint_Reach.l1 k2 y146 (x4_2 ++ [rd t141 x38_2]) t141 (t141.length : Int) (wrap64 (x38_2 + 1)) a0_0 l0_1) else (none)) = some r := by first|(rw [hy146];with_reducible exact H)|(have H2_ := (Option.bind_some _ _).symm.trans H;rw [hy146];with_reducible exact H2_)|(have H2_ := (Option.bind_some _ _).symm.trans H;with_reducible exact H2_)|with_reducible exact H|(rw [hy146];exact H)|exact H
                   have Ny146 := Aside0.mk hy146
                   clear hy146
                   by_cases c40 : x4_2.length < 17592186044416
                   ·rw [if_pos c40] at H
                    have LMc40 := Aside0.mk c40
                    clear c40
                    obtain ⟨y147, hy147⟩ : ∃ y_ : List Int, y_ = (x4_2 ++ [rd t141 x38_2]) := ⟨_, rfl⟩
                    replace H : (lint_Reach.l1 k2 y146 y147 t141 (t141.length : Int) (wrap64 (x38_2 + 1)) a0_0 l0_1) = some r := by first|(rw [hy147];with_reducible exact H)|(have H2_ := (Option.bind_some _ _).symm.trans H;rw [hy147];with_reducible exact H2_)|(have H2_ := (Option.bind_some _ _).symm.trans H;with_reducible exact H2_)|with_reducible exact H|(rw [hy147];exact H)|exact H
                    have Ny147 := Aside0.mk hy147
                    clear hy147
                    have H' := Aside0.mk H
                    clear H
                    have p144 : 0 ≤ (x38_2 : Int) := of_decide_eq_true (by assumption)
                    have q144 : x38_2 < (t141.length : Int) := of_decide_eq_true (by assumption)
                    obtain ⟨ad144, e144, hx144_0⟩ := Kd.at_int (Kd.R_reads' HO_36.out).2.2 x38_2 p144 q144
                    cases e144
                    replace p144 := eq_true p144
                    replace q144 := eq_true q144
                    have p145 : 0 ≤ ((rd t141 x38_2) : Int) := of_decide_eq_true (by assumption)
                    have q145 : (rd t141 x38_2) < (x3_2.length : Int) := of_decide_eq_true (by assumption)
                    obtain ⟨ad145, e145, hx145_0⟩ := Kd.at_bool (Kd.R_reads' HO_3.out).2.2 (rd t141 x38_2) p145 q145
                    (try rw [← Nbq37.out] at hx145_0)
                    obtain rfl : (⟨go11, 0, none⟩ : Addr) = ad145 := (by injection e145)
                    (first|simp only [add_plain] at hx145_0|simp only [add_at] at hx145_0|simp only [Addr.add, Nat.zero_add] at hx145_0|skip)
                    replace p145 := eq_true p145
                    replace q145 := eq_true q145
                    have p39 : 0 ≤ ((rd t141 x38_2) : Int) := of_decide_eq_true (by assumption)
                    have q39 : ((rd t141 x38_2) : Int) < ((x3_2.length : Int) : Int) := of_decide_eq_true (by assumption)
                    obtain ⟨hx39_0, hf39_0⟩ := Kd.R_celln false HO_3.out ((rd t141 x38_2) : Int) p39 q39
                    replace p39 := eq_true p39
                    replace q39 := eq_true q39
                    have HP41 := Kd.R_putg HO_3.out ((rd t141 x38_2) : Int) true
                    go_wp2_with (first|((with_reducible refine gate_store (t := 4) (p := 49) rfl ?_);refine store_event (t := 4) (p := 49) (v := ?vo_w42) (w1 := (wr.setCell ⟨go11, ((rd t141 x38_2) : Int).toNat, none⟩ (.bool true))) ?hg ?ho ?hn ?hr ?_;(case ho => rfl);(case hg => rfl);(case hn => rfl);(case hr => first|(go_simp;done)|(go_simp;rfl));intro w42 hw;have hg : wr.grownBy w42 (some go11) := (by rw [hw];exact HP41.2);have hp_ : Kd.R Kd.bool 4 w42 w.heap.size (fun _ => True) (.slice (some ⟨go11, 0, none⟩) x3_2.length co11) y146 := (by rw [hw, Ny146.out];exact HP41.1);clear HP41;have n0_ := Aside0.mk (hp_);have n1_ := Aside0.mk (Kd.R_over' (v := (.slice (some ⟨go11, 0, none⟩) x3_2.length co11)) (by (with_reducible repeat (first|apply Kd.R_alloc|apply Kd.R_drewN|apply Kd.R_drew));exact HO_4.out) (Kd.R_typed HO_3.out) (by decide) hg);have n2_ := Aside0.mk (Kd.R_over' (v := (.slice (some ⟨go11, 0, none⟩) x3_2.length co11)) (by (with_reducible repeat (first|apply Kd.R_alloc|apply Kd.R_drewN|apply Kd.R_drew));exact HO_36.out) (Kd.R_typed HO_3.out) (by decide) hg);have n3_ := Aside0.mk (blk_grown (g := gb129) (o := .cells #[.int .i64 a0_0, .slice A0_1 l0_1.length c0_1] 24 (0, 0)) (by (with_reducible repeat (first|apply blk_drewN|apply blk_drew|apply blk_alloc));exact BK129.out) hg (Kd.R_ne HO_3.out BK129.out (by decide)));have n4_ := Aside0.mk ((by rw [hw];exact below_set (HB.out) GB11.out : Below w.heap.size w w42));clear HO_3;clear HO_4;clear HO_36;clear BK129;clear HB;have HO_3 := n0_;have HO_4 := n1_;have HO_36 := n2_;have BK129 := n3_;have HB := n4_;clear n0_ n1_ n2_ n3_ n4_;clear hg hw hp_)|((with_reducible refine gate_builtin (b := .append) (xs := #[.tmp 50, .tmp 52]) rfl ?_);at_builtin;refine Kd.R_append (Kd.int .i64) (w0 := w) w.heap.size rfl (.tmp 50) (.tmp 52) 27 3 (.int .i64 0) 8 rfl Try.underlying27 info3 rfl (by decide) (by omega) u4 x4_2 (rd t141 x38_2) [.int .i64 (rd t141 x38_2)] (fun k_ => some k_ ≠ (.slice (some ad144) t141.length co31 : Value).ownBlock) (fun _ => False) rfl rfl ?aP (fun _ hk => hk.elim) ?aF ?aO ?aB ?aS ?aL ?_;(case aP => exact rfl);(case aB => exact (by repeat (first|(with_reducible first|exact HB.out|apply xa|apply xb|apply xc|refine below_set ?_ GE129.out)|exact HB.out)));(case aF => exact (fun k_ hk => Kd.fresh' (Kd.R_lt (by (with_reducible repeat (first|apply Kd.R_alloc|apply Kd.R_drewN|apply Kd.R_drew));exact HO_36.out)) k_ hk));(case aO => exact (by (with_reducible repeat (first|apply Kd.R_alloc|apply Kd.R_drewN|apply Kd.R_drew));exact HO_4.out));(case aS => exact (below_size (by repeat (first|(with_reducible first|exact HB.out|apply xa|apply xb|apply xc|refine below_set ?_ GE129.out)|exact HB.out))));(case aL => have := LMc40.out;omega);intro v148 w43 ho hb hg hat;rw [← Ny147.out] at ho;have n0_ := Aside0.mk (Kd.R_over' (by (with_reducible repeat (first|apply Kd.R_alloc|apply Kd.R_drewN|apply Kd.R_drew));exact HO_3.out) (Kd.R_typed (by (with_reducible repeat (first|apply Kd.R_alloc|apply Kd.R_drewN|apply Kd.R_drew));exact HO_4.out)) (by decide) hg);have n1_ := Aside0.mk (Kd.R_after (ok := (fun _ => True)) (by (with_reducible repeat (first|apply Kd.R_alloc|apply Kd.R_drewN|apply Kd.R_drew));exact Kd.R_mono HO_36.out (fun _ hk => ⟨trivial, hk⟩)) hg hat);have n2_ := Aside0.mk (blk_grown (g := gb129) (o := .cells #[.int .i64 a0_0, .slice A0_1 l0_1.length c0_1] 24 (0, 0)) (by (with_reducible repeat (first|apply blk_drewN|apply blk_drew|apply blk_alloc));exact BK129.out) hg (Kd.R_ne HO_4.out BK129.out (by decide)));have n3_ := Aside0.mk (hb);have n4_ := Aside0.mk (ho);clear HO_3;clear HO_36;clear BK129;clear HB;clear HO_4;have HO_3 := n0_;have HO_36 := n1_;have BK129 := n2_;have HB := n3_;have HO149 := n4_;clear n0_ n1_ n2_ n3_ n4_;clear ho hb hg hat))
                    (try simp only [← hl3_2])
                    (try simp only [px_add0] at *)
                    go_roundg k2
                    case measure => have := HK1.out;have := HK2.out;omega
                    case rel => exact ⟨(y146), (y147), (wrap64 (x38_2 + 1)), (by first|rfl|(simp;done)|(simp [*];done)), H', ⟨by have := HK1.out;have := HK2.out;omega⟩, ⟨by (try simp only [hl3_1]);(try simp only [hl3_2]);(with_reducible repeat (first|apply Kd.R_alloc|apply Kd.R_drewN|apply Kd.R_drew));exact HO_3.out⟩, ⟨by (try simp only [hl3_1]);(try simp only [hl3_2]);(with_reducible repeat (first|apply Kd.R_alloc|apply Kd.R_drewN|apply Kd.R_drew));exact HO149.out⟩, ⟨by (try simp only [hl3_1]);(try simp only [hl3_2]);(with_reducible repeat (first|apply Kd.R_alloc|apply Kd.R_drewN|apply Kd.R_drew));exact Kd.R_mono HO_36.out (fun _ hk => hk.2)⟩, ⟨by (try simp only [hl3_1]);(try simp only [hl3_2]);(with_reducible repeat (first|apply blk_drewN|apply blk_drew|apply blk_alloc));exact BK129.out⟩, ⟨by repeat (first|(with_reducible first|exact HB.out|apply xa|apply xb|apply xc|refine below_set ?_ GE129.out)|exact HB.out)⟩⟩
                   ·rw [if_neg c40] at H
                    exact absurd H (by simp)
                 ·rw [if_neg c36] at H
                  exact absurd H (by simp)
                ·rw [if_neg c35] at H
                 exact absurd H (by simp)
               ·rw [if_neg c34] at H
                exact absurd H (by simp)
              ·rw [if_neg c33] at H
               exact absurd H (by simp)
             ·rw [if_neg c32] at H
              have c32b0 : decide (x38_2 < (t141.length : Int)) = false := decide_eq_false c32
              clear c32
              have H' := Aside0.mk H
              clear H
              go_wp2
              (try simp only [← hl3_1, ← hl3_2])
              (try simp only [px_add0] at *)
              go_roundg k2
              case measure => have := HK1.out;have := HK2.out;omega
              case rel => exact ⟨(x3_2), (x4_2), H', ⟨by have := HK1.out;have := HK2.out;omega⟩, ⟨by (try simp only [hl3_1]);(try simp only [hl3_2]);(with_reducible repeat (first|apply Kd.R_alloc|apply Kd.R_drewN|apply Kd.R_drew));exact HO_3.out⟩, ⟨by (try simp only [hl3_1]);(try simp only [hl3_2]);(with_reducible repeat (first|apply Kd.R_alloc|apply Kd.R_drewN|apply Kd.R_drew));exact Kd.R_mono HO_4.out (fun _ hk => trivial)⟩, ⟨by (try simp only [hl3_1]);(try simp only [hl3_2]);(with_reducible repeat (first|apply blk_drewN|apply blk_drew|apply blk_alloc));exact BK129.out⟩, ⟨by repeat (first|(with_reducible first|exact HB.out|apply xa|apply xb|apply xc|refine below_set ?_ GE129.out)|exact HB.out)⟩⟩
          ·rw [if_neg c25] at H
           exact absurd H (by simp)
         ·rw [if_neg c24] at H
          exact absurd H (by simp)
        ·rw [if_neg c23] at H
         exact absurd H (by simp)
       ·rw [if_neg c21] at H
        have c21b0 : decide (0 < (x4_1.length : Int)) = false := decide_eq_false c21
        have c21b9 := c21b0
        (try simp only [hl3_1] at c21b9)
        have c21b1 : decide (0 < x4_1.length) = false := decide_eq_false (by omega)
        clear c21
        obtain rfl := Option.some.inj H
        obtain ⟨Ao44, co44, eo44⟩ := Kd.R_slice HO_4.out
        subst eo44
        go_wp2
        go_ret
        exact ⟨_, by first|rfl|(simp [errW_none, errW_some] <;> rfl)|(simp [*, errW_none, errW_some] <;> rfl), by (with_reducible repeat (first|apply Kd.R_alloc|apply Kd.R_drewN|apply Kd.R_drew));exact HO_3.out, by repeat (first|(with_reducible first|exact HB.out|apply xa|apply xb|apply xc|refine below_set ?_ GE129.out)|exact HB.out)⟩
    ·rw [if_neg c10] at H
     exact absurd H (by simp)
  ·rw [if_neg c3] at H
   exact absurd H (by simp)
 ·rw [if_neg c2] at H
  exact absurd H (by simp)

/-! ### lint_May_1: function 64 -/
def lint_May_1.f (a0 : Int) (a1 : Int) : Option (Int) := some (Go.bits .or .u16 a0 a1)
set_option maxHeartbeats 8000000 in
set_option maxRecDepth 100000 in
theorem lint_May_1.calls (a0 : Int) (a1 : Int) (r : Int) (w : World) (h : lint_May_1.f a0 a1 = some r) :
  Calls Try.prog 64 #[.int .u16 a0, .int .u16 a1] w fun e w' => e = .returned (.int .u16 r) ∧ Drawn0 w w' := by
 have H : (some (Go.bits .or .u16 a0 a1)) = some r := h
 clear h
 obtain rfl := Option.some.inj H
 go_enter Try.func64, Try.ntmps64
 go_wp2
 go_ret
 exact ⟨by first|rfl|(simp;done)|(simp [*];done), by repeat (first|exact Drawn0.refl _|apply Drawn0.step)⟩

/-! ### lint_behind: function 111 -/
def lint_behind.j0 : Nat → Int → Bool → Int → Int → Int → Int → Option (Int)
 | 0, _, _, _, _, _, _ => none
 | k + 1, x1, x7, x151000, x151001, x151002, x151003 => if x7 = true then (if 0 ≤ x151003 then (some (Go.bits .or .u16 x1 (shl .u16 1 x151003))) else (none)) else (if x151000 = 10 then (if 0 ≤ x151003 then (some (Go.bits .andNot .u16 x1 (shl .u16 1 x151003))) else (none)) else (some x1))
def lint_behind.f (k : Nat) (a0_0 : Int) (a0_1 : Int) (a0_2 : Int) (a0_3 : Int) (a1 : Int) (a2 : Int) : Option (Int) := if a0_0 = 9 then (lint_behind.j0 k a1 (decide ((wrap64 (a0_3)) < a2)) a0_0 a0_1 a0_2 a0_3) else (lint_behind.j0 k a1 false a0_0 a0_1 a0_2 a0_3)
theorem lint_behind.mono_l : ∀ k, (∀ y0 y1 y2 y3 y4 y5, LeO (lint_behind.j0 k y0 y1 y2 y3 y4 y5) (lint_behind.j0 (k + 1) y0 y1 y2 y3 y4 y5))
 | 0 => fun _ _ _ _ _ _ r h => by simp [lint_behind.j0] at h
 | k + 1 => by
  have ih0 := lint_behind.mono_l k
  ·intro y0 y1 y2 y3 y4 y5
   unfold lint_behind.j0
   repeat' first
   | (with_reducible exact ih0 _ _ _ _ _ _)
   | (with_reducible exact LeO.refl _)
   | (with_reducible exact LeO.none _)
   | (with_reducible refine LeO.ite ?_ ?_)
   | (with_reducible refine LeO.bind ?_ (fun _ => ?_))
   | exact ih0 _ _ _ _ _ _
   | exact LeO.none _
   | refine LeO.ite ?_ ?_
   | refine LeO.bind ?_ (fun _ => ?_)
theorem lint_behind.mono : ∀ a0 a1 a2 a3 a4 a5 k, LeO (lint_behind.f k a0 a1 a2 a3 a4 a5) (lint_behind.f (k + 1) a0 a1 a2 a3 a4 a5) := by
 intro a0 a1 a2 a3 a4 a5 k
 have ih0 := lint_behind.mono_l k
 unfold lint_behind.f
 repeat' first
   | (with_reducible exact ih0 _ _ _ _ _ _)
   | (with_reducible exact LeO.refl _)
   | (with_reducible exact LeO.none _)
   | (with_reducible refine LeO.ite ?_ ?_)
   | (with_reducible refine LeO.bind ?_ (fun _ => ?_))
   | exact ih0 _ _ _ _ _ _
   | exact LeO.none _
   | refine LeO.ite ?_ ?_
   | refine LeO.bind ?_ (fun _ => ?_)
set_option maxHeartbeats 8000000 in
set_option maxRecDepth 100000 in
theorem lint_behind.calls (k : Nat) (a0_0 : Int) (a0_1 : Int) (a0_2 : Int) (a0_3 : Int) (a1 : Int) (a2 : Int) (r : Int) (w : World) (h : lint_behind.f k a0_0 a0_1 a0_2 a0_3 a1 a2 = some r) :
  Calls Try.prog 111 #[.agg #[.int .i64 a0_0, .int .i64 a0_1, .int .i64 a0_2, .int .i32 a0_3], .int .u16 a1, .int .i64 a2] w fun e w' => e = .returned (.int .u16 r) ∧ Below w.heap.size w w' := by
 have hu41 := Try.underlying41
 have HB := Aside0.mk (Below.refl w.heap.size w)
 have H : (if a0_0 = 9 then (lint_behind.j0 k a1 (decide ((wrap64 (a0_3)) < a2)) a0_0 a0_1 a0_2 a0_3) else (lint_behind.j0 k a1 false a0_0 a0_1 a0_2 a0_3)) = some r := h
 clear h
 have HC4 := Aside0.mk H
 clear H
 go_enter Try.func111, Try.ntmps111
 go_upto_region 1 with (first|((with_reducible refine gate_dst (N := 3) rfl ?_);refine box_event ?hg (N := 3) ?hd (cs := #[.int .i64 a0_0, .int .i64 a0_1, .int .i64 a0_2, .int .i32 a0_3]) (t := 41) ?hr ?_;(case hd => rfl);(case hg => rfl);(case hr => first|(go_simp;done)|(go_simp;rfl));intro gb150 hg w5 hbox hb;have n0_ := Aside0.mk (below_step (by repeat (with_reducible first|exact HB.out|apply xa|apply xb|apply xc)) hb);have n1_ := Aside0.mk (hbox);have n2_ := Aside0.mk ((by rw [hg];exact (below_size (by repeat (with_reducible first|exact HB.out|apply xa|apply xb|apply xc))) : w.heap.size ≤ gb150));have n3_ := Aside0.mk ((by rw [hg];exact (below_size (by repeat (with_reducible first|exact HB.out|apply xa|apply xb|apply xc))) : w.heap.size ≤ gb150));clear HB;have HB := n0_;have BK150 := n1_;have GW150 := n2_;have GE150 := n3_;clear n0_ n1_ n2_ n3_;clear hb hbox hg))
 (try simp only [Act.put, List.setIfInBounds_toArray, List.set_cons_zero, List.set_cons_succ])
 go_cut [7] (fun v7 wc => ∃ (kq : Nat) (x7_3 : Bool), v7 = .bool x7_3 ∧ Aside0 (lint_behind.j0 kq a1 x7_3 a0_0 a0_1 a0_2 a0_3 = some r) ∧ Aside0 (kq ≤ k) ∧ Aside0 (wc.heap[gb150]? = some (.cells #[.int .i64 a0_0, .int .i64 a0_1, .int .i64 a0_2, .int .i32 a0_3] 41 (0, 0))) ∧ Aside0 (Below w.heap.size w wc))
 case first =>
  have H := HC4.out
  clear HC4
  by_cases c6 : a0_0 = 9
  ·rw [if_pos c6] at H
   have c6b0 : (a0_0 == 9) = true := beq_iff_eq.mpr c6
   have c6b1 : (a0_0 != 9) = false := bne_eq_false_iff_eq.mpr c6
   clear c6
   (first|rw [c6b0]|(simp only [i64_w, i32_w];rw [c6b0])|skip)
   have H' := Aside0.mk H
   clear H
   have hcz7_0 : w5.cell? ⟨gb150, 0, none⟩ = some (.int .i64 a0_0) := (blk_cell BK150.out 0).trans rfl
   have hcz7_1 : w5.cell? ⟨gb150, 1, none⟩ = some (.int .i64 a0_1) := (blk_cell BK150.out 1).trans rfl
   have hcz7_2 : w5.cell? ⟨gb150, 2, none⟩ = some (.int .i64 a0_2) := (blk_cell BK150.out 2).trans rfl
   have hcz7_3 : w5.cell? ⟨gb150, 3, none⟩ = some (.int .i32 a0_3) := (blk_cell BK150.out 3).trans rfl
   have hfz7_0 := blk_frozen BK150.out 0
   have hfz7_1 := blk_frozen BK150.out 1
   have hfz7_2 := blk_frozen BK150.out 2
   have hfz7_3 := blk_frozen BK150.out 3
   go_wp2
   go_meet
   case rel => exact ⟨_, (decide ((wrap64 (a0_3)) < a2)), (by first|rfl|(simp;done)|(simp [*];done)), H', ⟨by first|omega|exact Nat.le_refl _⟩, ⟨by (with_reducible repeat (first|apply blk_drewN|apply blk_drew|apply blk_alloc));exact BK150.out⟩, ⟨by repeat (first|(with_reducible first|exact HB.out|apply xa|apply xb|apply xc|refine below_set ?_ GE150.out)|exact HB.out)⟩⟩
  ·rw [if_neg c6] at H
   have c6b0 : (a0_0 == 9) = false := beq_eq_false_iff_ne.mpr c6
   have c6b1 : (a0_0 != 9) = true := bne_iff_ne.mpr c6
   (first|rw [c6b0]|(simp only [i64_w, i32_w];rw [c6b0])|skip)
   have H' := Aside0.mk H
   clear H
   have hcz8_0 : w5.cell? ⟨gb150, 0, none⟩ = some (.int .i64 a0_0) := (blk_cell BK150.out 0).trans rfl
   have hcz8_1 : w5.cell? ⟨gb150, 1, none⟩ = some (.int .i64 a0_1) := (blk_cell BK150.out 1).trans rfl
   have hcz8_2 : w5.cell? ⟨gb150, 2, none⟩ = some (.int .i64 a0_2) := (blk_cell BK150.out 2).trans rfl
   have hcz8_3 : w5.cell? ⟨gb150, 3, none⟩ = some (.int .i32 a0_3) := (blk_cell BK150.out 3).trans rfl
   have hfz8_0 := blk_frozen BK150.out 0
   have hfz8_1 := blk_frozen BK150.out 1
   have hfz8_2 := blk_frozen BK150.out 2
   have hfz8_3 := blk_frozen BK150.out 3
   go_wp2
   go_meet
   case rel => exact ⟨_, (false), (by first|rfl|(simp;done)|(simp [*];done)), H', ⟨by first|omega|exact Nat.le_refl _⟩, ⟨by (with_reducible repeat (first|apply blk_drewN|apply blk_drew|apply blk_alloc));exact BK150.out⟩, ⟨by repeat (first|(with_reducible first|exact HB.out|apply xa|apply xb|apply xc|refine below_set ?_ GE150.out)|exact HB.out)⟩⟩
 case rest =>
  clear HC4
  try clear c1
  try clear p2
  try clear c6
  try clear c6b0
  try clear c6b1
  try clear p6
  try clear hcz7_0
  try clear hcz7_1
  try clear hcz7_2
  try clear hcz7_3
  try clear hcz8_0
  try clear hcz8_1
  try clear hcz8_2
  try clear hcz8_3
  try clear hfz7_0
  try clear hfz7_1
  try clear hfz7_2
  try clear hfz7_3
  try clear hfz8_0
  try clear hfz8_1
  try clear hfz8_2
  try clear hfz8_3
  obtain ⟨kq, x7_3, rfl, HA, HJ3, BK150, HB⟩ := hcut
  cases kq with
  | zero => exact absurd HA.out (by simp [lint_behind.j0])
  | succ kj3 =>
   have H := HA.out
   clear HA
   simp only [lint_behind.j0] at H
   by_cases c9 : x7_3 = true
   ·subst c9
    have H1 : (if 0 ≤ a0_3 then (some (Go.bits .or .u16 a1 (shl .u16 1 a0_3))) else (none)) = some r := by rw [if_pos rfl] at H;exact H
    clear H
    have H := H1
    clear H1
    by_cases c10 : 0 ≤ a0_3
    ·rw [if_pos c10] at H
     have c10b0 := eq_true c10
     have c10b1 : decide (0 ≤ a0_3) = true := decide_eq_true c10
     clear c10
     obtain ⟨ji11, hji11⟩ : ∃ j_ : Int, (shl .u16 1 a0_3) = j_ := ⟨_, rfl⟩
     replace H : (some (Go.bits .or .u16 a1 (ji11))) = some r := by first|(rw [hji11] at H;exact H)|(simp only [hji11] at H ⊢;exact H)
     have hji11_ : (IntKind.u16.wrap (1 * 2 ^ min a0_3.toNat 16)) = ji11 := hji11
     have hji11z : a0_3 ≤ 16 → (IntKind.u16.wrap (1 * 2 ^ a0_3.toNat)) = ji11 := shl_small hji11
     have hji11u : (IntKind.u16.wrap (2 ^ min a0_3.toNat 16)) = ji11 := by have h_ := hji11_;rw [Int.one_mul] at h_;exact h_
     have hji11v : a0_3 ≤ 16 → (IntKind.u16.wrap (2 ^ a0_3.toNat)) = ji11 := fun hle_ => by have h_ := hji11z hle_;rw [Int.one_mul] at h_;exact h_
     obtain rfl := Option.some.inj H
     have hcz12_0 : wc.cell? ⟨gb150, 0, none⟩ = some (.int .i64 a0_0) := (blk_cell BK150.out 0).trans rfl
     have hcz12_1 : wc.cell? ⟨gb150, 1, none⟩ = some (.int .i64 a0_1) := (blk_cell BK150.out 1).trans rfl
     have hcz12_2 : wc.cell? ⟨gb150, 2, none⟩ = some (.int .i64 a0_2) := (blk_cell BK150.out 2).trans rfl
     have hcz12_3 : wc.cell? ⟨gb150, 3, none⟩ = some (.int .i32 a0_3) := (blk_cell BK150.out 3).trans rfl
     have hfz12_0 := blk_frozen BK150.out 0
     have hfz12_1 := blk_frozen BK150.out 1
     have hfz12_2 := blk_frozen BK150.out 2
     have hfz12_3 := blk_frozen BK150.out 3
     go_wp2
     go_ret
     exact ⟨by first|rfl|(simp [errW_none, errW_some] <;> rfl)|(simp only [← hji11];first|rfl|(simp [errW_none, errW_some] <;> rfl))|(simp [*, errW_none, errW_some] <;> rfl), by repeat (first|(with_reducible first|exact HB.out|apply xa|apply xb|apply xc|refine below_set ?_ GE150.out)|exact HB.out)⟩
    ·rw [if_neg c10] at H
     exact absurd H (by simp)
   ·replace c9 := Bool.eq_false_iff.mpr c9
    subst c9
    have H1 : (if a0_0 = 10 then (if 0 ≤ a0_3 then (some (Go.bits .andNot .u16 a1 (shl .u16 1 a0_3))) else (none)) else (some a1)) = some r := by rw [if_neg (show ¬ (false = true) by decide)] at H;exact H
    clear H
    have H := H1
    clear H1
    by_cases c13 : a0_0 = 10
    ·rw [if_pos c13] at H
     have c13b0 : (a0_0 == 10) = true := beq_iff_eq.mpr c13
     have c13b1 : (a0_0 != 10) = false := bne_eq_false_iff_eq.mpr c13
     clear c13
     by_cases c14 : 0 ≤ a0_3
     ·rw [if_pos c14] at H
      have c14b0 := eq_true c14
      have c14b1 : decide (0 ≤ a0_3) = true := decide_eq_true c14
      clear c14
      obtain ⟨ji15, hji15⟩ : ∃ j_ : Int, (shl .u16 1 a0_3) = j_ := ⟨_, rfl⟩
      replace H : (some (Go.bits .andNot .u16 a1 (ji15))) = some r := by first|(rw [hji15] at H;exact H)|(simp only [hji15] at H ⊢;exact H)
      have hji15_ : (IntKind.u16.wrap (1 * 2 ^ min a0_3.toNat 16)) = ji15 := hji15
      have hji15z : a0_3 ≤ 16 → (IntKind.u16.wrap (1 * 2 ^ a0_3.toNat)) = ji15 := shl_small hji15
      have hji15u : (IntKind.u16.wrap (2 ^ min a0_3.toNat 16)) = ji15 := by have h_ := hji15_;rw [Int.one_mul] at h_;exact h_
      have hji15v : a0_3 ≤ 16 → (IntKind.u16.wrap (2 ^ a0_3.toNat)) = ji15 := fun hle_ => by have h_ := hji15z hle_;rw [Int.one_mul] at h_;exact h_
      obtain rfl := Option.some.inj H
      have hcz16_0 : wc.cell? ⟨gb150, 0, none⟩ = some (.int .i64 a0_0) := (blk_cell BK150.out 0).trans rfl
      have hcz16_1 : wc.cell? ⟨gb150, 1, none⟩ = some (.int .i64 a0_1) := (blk_cell BK150.out 1).trans rfl
      have hcz16_2 : wc.cell? ⟨gb150, 2, none⟩ = some (.int .i64 a0_2) := (blk_cell BK150.out 2).trans rfl
      have hcz16_3 : wc.cell? ⟨gb150, 3, none⟩ = some (.int .i32 a0_3) := (blk_cell BK150.out 3).trans rfl
      have hfz16_0 := blk_frozen BK150.out 0
      have hfz16_1 := blk_frozen BK150.out 1
      have hfz16_2 := blk_frozen BK150.out 2
      have hfz16_3 := blk_frozen BK150.out 3
      go_wp2
      go_ret
      exact ⟨by first|rfl|(simp [errW_none, errW_some] <;> rfl)|(simp only [← hji15];first|rfl|(simp [errW_none, errW_some] <;> rfl))|(simp [*, errW_none, errW_some] <;> rfl), by repeat (first|(with_reducible first|exact HB.out|apply xa|apply xb|apply xc|refine below_set ?_ GE150.out)|exact HB.out)⟩
     ·rw [if_neg c14] at H
      exact absurd H (by simp)
    ·rw [if_neg c13] at H
     have c13b0 : (a0_0 == 10) = false := beq_eq_false_iff_ne.mpr c13
     have c13b1 : (a0_0 != 10) = true := bne_iff_ne.mpr c13
     obtain rfl := Option.some.inj H
     have hcz17_0 : wc.cell? ⟨gb150, 0, none⟩ = some (.int .i64 a0_0) := (blk_cell BK150.out 0).trans rfl
     have hcz17_1 : wc.cell? ⟨gb150, 1, none⟩ = some (.int .i64 a0_1) := (blk_cell BK150.out 1).trans rfl
     have hcz17_2 : wc.cell? ⟨gb150, 2, none⟩ = some (.int .i64 a0_2) := (blk_cell BK150.out 2).trans rfl
     have hcz17_3 : wc.cell? ⟨gb150, 3, none⟩ = some (.int .i32 a0_3) := (blk_cell BK150.out 3).trans rfl
     have hfz17_0 := blk_frozen BK150.out 0
     have hfz17_1 := blk_frozen BK150.out 1
     have hfz17_2 := blk_frozen BK150.out 2
     have hfz17_3 := blk_frozen BK150.out 3
     go_wp2
     go_ret
     exact ⟨by first|rfl|(simp [errW_none, errW_some] <;> rfl)|(simp [*, errW_none, errW_some] <;> rfl), by repeat (first|(with_reducible first|exact HB.out|apply xa|apply xb|apply xc|refine below_set ?_ GE150.out)|exact HB.out)⟩

end Go.Proofs.Ytgiimdoabkcoaaa.PLint
