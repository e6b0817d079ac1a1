/- Functions of the program as Lean functions, and proofs that the code comes to their answers: printed by this session's program. -/
import Derived.Test.YtgiimdoabkcoaaaPLintx0
namespace Go.Proofs.Ytgiimdoabkcoaaa.PLint
open Go.RowKit Go.Proofs.YtgiimdoabkcoaaaW.PrintWords Go.Proofs.YtgiimdoabkcoaaaW.PrintLast Go.Proofs.YtgiimdoabkcoaaaW.PrintMore
attribute [local go_sem] max2_int min2_int max_two min_two max_three min_three max_four min_four   -- for this text's walks alone
set_option linter.unusedVariables false
set_option linter.unusedSimpArgs false

def pinfoldref26_Goes.f (a0_0 : Int) (l0_1 : List (S41)) (a1 : Int) (a2 : Int) : Option (Bool) := if a1 < 0 then (some false) else (if a1 ≥ (l0_1.length : Int) then (some false) else (if 0 ≤ a1 then (if a1 < (l0_1.length : Int) then (if ((rd_T41 l0_1 a1).f0) = 4 then (if a2 = (wrap64 ((rd_T41 l0_1 a1).f3)) then (some true) else (some false)) else (if ((rd_T41 l0_1 a1).f0) = 5 then (if ((rd_T41 l0_1 a1).f0) = 14 then (if a2 = (wrap64 ((rd_T41 l0_1 a1).f3)) then (some true) else (some false)) else (if a2 = (wrap64 ((rd_T41 l0_1 a1).f3)) then (some true) else (some (a2 == (wrap64 (a1 + 1)))))) else (if ((rd_T41 l0_1 a1).f0) = 14 then (some false) else (some (a2 == (wrap64 (a1 + 1))))))) else (none)) else (none)))
set_option maxHeartbeats 8000000 in
set_option maxRecDepth 100000 in
theorem pinfoldref26_Goes.calls (a0_0 : Int) (A0_1 : Option Addr) (c0_1 : Nat) (l0_1 : List (S41)) (a1 : Int) (a2 : Int) (r : Bool) (w : World) (hr0_1 : Kd.C k41 w A0_1 l0_1.length l0_1) (hc0_1 : l0_1.length ≤ c0_1) (h : pinfoldref26_Goes.f a0_0 l0_1 a1 a2 = some r) :
  Calls Try.prog 17 #[.agg #[.int .i64 a0_0, .slice A0_1 l0_1.length c0_1], .int .i64 a1, .int .i64 a2] w fun e w' => e = .returned (.bool r) ∧ Below w.heap.size w w' := by
 have hu24 := Try.underlying24
 have hu41 := Try.underlying41
 have HR0_1 := Aside0.mk hr0_1
 have HC0_1 := Aside0.mk hc0_1
 clear hr0_1 hc0_1
 have HB := Aside0.mk (Below.refl w.heap.size w)
 have H : (if a1 < 0 then (some false) else (if a1 ≥ (l0_1.length : Int) then (some false) else (if 0 ≤ a1 then (if a1 < (l0_1.length : Int) then (if ((rd_T41 l0_1 a1).f0) = 4 then (if a2 = (wrap64 ((rd_T41 l0_1 a1).f3)) then (some true) else (some false)) else (if ((rd_T41 l0_1 a1).f0) = 5 then (if ((rd_T41 l0_1 a1).f0) = 14 then (if a2 = (wrap64 ((rd_T41 l0_1 a1).f3)) then (some true) else (some false)) else (if a2 = (wrap64 ((rd_T41 l0_1 a1).f3)) then (some true) else (some (a2 == (wrap64 (a1 + 1)))))) else (if ((rd_T41 l0_1 a1).f0) = 14 then (some false) else (some (a2 == (wrap64 (a1 + 1))))))) else (none)) else (none)))) = some r := h
 clear h
 by_cases c4 : a1 < 0
 ·rw [if_pos c4] at H
  have c4b0 : decide (a1 < 0) = true := decide_eq_true c4
  clear c4
  obtain rfl := Option.some.inj H
  go_enter Try.func17, Try.ntmps17
  go_wp2_with (first|((with_reducible refine gate_dst (N := 3) rfl ?_);(try (refine gate_guard (by rfl) ?_;dsimp only));refine box_event ?hg (N := 3) ?hd (cs := #[.int .i64 a0_0, .slice A0_1 l0_1.length c0_1]) (t := 24) ?hr ?_;(case hd => rfl);(case hg => rfl);(case hr => first|(go_simp;done)|(go_simp;rfl));intro gb239 hg w5 hbox hb;have n0_ := Aside0.mk (below_step (by repeat (with_reducible first|exact HB.out|apply xa|apply xb|apply xc)) hb);have n1_ := Aside0.mk (hbox);have n2_ := Aside0.mk ((by rw [hg];exact (below_size (by repeat (with_reducible first|exact HB.out|apply xa|apply xb|apply xc))) : w.heap.size ≤ gb239));have n3_ := Aside0.mk ((by rw [hg];exact (below_size (by repeat (with_reducible first|exact HB.out|apply xa|apply xb|apply xc))) : w.heap.size ≤ gb239));clear HB;have HB := n0_;have BK239 := n1_;have GW239 := n2_;have GE239 := n3_;clear n0_ n1_ n2_ n3_;clear hb hbox hg))
  go_ret
  exact ⟨by first|rfl|(simp [errW_none, errW_some] <;> rfl)|(simp [*, errW_none, errW_some] <;> rfl), by repeat (first|(with_reducible first|exact HB.out|apply xa|apply xb|apply xc|refine below_set ?_ GE239.out)|exact HB.out)⟩
 ·rw [if_neg c4] at H
  have c4b0 : decide (a1 < 0) = false := decide_eq_false c4
  clear c4
  by_cases c6 : a1 ≥ (l0_1.length : Int)
  ·rw [if_pos c6] at H
   have c6b0 : decide ((l0_1.length : Int) ≤ a1) = true := decide_eq_true c6
   clear c6
   obtain rfl := Option.some.inj H
   go_enter Try.func17, Try.ntmps17
   go_wp2_with (first|((with_reducible refine gate_dst (N := 3) rfl ?_);(try (refine gate_guard (by rfl) ?_;dsimp only));refine box_event ?hg (N := 3) ?hd (cs := #[.int .i64 a0_0, .slice A0_1 l0_1.length c0_1]) (t := 24) ?hr ?_;(case hd => rfl);(case hg => rfl);(case hr => first|(go_simp;done)|(go_simp;rfl));intro gb239 hg w7 hbox hb;have n0_ := Aside0.mk (below_step (by repeat (with_reducible first|exact HB.out|apply xa|apply xb|apply xc)) hb);have n1_ := Aside0.mk (hbox);have n2_ := Aside0.mk ((by rw [hg];exact (below_size (by repeat (with_reducible first|exact HB.out|apply xa|apply xb|apply xc))) : w.heap.size ≤ gb239));have n3_ := Aside0.mk ((by rw [hg];exact (below_size (by repeat (with_reducible first|exact HB.out|apply xa|apply xb|apply xc))) : w.heap.size ≤ gb239));clear HB;have HB := n0_;have BK239 := n1_;have GW239 := n2_;have GE239 := n3_;clear n0_ n1_ n2_ n3_;clear hb hbox hg;have hcz8_0 : w7.cell? ⟨gb239, 0, none⟩ = some (.int .i64 a0_0) := (blk_cell BK239.out 0).trans rfl;have hcz8_1 : w7.cell? ⟨gb239, 1, none⟩ = some (.slice A0_1 l0_1.length c0_1) := (blk_cell BK239.out 1).trans rfl;have hfz8_0 := blk_frozen BK239.out 0;have hfz8_1 := blk_frozen BK239.out 1))
   go_ret
   exact ⟨by first|rfl|(simp [errW_none, errW_some] <;> rfl)|(simp [*, errW_none, errW_some] <;> rfl), by repeat (first|(with_reducible first|exact HB.out|apply xa|apply xb|apply xc|refine below_set ?_ GE239.out)|exact HB.out)⟩
  ·rw [if_neg c6] at H
   have c6b0 : decide ((l0_1.length : Int) ≤ a1) = false := decide_eq_false c6
   clear c6
   by_cases c9 : 0 ≤ a1
   ·rw [if_pos c9] at H
    have c9b0 : decide (0 ≤ a1) = true := decide_eq_true c9
    clear c9
    by_cases c10 : a1 < (l0_1.length : Int)
    ·rw [if_pos c10] at H
     have c10b0 : decide (a1 < (l0_1.length : Int)) = true := decide_eq_true c10
     clear c10
     by_cases c11 : ((rd_T41 l0_1 a1).f0) = 4
     ·rw [if_pos c11] at H
      have c11b0 : (((rd_T41 l0_1 a1).f0) == 4) = true := beq_iff_eq.mpr c11
      have c11b1 : (((rd_T41 l0_1 a1).f0) != 4) = false := bne_eq_false_iff_eq.mpr c11
      clear c11
      by_cases c12 : a2 = (wrap64 ((rd_T41 l0_1 a1).f3))
      ·rw [if_pos c12] at H
       have c12b0 : (a2 == (wrap64 ((rd_T41 l0_1 a1).f3))) = true := beq_iff_eq.mpr c12
       have c12b1 : (a2 != (wrap64 ((rd_T41 l0_1 a1).f3))) = false := bne_eq_false_iff_eq.mpr c12
       clear c12
       obtain rfl := Option.some.inj H
       go_enter Try.func17, Try.ntmps17
       go_wp2_with (first|((with_reducible refine gate_dst (N := 3) rfl ?_);(try (refine gate_guard (by rfl) ?_;dsimp only));refine box_event ?hg (N := 3) ?hd (cs := #[.int .i64 a0_0, .slice A0_1 l0_1.length c0_1]) (t := 24) ?hr ?_;(case hd => rfl);(case hg => rfl);(case hr => first|(go_simp;done)|(go_simp;rfl));intro gb239 hg w13 hbox hb;have n0_ := Aside0.mk (below_step (by repeat (with_reducible first|exact HB.out|apply xa|apply xb|apply xc)) hb);have n1_ := Aside0.mk (hbox);have n2_ := Aside0.mk ((by rw [hg];exact (below_size (by repeat (with_reducible first|exact HB.out|apply xa|apply xb|apply xc))) : w.heap.size ≤ gb239));have n3_ := Aside0.mk ((by rw [hg];exact (below_size (by repeat (with_reducible first|exact HB.out|apply xa|apply xb|apply xc))) : w.heap.size ≤ gb239));clear HB;have HB := n0_;have BK239 := n1_;have GW239 := n2_;have GE239 := n3_;clear n0_ n1_ n2_ n3_;clear hb hbox hg;have hcz14_0 : w13.cell? ⟨gb239, 0, none⟩ = some (.int .i64 a0_0) := (blk_cell BK239.out 0).trans rfl;have hcz14_1 : w13.cell? ⟨gb239, 1, none⟩ = some (.slice A0_1 l0_1.length c0_1) := (blk_cell BK239.out 1).trans rfl;have hfz14_0 := blk_frozen BK239.out 0;have hfz14_1 := blk_frozen BK239.out 1;have p240 : 0 ≤ (a1 : Int) := of_decide_eq_true (by assumption);have q240 : a1 < (l0_1.length : Int) := of_decide_eq_true (by assumption);obtain ⟨ad240, e240, hx240_0, hx240_1, hx240_2, hx240_3⟩ := at_T41 HR0_1.out a1 p240 q240;cases e240;replace hx240_0 := (HB.out.cell (World.block_lt_of_cell? w _ hx240_0)).trans hx240_0;replace hx240_1 := (HB.out.cell (World.block_lt_of_cell? w _ hx240_1)).trans hx240_1;replace hx240_2 := (HB.out.cell (World.block_lt_of_cell? w _ hx240_2)).trans hx240_2;replace hx240_3 := (HB.out.cell (World.block_lt_of_cell? w _ hx240_3)).trans hx240_3;replace p240 := eq_true p240;replace q240 := eq_true q240)|((with_reducible refine gate_dst (N := 7) rfl ?_);(try (refine gate_guard (by rfl) ?_;dsimp only));refine box_event ?hg (N := 7) ?hd (cs := #[.int .i64 0, .int .i64 0, .int .i64 0, .int .i32 0]) (t := 41) ?hr ?_;(case hd => rfl);(case hg => rfl);(case hr => first|(go_simp;done)|(go_simp;rfl));intro gb241 hg w15 hbox hb;have n0_ := Aside0.mk (blk_below (g := gb239) (o := .cells #[.int .i64 a0_0, .slice (some ad240) l0_1.length c0_1] 24 (0, 0)) (by (with_reducible repeat (first|apply blk_drewN|apply blk_drew|apply blk_alloc));exact BK239.out) hb);have n1_ := Aside0.mk (below_step (by repeat (first|(with_reducible first|exact HB.out|apply xa|apply xb|apply xc|refine below_set ?_ GE239.out)|exact HB.out)) hb);have n2_ := Aside0.mk (hbox);have n3_ := Aside0.mk ((by rw [hg];exact (below_size (by repeat (first|(with_reducible first|exact HB.out|apply xa|apply xb|apply xc|refine below_set ?_ GE239.out)|exact HB.out))) : w.heap.size ≤ gb241));have n4_ := Aside0.mk ((by rw [hg];exact (below_size (by repeat (first|(with_reducible first|exact HB.out|apply xa|apply xb|apply xc|refine below_set ?_ GE239.out)|exact HB.out))) : w.heap.size ≤ gb241));have n5_ := Aside0.mk ((by rw [hg];exact Nat.ne_of_lt (blk_lt (g := gb239) (o := .cells #[.int .i64 a0_0, .slice (some ad240) l0_1.length c0_1] 24 (0, 0)) (by (with_reducible repeat (first|apply blk_drewN|apply blk_drew|apply blk_alloc));exact BK239.out)) : gb239 ≠ gb241));have n6_ := Aside0.mk ((by rw [hg];exact Nat.ne_of_gt (blk_lt (g := gb239) (o := .cells #[.int .i64 a0_0, .slice (some ad240) l0_1.length c0_1] 24 (0, 0)) (by (with_reducible repeat (first|apply blk_drewN|apply blk_drew|apply blk_alloc));exact BK239.out)) : gb241 ≠ gb239));clear BK239;clear HB;have BK239 := n0_;have HB := n1_;have BK241 := n2_;have GW241 := n3_;have GE241 := n4_;have NB239_241 := n5_;have NB241_239 := n6_;clear n0_ n1_ n2_ n3_ n4_ n5_ n6_;clear hb hbox hg;have hnb16 := NB241_239.out;have hnc16 := NB239_241.out;have hcz17_0 : w15.cell? ⟨gb241, 0, none⟩ = some (.int .i64 0) := (blk_cell BK241.out 0).trans rfl;have hcz17_1 : w15.cell? ⟨gb241, 1, none⟩ = some (.int .i64 0) := (blk_cell BK241.out 1).trans rfl;have hcz17_2 : w15.cell? ⟨gb241, 2, none⟩ = some (.int .i64 0) := (blk_cell BK241.out 2).trans rfl;have hcz17_3 : w15.cell? ⟨gb241, 3, none⟩ = some (.int .i32 0) := (blk_cell BK241.out 3).trans rfl;have hfz17_0 := blk_frozen BK241.out 0;have hfz17_1 := blk_frozen BK241.out 1;have hfz17_2 := blk_frozen BK241.out 2;have hfz17_3 := blk_frozen BK241.out 3))
       go_ret
       exact ⟨by first|rfl|(simp [errW_none, errW_some] <;> rfl)|(simp [*, errW_none, errW_some] <;> rfl), by repeat (first|(with_reducible first|exact HB.out|apply xa|apply xb|apply xc|refine below_set ?_ GE239.out|refine below_set ?_ GE241.out)|exact HB.out)⟩
      ·rw [if_neg c12] at H
       have c12b0 : (a2 == (wrap64 ((rd_T41 l0_1 a1).f3))) = false := beq_eq_false_iff_ne.mpr c12
       have c12b1 : (a2 != (wrap64 ((rd_T41 l0_1 a1).f3))) = true := bne_iff_ne.mpr c12
       obtain rfl := Option.some.inj H
       go_enter Try.func17, Try.ntmps17
       go_wp2_with (first|((with_reducible refine gate_dst (N := 3) rfl ?_);(try (refine gate_guard (by rfl) ?_;dsimp only));refine box_event ?hg (N := 3) ?hd (cs := #[.int .i64 a0_0, .slice A0_1 l0_1.length c0_1]) (t := 24) ?hr ?_;(case hd => rfl);(case hg => rfl);(case hr => first|(go_simp;done)|(go_simp;rfl));intro gb239 hg w18 hbox hb;have n0_ := Aside0.mk (below_step (by repeat (with_reducible first|exact HB.out|apply xa|apply xb|apply xc)) hb);have n1_ := Aside0.mk (hbox);have n2_ := Aside0.mk ((by rw [hg];exact (below_size (by repeat (with_reducible first|exact HB.out|apply xa|apply xb|apply xc))) : w.heap.size ≤ gb239));have n3_ := Aside0.mk ((by rw [hg];exact (below_size (by repeat (with_reducible first|exact HB.out|apply xa|apply xb|apply xc))) : w.heap.size ≤ gb239));clear HB;have HB := n0_;have BK239 := n1_;have GW239 := n2_;have GE239 := n3_;clear n0_ n1_ n2_ n3_;clear hb hbox hg;have hcz19_0 : w18.cell? ⟨gb239, 0, none⟩ = some (.int .i64 a0_0) := (blk_cell BK239.out 0).trans rfl;have hcz19_1 : w18.cell? ⟨gb239, 1, none⟩ = some (.slice A0_1 l0_1.length c0_1) := (blk_cell BK239.out 1).trans rfl;have hfz19_0 := blk_frozen BK239.out 0;have hfz19_1 := blk_frozen BK239.out 1;have p240 : 0 ≤ (a1 : Int) := of_decide_eq_true (by assumption);have q240 : a1 < (l0_1.length : Int) := of_decide_eq_true (by assumption);obtain ⟨ad240, e240, hx240_0, hx240_1, hx240_2, hx240_3⟩ := at_T41 HR0_1.out a1 p240 q240;cases e240;replace hx240_0 := (HB.out.cell (World.block_lt_of_cell? w _ hx240_0)).trans hx240_0;replace hx240_1 := (HB.out.cell (World.block_lt_of_cell? w _ hx240_1)).trans hx240_1;replace hx240_2 := (HB.out.cell (World.block_lt_of_cell? w _ hx240_2)).trans hx240_2;replace hx240_3 := (HB.out.cell (World.block_lt_of_cell? w _ hx240_3)).trans hx240_3;replace p240 := eq_true p240;replace q240 := eq_true q240)|((with_reducible refine gate_dst (N := 7) rfl ?_);(try (refine gate_guard (by rfl) ?_;dsimp only));refine box_event ?hg (N := 7) ?hd (cs := #[.int .i64 0, .int .i64 0, .int .i64 0, .int .i32 0]) (t := 41) ?hr ?_;(case hd => rfl);(case hg => rfl);(case hr => first|(go_simp;done)|(go_simp;rfl));intro gb241 hg w20 hbox hb;have n0_ := Aside0.mk (blk_below (g := gb239) (o := .cells #[.int .i64 a0_0, .slice (some ad240) l0_1.length c0_1] 24 (0, 0)) (by (with_reducible repeat (first|apply blk_drewN|apply blk_drew|apply blk_alloc));exact BK239.out) hb);have n1_ := Aside0.mk (below_step (by repeat (first|(with_reducible first|exact HB.out|apply xa|apply xb|apply xc|refine below_set ?_ GE239.out)|exact HB.out)) hb);have n2_ := Aside0.mk (hbox);have n3_ := Aside0.mk ((by rw [hg];exact (below_size (by repeat (first|(with_reducible first|exact HB.out|apply xa|apply xb|apply xc|refine below_set ?_ GE239.out)|exact HB.out))) : w.heap.size ≤ gb241));have n4_ := Aside0.mk ((by rw [hg];exact (below_size (by repeat (first|(with_reducible first|exact HB.out|apply xa|apply xb|apply xc|refine below_set ?_ GE239.out)|exact HB.out))) : w.heap.size ≤ gb241));have n5_ := Aside0.mk ((by rw [hg];exact Nat.ne_of_lt (blk_lt (g := gb239) (o := .cells #[.int .i64 a0_0, .slice (some ad240) l0_1.length c0_1] 24 (0, 0)) (by (with_reducible repeat (first|apply blk_drewN|apply blk_drew|apply blk_alloc));exact BK239.out)) : gb239 ≠ gb241));have n6_ := Aside0.mk ((by rw [hg];exact Nat.ne_of_gt (blk_lt (g := gb239) (o := .cells #[.int .i64 a0_0, .slice (some ad240) l0_1.length c0_1] 24 (0, 0)) (by (with_reducible repeat (first|apply blk_drewN|apply blk_drew|apply blk_alloc));exact BK239.out)) : gb241 ≠ gb239));clear BK239;clear HB;have BK239 := n0_;have HB := n1_;have BK241 := n2_;have GW241 := n3_;have GE241 := n4_;have NB239_241 := n5_;have NB241_239 := n6_;clear n0_ n1_ n2_ n3_ n4_ n5_ n6_;clear hb hbox hg;have hnb21 := NB241_239.out;have hnc21 := NB239_241.out;have hcz22_0 : w20.cell? ⟨gb241, 0, none⟩ = some (.int .i64 0) := (blk_cell BK241.out 0).trans rfl;have hcz22_1 : w20.cell? ⟨gb241, 1, none⟩ = some (.int .i64 0) := (blk_cell BK241.out 1).trans rfl;have hcz22_2 : w20.cell? ⟨gb241, 2, none⟩ = some (.int .i64 0) := (blk_cell BK241.out 2).trans rfl;have hcz22_3 : w20.cell? ⟨gb241, 3, none⟩ = some (.int .i32 0) := (blk_cell BK241.out 3).trans rfl;have hfz22_0 := blk_frozen BK241.out 0;have hfz22_1 := blk_frozen BK241.out 1;have hfz22_2 := blk_frozen BK241.out 2;have hfz22_3 := blk_frozen BK241.out 3))
       go_ret
       exact ⟨by first|rfl|(simp [errW_none, errW_some] <;> rfl)|(simp [*, errW_none, errW_some] <;> rfl), by repeat (first|(with_reducible first|exact HB.out|apply xa|apply xb|apply xc|refine below_set ?_ GE239.out|refine below_set ?_ GE241.out)|exact HB.out)⟩
     ·rw [if_neg c11] at H
      have c11b0 : (((rd_T41 l0_1 a1).f0) == 4) = false := beq_eq_false_iff_ne.mpr c11
      have c11b1 : (((rd_T41 l0_1 a1).f0) != 4) = true := bne_iff_ne.mpr c11
      by_cases c23 : ((rd_T41 l0_1 a1).f0) = 5
      ·rw [if_pos c23] at H
       have c23b0 : (((rd_T41 l0_1 a1).f0) == 5) = true := beq_iff_eq.mpr c23
       have c23b1 : (((rd_T41 l0_1 a1).f0) != 5) = false := bne_eq_false_iff_eq.mpr c23
       clear c23
       by_cases c24 : ((rd_T41 l0_1 a1).f0) = 14
       ·rw [if_pos c24] at H
        have c24b0 : (((rd_T41 l0_1 a1).f0) == 14) = true := beq_iff_eq.mpr c24
        have c24b1 : (((rd_T41 l0_1 a1).f0) != 14) = false := bne_eq_false_iff_eq.mpr c24
        clear c24
        by_cases c25 : a2 = (wrap64 ((rd_T41 l0_1 a1).f3))
        ·rw [if_pos c25] at H
         have c25b0 : (a2 == (wrap64 ((rd_T41 l0_1 a1).f3))) = true := beq_iff_eq.mpr c25
         have c25b1 : (a2 != (wrap64 ((rd_T41 l0_1 a1).f3))) = false := bne_eq_false_iff_eq.mpr c25
         clear c25
         obtain rfl := Option.some.inj H
         go_enter Try.func17, Try.ntmps17
         go_wp2_with (first|((with_reducible refine gate_dst (N := 3) rfl ?_);(try (refine gate_guard (by rfl) ?_;dsimp only));refine box_event ?hg (N := 3) ?hd (cs := #[.int .i64 a0_0, .slice A0_1 l0_1.length c0_1]) (t := 24) ?hr ?_;(case hd => rfl);(case hg => rfl);(case hr => first|(go_simp;done)|(go_simp;rfl));intro gb239 hg w26 hbox hb;have n0_ := Aside0.mk (below_step (by repeat (with_reducible first|exact HB.out|apply xa|apply xb|apply xc)) hb);have n1_ := Aside0.mk (hbox);have n2_ := Aside0.mk ((by rw [hg];exact (below_size (by repeat (with_reducible first|exact HB.out|apply xa|apply xb|apply xc))) : w.heap.size ≤ gb239));have n3_ := Aside0.mk ((by rw [hg];exact (below_size (by repeat (with_reducible first|exact HB.out|apply xa|apply xb|apply xc))) : w.heap.size ≤ gb239));clear HB;have HB := n0_;have BK239 := n1_;have GW239 := n2_;have GE239 := n3_;clear n0_ n1_ n2_ n3_;clear hb hbox hg;have hcz27_0 : w26.cell? ⟨gb239, 0, none⟩ = some (.int .i64 a0_0) := (blk_cell BK239.out 0).trans rfl;have hcz27_1 : w26.cell? ⟨gb239, 1, none⟩ = some (.slice A0_1 l0_1.length c0_1) := (blk_cell BK239.out 1).trans rfl;have hfz27_0 := blk_frozen BK239.out 0;have hfz27_1 := blk_frozen BK239.out 1;have p240 : 0 ≤ (a1 : Int) := of_decide_eq_true (by assumption);have q240 : a1 < (l0_1.length : Int) := of_decide_eq_true (by assumption);obtain ⟨ad240, e240, hx240_0, hx240_1, hx240_2, hx240_3⟩ := at_T41 HR0_1.out a1 p240 q240;cases e240;replace hx240_0 := (HB.out.cell (World.block_lt_of_cell? w _ hx240_0)).trans hx240_0;replace hx240_1 := (HB.out.cell (World.block_lt_of_cell? w _ hx240_1)).trans hx240_1;replace hx240_2 := (HB.out.cell (World.block_lt_of_cell? w _ hx240_2)).trans hx240_2;replace hx240_3 := (HB.out.cell (World.block_lt_of_cell? w _ hx240_3)).trans hx240_3;replace p240 := eq_true p240;replace q240 := eq_true q240)|((with_reducible refine gate_dst (N := 7) rfl ?_);(try (refine gate_guard (by rfl) ?_;dsimp only));refine box_event ?hg (N := 7) ?hd (cs := #[.int .i64 0, .int .i64 0, .int .i64 0, .int .i32 0]) (t := 41) ?hr ?_;(case hd => rfl);(case hg => rfl);(case hr => first|(go_simp;done)|(go_simp;rfl));intro gb241 hg w28 hbox hb;have n0_ := Aside0.mk (blk_below (g := gb239) (o := .cells #[.int .i64 a0_0, .slice (some ad240) l0_1.length c0_1] 24 (0, 0)) (by (with_reducible repeat (first|apply blk_drewN|apply blk_drew|apply blk_alloc));exact BK239.out) hb);have n1_ := Aside0.mk (below_step (by repeat (first|(with_reducible first|exact HB.out|apply xa|apply xb|apply xc|refine below_set ?_ GE239.out)|exact HB.out)) hb);have n2_ := Aside0.mk (hbox);have n3_ := Aside0.mk ((by rw [hg];exact (below_size (by repeat (first|(with_reducible first|exact HB.out|apply xa|apply xb|apply xc|refine below_set ?_ GE239.out)|exact HB.out))) : w.heap.size ≤ gb241));have n4_ := Aside0.mk ((by rw [hg];exact (below_size (by repeat (first|(with_reducible first|exact HB.out|apply xa|apply xb|apply xc|refine below_set ?_ GE239.out)|exact HB.out))) : w.heap.size ≤ gb241));have n5_ := Aside0.mk ((by rw [hg];exact Nat.ne_of_lt (blk_lt (g := gb239) (o := .cells #[.int .i64 a0_0, .slice (some ad240) l0_1.length c0_1] 24 (0, 0)) (by (with_reducible repeat (first|apply blk_drewN|apply blk_drew|apply blk_alloc));exact BK239.out)) : gb239 ≠ gb241));have n6_ := Aside0.mk ((by rw [hg];exact Nat.ne_of_gt (blk_lt (g := gb239) (o := .cells #[.int .i64 a0_0, .slice (some ad240) l0_1.length c0_1] 24 (0, 0)) (by (with_reducible repeat (first|apply blk_drewN|apply blk_drew|apply blk_alloc));exact BK239.out)) : gb241 ≠ gb239));clear BK239;clear HB;have BK239 := n0_;have HB := n1_;have BK241 := n2_;have GW241 := n3_;have GE241 := n4_;have NB239_241 := n5_;have NB241_239 := n6_;clear n0_ n1_ n2_ n3_ n4_ n5_ n6_;clear hb hbox hg;have hnb29 := NB241_239.out;have hnc29 := NB239_241.out;have hcz30_0 : w28.cell? ⟨gb241, 0, none⟩ = some (.int .i64 0) := (blk_cell BK241.out 0).trans rfl;have hcz30_1 : w28.cell? ⟨gb241, 1, none⟩ = some (.int .i64 0) := (blk_cell BK241.out 1).trans rfl;have hcz30_2 : w28.cell? ⟨gb241, 2, none⟩ = some (.int .i64 0) := (blk_cell BK241.out 2).trans rfl;have hcz30_3 : w28.cell? ⟨gb241, 3, none⟩ = some (.int .i32 0) := (blk_cell BK241.out 3).trans rfl;have hfz30_0 := blk_frozen BK241.out 0;have hfz30_1 := blk_frozen BK241.out 1;have hfz30_2 := blk_frozen BK241.out 2;have hfz30_3 := blk_frozen BK241.out 3))
         go_ret
         exact ⟨by first|rfl|(simp [errW_none, errW_some] <;> rfl)|(simp [*, errW_none, errW_some] <;> rfl), by repeat (first|(with_reducible first|exact HB.out|apply xa|apply xb|apply xc|refine below_set ?_ GE239.out|refine below_set ?_ GE241.out)|exact HB.out)⟩
        ·rw [if_neg c25] at H
         have c25b0 : (a2 == (wrap64 ((rd_T41 l0_1 a1).f3))) = false := beq_eq_false_iff_ne.mpr c25
         have c25b1 : (a2 != (wrap64 ((rd_T41 l0_1 a1).f3))) = true := bne_iff_ne.mpr c25
         obtain rfl := Option.some.inj H
         go_enter Try.func17, Try.ntmps17
         go_wp2_with (first|((with_reducible refine gate_dst (N := 3) rfl ?_);(try (refine gate_guard (by rfl) ?_;dsimp only));refine box_event ?hg (N := 3) ?hd (cs := #[.int .i64 a0_0, .slice A0_1 l0_1.length c0_1]) (t := 24) ?hr ?_;(case hd => rfl);(case hg => rfl);(case hr => first|(go_simp;done)|(go_simp;rfl));intro gb239 hg w31 hbox hb;have n0_ := Aside0.mk (below_step (by repeat (with_reducible first|exact HB.out|apply xa|apply xb|apply xc)) hb);have n1_ := Aside0.mk (hbox);have n2_ := Aside0.mk ((by rw [hg];exact (below_size (by repeat (with_reducible first|exact HB.out|apply xa|apply xb|apply xc))) : w.heap.size ≤ gb239));have n3_ := Aside0.mk ((by rw [hg];exact (below_size (by repeat (with_reducible first|exact HB.out|apply xa|apply xb|apply xc))) : w.heap.size ≤ gb239));clear HB;have HB := n0_;have BK239 := n1_;have GW239 := n2_;have GE239 := n3_;clear n0_ n1_ n2_ n3_;clear hb hbox hg;have hcz32_0 : w31.cell? ⟨gb239, 0, none⟩ = some (.int .i64 a0_0) := (blk_cell BK239.out 0).trans rfl;have hcz32_1 : w31.cell? ⟨gb239, 1, none⟩ = some (.slice A0_1 l0_1.length c0_1) := (blk_cell BK239.out 1).trans rfl;have hfz32_0 := blk_frozen BK239.out 0;have hfz32_1 := blk_frozen BK239.out 1;have p240 : 0 ≤ (a1 : Int) := of_decide_eq_true (by assumption);have q240 : a1 < (l0_1.length : Int) := of_decide_eq_true (by assumption);obtain ⟨ad240, e240, hx240_0, hx240_1, hx240_2, hx240_3⟩ := at_T41 HR0_1.out a1 p240 q240;cases e240;replace hx240_0 := (HB.out.cell (World.block_lt_of_cell? w _ hx240_0)).trans hx240_0;replace hx240_1 := (HB.out.cell (World.block_lt_of_cell? w _ hx240_1)).trans hx240_1;replace hx240_2 := (HB.out.cell (World.block_lt_of_cell? w _ hx240_2)).trans hx240_2;replace hx240_3 := (HB.out.cell (World.block_lt_of_cell? w _ hx240_3)).trans hx240_3;replace p240 := eq_true p240;replace q240 := eq_true q240)|((with_reducible refine gate_dst (N := 7) rfl ?_);(try (refine gate_guard (by rfl) ?_;dsimp only));refine box_event ?hg (N := 7) ?hd (cs := #[.int .i64 0, .int .i64 0, .int .i64 0, .int .i32 0]) (t := 41) ?hr ?_;(case hd => rfl);(case hg => rfl);(case hr => first|(go_simp;done)|(go_simp;rfl));intro gb241 hg w33 hbox hb;have n0_ := Aside0.mk (blk_below (g := gb239) (o := .cells #[.int .i64 a0_0, .slice (some ad240) l0_1.length c0_1] 24 (0, 0)) (by (with_reducible repeat (first|apply blk_drewN|apply blk_drew|apply blk_alloc));exact BK239.out) hb);have n1_ := Aside0.mk (below_step (by repeat (first|(with_reducible first|exact HB.out|apply xa|apply xb|apply xc|refine below_set ?_ GE239.out)|exact HB.out)) hb);have n2_ := Aside0.mk (hbox);have n3_ := Aside0.mk ((by rw [hg];exact (below_size (by repeat (first|(with_reducible first|exact HB.out|apply xa|apply xb|apply xc|refine below_set ?_ GE239.out)|exact HB.out))) : w.heap.size ≤ gb241));have n4_ := Aside0.mk ((by rw [hg];exact (below_size (by repeat (first|(with_reducible first|exact HB.out|apply xa|apply xb|apply xc|refine below_set ?_ GE239.out)|exact HB.out))) : w.heap.size ≤ gb241));have n5_ := Aside0.mk ((by rw [hg];exact Nat.ne_of_lt (blk_lt (g := gb239) (o := .cells #[.int .i64 a0_0, .slice (some ad240) l0_1.length c0_1] 24 (0, 0)) (by (with_reducible repeat (first|apply blk_drewN|apply blk_drew|apply blk_alloc));exact BK239.out)) : gb239 ≠ gb241));have n6_ := Aside0.mk ((by rw [hg];exact Nat.ne_of_gt (blk_lt (g := gb239) (o := .cells #[.int .i64 a0_0, .slice (some ad240) l0_1.length c0_1] 24 (0, 0)) (by (with_reducible repeat (first|apply blk_drewN|apply blk_drew|apply blk_alloc));exact BK239.out)) : gb241 ≠ gb239));clear BK239;clear HB;have BK239 := n0_;have HB := n1_;have BK241 := n2_;have GW241 := n3_;have GE241 := n4_;have NB239_241 := n5_;have NB241_239 := n6_;clear n0_ n1_ n2_ n3_ n4_ n5_ n6_;clear hb hbox hg;have hnb34 := NB241_239.out;have hnc34 := NB239_241.out;have hcz35_0 : w33.cell? ⟨gb241, 0, none⟩ = some (.int .i64 0) := (blk_cell BK241.out 0).trans rfl;have hcz35_1 : w33.cell? ⟨gb241, 1, none⟩ = some (.int .i64 0) := (blk_cell BK241.out 1).trans rfl;have hcz35_2 : w33.cell? ⟨gb241, 2, none⟩ = some (.int .i64 0) := (blk_cell BK241.out 2).trans rfl;have hcz35_3 : w33.cell? ⟨gb241, 3, none⟩ = some (.int .i32 0) := (blk_cell BK241.out 3).trans rfl;have hfz35_0 := blk_frozen BK241.out 0;have hfz35_1 := blk_frozen BK241.out 1;have hfz35_2 := blk_frozen BK241.out 2;have hfz35_3 := blk_frozen BK241.out 3))
         go_ret
         exact ⟨by first|rfl|(simp [errW_none, errW_some] <;> rfl)|(simp [*, errW_none, errW_some] <;> rfl), by repeat (first|(with_reducible first|exact HB.out|apply xa|apply xb|apply xc|refine below_set ?_ GE239.out|refine below_set ?_ GE241.out)|exact HB.out)⟩
       ·rw [if_neg c24] at H
        have c24b0 : (((rd_T41 l0_1 a1).f0) == 14) = false := beq_eq_false_iff_ne.mpr c24
        have c24b1 : (((rd_T41 l0_1 a1).f0) != 14) = true := bne_iff_ne.mpr c24
        by_cases c36 : a2 = (wrap64 ((rd_T41 l0_1 a1).f3))
        ·rw [if_pos c36] at H
         have c36b0 : (a2 == (wrap64 ((rd_T41 l0_1 a1).f3))) = true := beq_iff_eq.mpr c36
         have c36b1 : (a2 != (wrap64 ((rd_T41 l0_1 a1).f3))) = false := bne_eq_false_iff_eq.mpr c36
         clear c36
         obtain rfl := Option.some.inj H
         go_enter Try.func17, Try.ntmps17
         go_wp2_with (first|((with_reducible refine gate_dst (N := 3) rfl ?_);(try (refine gate_guard (by rfl) ?_;dsimp only));refine box_event ?hg (N := 3) ?hd (cs := #[.int .i64 a0_0, .slice A0_1 l0_1.length c0_1]) (t := 24) ?hr ?_;(case hd => rfl);(case hg => rfl);(case hr => first|(go_simp;done)|(go_simp;rfl));intro gb239 hg w37 hbox hb;have n0_ := Aside0.mk (below_step (by repeat (with_reducible first|exact HB.out|apply xa|apply xb|apply xc)) hb);have n1_ := Aside0.mk (hbox);have n2_ := Aside0.mk ((by rw [hg];exact (below_size (by repeat (with_reducible first|exact HB.out|apply xa|apply xb|apply xc))) : w.heap.size ≤ gb239));have n3_ := Aside0.mk ((by rw [hg];exact (below_size (by repeat (with_reducible first|exact HB.out|apply xa|apply xb|apply xc))) : w.heap.size ≤ gb239));clear HB;have HB := n0_;have BK239 := n1_;have GW239 := n2_;have GE239 := n3_;clear n0_ n1_ n2_ n3_;clear hb hbox hg;have hcz38_0 : w37.cell? ⟨gb239, 0, none⟩ = some (.int .i64 a0_0) := (blk_cell BK239.out 0).trans rfl;have hcz38_1 : w37.cell? ⟨gb239, 1, none⟩ = some (.slice A0_1 l0_1.length c0_1) := (blk_cell BK239.out 1).trans rfl;have hfz38_0 := blk_frozen BK239.out 0;have hfz38_1 := blk_frozen BK239.out 1;have p240 : 0 ≤ (a1 : Int) := of_decide_eq_true (by assumption);have q240 : a1 < (l0_1.length : Int) := of_decide_eq_true (by assumption);obtain ⟨ad240, e240, hx240_0, hx240_1, hx240_2, hx240_3⟩ := at_T41 HR0_1.out a1 p240 q240;cases e240;replace hx240_0 := (HB.out.cell (World.block_lt_of_cell? w _ hx240_0)).trans hx240_0;replace hx240_1 := (HB.out.cell (World.block_lt_of_cell? w _ hx240_1)).trans hx240_1;replace hx240_2 := (HB.out.cell (World.block_lt_of_cell? w _ hx240_2)).trans hx240_2;replace hx240_3 := (HB.out.cell (World.block_lt_of_cell? w _ hx240_3)).trans hx240_3;replace p240 := eq_true p240;replace q240 := eq_true q240)|((with_reducible refine gate_dst (N := 7) rfl ?_);(try (refine gate_guard (by rfl) ?_;dsimp only));refine box_event ?hg (N := 7) ?hd (cs := #[.int .i64 0, .int .i64 0, .int .i64 0, .int .i32 0]) (t := 41) ?hr ?_;(case hd => rfl);(case hg => rfl);(case hr => first|(go_simp;done)|(go_simp;rfl));intro gb241 hg w39 hbox hb;have n0_ := Aside0.mk (blk_below (g := gb239) (o := .cells #[.int .i64 a0_0, .slice (some ad240) l0_1.length c0_1] 24 (0, 0)) (by (with_reducible repeat (first|apply blk_drewN|apply blk_drew|apply blk_alloc));exact BK239.out) hb);have n1_ := Aside0.mk (below_step (by repeat (first|(with_reducible first|exact HB.out|apply xa|apply xb|apply xc|refine below_set ?_ GE239.out)|exact HB.out)) hb);have n2_ := Aside0.mk (hbox);have n3_ := Aside0.mk ((by rw [hg];exact (below_size (by repeat (first|(with_reducible first|exact HB.out|apply xa|apply xb|apply xc|refine below_set ?_ GE239.out)|exact HB.out))) : w.heap.size ≤ gb241));have n4_ := Aside0.mk ((by rw [hg];exact (below_size (by repeat (first|(with_reducible first|exact HB.out|apply xa|apply xb|apply xc|refine below_set ?_ GE239.out)|exact HB.out))) : w.heap.size ≤ gb241));have n5_ := Aside0.mk ((by rw [hg];exact Nat.ne_of_lt (blk_lt (g := gb239) (o := .cells #[.int .i64 a0_0, .slice (some ad240) l0_1.length c0_1] 24 (0, 0)) (by (with_reducible repeat (first|apply blk_drewN|apply blk_drew|apply blk_alloc));exact BK239.out)) : gb239 ≠ gb241));have n6_ := Aside0.mk ((by rw [hg];exact Nat.ne_of_gt (blk_lt (g := gb239) (o := .cells #[.int .i64 a0_0, .slice (some ad240) l0_1.length c0_1] 24 (0, 0)) (by (with_reducible repeat (first|apply blk_drewN|apply blk_drew|apply blk_alloc));exact BK239.out)) : gb241 ≠ gb239));clear BK239;clear HB;have BK239 := n0_;have HB := n1_;have BK241 := n2_;have GW241 := n3_;have GE241 := n4_;have NB239_241 := n5_;have NB241_239 := n6_;clear n0_ n1_ n2_ n3_ n4_ n5_ n6_;clear hb hbox hg;have hnb40 := NB241_239.out;have hnc40 := NB239_241.out;have hcz41_0 : w39.cell? ⟨gb241, 0, none⟩ = some (.int .i64 0) := (blk_cell BK241.out 0).trans rfl;have hcz41_1 : w39.cell? ⟨gb241, 1, none⟩ = some (.int .i64 0) := (blk_cell BK241.out 1).trans rfl;have hcz41_2 : w39.cell? ⟨gb241, 2, none⟩ = some (.int .i64 0) := (blk_cell BK241.out 2).trans rfl;have hcz41_3 : w39.cell? ⟨gb241, 3, none⟩ = some (.int .i32 0) := (blk_cell BK241.out 3).trans rfl;have hfz41_0 := blk_frozen BK241.out 0;have hfz41_1 := blk_frozen BK241.out 1;have hfz41_2 := blk_frozen BK241.out 2;have hfz41_3 := blk_frozen BK241.out 3))
         go_ret
         exact ⟨by first|rfl|(simp [errW_none, errW_some] <;> rfl)|(simp [*, errW_none, errW_some] <;> rfl), by repeat (first|(with_reducible first|exact HB.out|apply xa|apply xb|apply xc|refine below_set ?_ GE239.out|refine below_set ?_ GE241.out)|exact HB.out)⟩
        ·rw [if_neg c36] at H
         have c36b0 : (a2 == (wrap64 ((rd_T41 l0_1 a1).f3))) = false := beq_eq_false_iff_ne.mpr c36
         have c36b1 : (a2 != (wrap64 ((rd_T41 l0_1 a1).f3))) = true := bne_iff_ne.mpr c36
         obtain rfl := Option.some.inj H
         go_enter Try.func17, Try.ntmps17
         go_wp2_with (first|((with_reducible refine gate_dst (N := 3) rfl ?_);(try (refine gate_guard (by rfl) ?_;dsimp only));refine box_event ?hg (N := 3) ?hd (cs := #[.int .i64 a0_0, .slice A0_1 l0_1.length c0_1]) (t := 24) ?hr ?_;(case hd => rfl);(case hg => rfl);(case hr => first|(go_simp;done)|(go_simp;rfl));intro gb239 hg w42 hbox hb;have n0_ := Aside0.mk (below_step (by repeat (with_reducible first|exact HB.out|apply xa|apply xb|apply xc)) hb);have n1_ := Aside0.mk (hbox);have n2_ := Aside0.mk ((by rw [hg];exact (below_size (by repeat (with_reducible first|exact HB.out|apply xa|apply xb|apply xc))) : w.heap.size ≤ gb239));have n3_ := Aside0.mk ((by rw [hg];exact (below_size (by repeat (with_reducible first|exact HB.out|apply xa|apply xb|apply xc))) : w.heap.size ≤ gb239));clear HB;have HB := n0_;have BK239 := n1_;have GW239 := n2_;have GE239 := n3_;clear n0_ n1_ n2_ n3_;clear hb hbox hg;have hcz43_0 : w42.cell? ⟨gb239, 0, none⟩ = some (.int .i64 a0_0) := (blk_cell BK239.out 0).trans rfl;have hcz43_1 : w42.cell? ⟨gb239, 1, none⟩ = some (.slice A0_1 l0_1.length c0_1) := (blk_cell BK239.out 1).trans rfl;have hfz43_0 := blk_frozen BK239.out 0;have hfz43_1 := blk_frozen BK239.out 1;have p240 : 0 ≤ (a1 : Int) := of_decide_eq_true (by assumption);have q240 : a1 < (l0_1.length : Int) := of_decide_eq_true (by assumption);obtain ⟨ad240, e240, hx240_0, hx240_1, hx240_2, hx240_3⟩ := at_T41 HR0_1.out a1 p240 q240;cases e240;replace hx240_0 := (HB.out.cell (World.block_lt_of_cell? w _ hx240_0)).trans hx240_0;replace hx240_1 := (HB.out.cell (World.block_lt_of_cell? w _ hx240_1)).trans hx240_1;replace hx240_2 := (HB.out.cell (World.block_lt_of_cell? w _ hx240_2)).trans hx240_2;replace hx240_3 := (HB.out.cell (World.block_lt_of_cell? w _ hx240_3)).trans hx240_3;replace p240 := eq_true p240;replace q240 := eq_true q240)|((with_reducible refine gate_dst (N := 7) rfl ?_);(try (refine gate_guard (by rfl) ?_;dsimp only));refine box_event ?hg (N := 7) ?hd (cs := #[.int .i64 0, .int .i64 0, .int .i64 0, .int .i32 0]) (t := 41) ?hr ?_;(case hd => rfl);(case hg => rfl);(case hr => first|(go_simp;done)|(go_simp;rfl));intro gb241 hg w44 hbox hb;have n0_ := Aside0.mk (blk_below (g := gb239) (o := .cells #[.int .i64 a0_0, .slice (some ad240) l0_1.length c0_1] 24 (0, 0)) (by (with_reducible repeat (first|apply blk_drewN|apply blk_drew|apply blk_alloc));exact BK239.out) hb);have n1_ := Aside0.mk (below_step (by repeat (first|(with_reducible first|exact HB.out|apply xa|apply xb|apply xc|refine below_set ?_ GE239.out)|exact HB.out)) hb);have n2_ := Aside0.mk (hbox);have n3_ := Aside0.mk ((by rw [hg];exact (below_size (by repeat (first|(with_reducible first|exact HB.out|apply xa|apply xb|apply xc|refine below_set ?_ GE239.out)|exact HB.out))) : w.heap.size ≤ gb241));have n4_ := Aside0.mk ((by rw [hg];exact (below_size (by repeat (first|(with_reducible first|exact HB.out|apply xa|apply xb|apply xc|refine below_set ?_ GE239.out)|exact HB.out))) : w.heap.size ≤ gb241));have n5_ := Aside0.mk ((by rw [hg];exact Nat.ne_of_lt (blk_lt (g := gb239) (o := .cells #[.int .i64 a0_0, .slice (some ad240) l0_1.length c0_1] 24 (0, 0)) (by (with_reducible repeat (first|apply blk_drewN|apply blk_drew|apply blk_alloc));exact BK239.out)) : gb239 ≠ gb241));have n6_ := Aside0.mk ((by rw [hg];exact Nat.ne_of_gt (blk_lt (g := gb239) (o := .cells #[.int .i64 a0_0, .slice (some ad240) l0_1.length c0_1] 24 (0, 0)) (by (with_reducible repeat (first|apply blk_drewN|apply blk_drew|apply blk_alloc));exact BK239.out)) : gb241 ≠ gb239));clear BK239;clear HB;have BK239 := n0_;have HB := n1_;have BK241 := n2_;have GW241 := n3_;have GE241 := n4_;have NB239_241 := n5_;have NB241_239 := n6_;clear n0_ n1_ n2_ n3_ n4_ n5_ n6_;clear hb hbox hg;have hnb45 := NB241_239.out;have hnc45 := NB239_241.out;have hcz46_0 : w44.cell? ⟨gb241, 0, none⟩ = some (.int .i64 0) := (blk_cell BK241.out 0).trans rfl;have hcz46_1 : w44.cell? ⟨gb241, 1, none⟩ = some (.int .i64 0) := (blk_cell BK241.out 1).trans rfl;have hcz46_2 : w44.cell? ⟨gb241, 2, none⟩ = some (.int .i64 0) := (blk_cell BK241.out 2).trans rfl;have hcz46_3 : w44.cell? ⟨gb241, 3, none⟩ = some (.int .i32 0) := (blk_cell BK241.out 3).trans rfl;have hfz46_0 := blk_frozen BK241.out 0;have hfz46_1 := blk_frozen BK241.out 1;have hfz46_2 := blk_frozen BK241.out 2;have hfz46_3 := blk_frozen BK241.out 3))
         go_ret
         exact ⟨by first|rfl|(simp [errW_none, errW_some] <;> rfl)|(simp [*, errW_none, errW_some] <;> rfl), by repeat (first|(with_reducible first|exact HB.out|apply xa|apply xb|apply xc|refine below_set ?_ GE239.out|refine below_set ?_ GE241.out)|exact HB.out)⟩
      ·rw [if_neg c23] at H
       have c23b0 : (((rd_T41 l0_1 a1).f0) == 5) = false := beq_eq_false_iff_ne.mpr c23
       have c23b1 : (((rd_T41 l0_1 a1).f0) != 5) = true := bne_iff_ne.mpr c23
       by_cases c47 : ((rd_T41 l0_1 a1).f0) = 14
       ·rw [if_pos c47] at H
        have c47b0 : (((rd_T41 l0_1 a1).f0) == 14) = true := beq_iff_eq.mpr c47
        have c47b1 : (((rd_T41 l0_1 a1).f0) != 14) = false := bne_eq_false_iff_eq.mpr c47
        clear c47
        obtain rfl := Option.some.inj H
        go_enter Try.func17, Try.ntmps17
        go_wp2_with (first|((with_reducible refine gate_dst (N := 3) rfl ?_);(try (refine gate_guard (by rfl) ?_;dsimp only));refine box_event ?hg (N := 3) ?hd (cs := #[.int .i64 a0_0, .slice A0_1 l0_1.length c0_1]) (t := 24) ?hr ?_;(case hd => rfl);(case hg => rfl);(case hr => first|(go_simp;done)|(go_simp;rfl));intro gb239 hg w48 hbox hb;have n0_ := Aside0.mk (below_step (by repeat (with_reducible first|exact HB.out|apply xa|apply xb|apply xc)) hb);have n1_ := Aside0.mk (hbox);have n2_ := Aside0.mk ((by rw [hg];exact (below_size (by repeat (with_reducible first|exact HB.out|apply xa|apply xb|apply xc))) : w.heap.size ≤ gb239));have n3_ := Aside0.mk ((by rw [hg];exact (below_size (by repeat (with_reducible first|exact HB.out|apply xa|apply xb|apply xc))) : w.heap.size ≤ gb239));clear HB;have HB := n0_;have BK239 := n1_;have GW239 := n2_;have GE239 := n3_;clear n0_ n1_ n2_ n3_;clear hb hbox hg;have hcz49_0 : w48.cell? ⟨gb239, 0, none⟩ = some (.int .i64 a0_0) := (blk_cell BK239.out 0).trans rfl;have hcz49_1 : w48.cell? ⟨gb239, 1, none⟩ = some (.slice A0_1 l0_1.length c0_1) := (blk_cell BK239.out 1).trans rfl;have hfz49_0 := blk_frozen BK239.out 0;have hfz49_1 := blk_frozen BK239.out 1;have p240 : 0 ≤ (a1 : Int) := of_decide_eq_true (by assumption);have q240 : a1 < (l0_1.length : Int) := of_decide_eq_true (by assumption);obtain ⟨ad240, e240, hx240_0, hx240_1, hx240_2, hx240_3⟩ := at_T41 HR0_1.out a1 p240 q240;cases e240;replace hx240_0 := (HB.out.cell (World.block_lt_of_cell? w _ hx240_0)).trans hx240_0;replace hx240_1 := (HB.out.cell (World.block_lt_of_cell? w _ hx240_1)).trans hx240_1;replace hx240_2 := (HB.out.cell (World.block_lt_of_cell? w _ hx240_2)).trans hx240_2;replace hx240_3 := (HB.out.cell (World.block_lt_of_cell? w _ hx240_3)).trans hx240_3;replace p240 := eq_true p240;replace q240 := eq_true q240)|((with_reducible refine gate_dst (N := 7) rfl ?_);(try (refine gate_guard (by rfl) ?_;dsimp only));refine box_event ?hg (N := 7) ?hd (cs := #[.int .i64 0, .int .i64 0, .int .i64 0, .int .i32 0]) (t := 41) ?hr ?_;(case hd => rfl);(case hg => rfl);(case hr => first|(go_simp;done)|(go_simp;rfl));intro gb241 hg w50 hbox hb;have n0_ := Aside0.mk (blk_below (g := gb239) (o := .cells #[.int .i64 a0_0, .slice (some ad240) l0_1.length c0_1] 24 (0, 0)) (by (with_reducible repeat (first|apply blk_drewN|apply blk_drew|apply blk_alloc));exact BK239.out) hb);have n1_ := Aside0.mk (below_step (by repeat (first|(with_reducible first|exact HB.out|apply xa|apply xb|apply xc|refine below_set ?_ GE239.out)|exact HB.out)) hb);have n2_ := Aside0.mk (hbox);have n3_ := Aside0.mk ((by rw [hg];exact (below_size (by repeat (first|(with_reducible first|exact HB.out|apply xa|apply xb|apply xc|refine below_set ?_ GE239.out)|exact HB.out))) : w.heap.size ≤ gb241));have n4_ := Aside0.mk ((by rw [hg];exact (below_size (by repeat (first|(with_reducible first|exact HB.out|apply xa|apply xb|apply xc|refine below_set ?_ GE239.out)|exact HB.out))) : w.heap.size ≤ gb241));have n5_ := Aside0.mk ((by rw [hg];exact Nat.ne_of_lt (blk_lt (g := gb239) (o := .cells #[.int .i64 a0_0, .slice (some ad240) l0_1.length c0_1] 24 (0, 0)) (by (with_reducible repeat (first|apply blk_drewN|apply blk_drew|apply blk_alloc));exact BK239.out)) : gb239 ≠ gb241));have n6_ := Aside0.mk ((by rw [hg];exact Nat.ne_of_gt (blk_lt (g := gb239) (o := .cells #[.int .i64 a0_0, .slice (some ad240) l0_1.length c0_1] 24 (0, 0)) (by (with_reducible repeat (first|apply blk_drewN|apply blk_drew|apply blk_alloc));exact BK239.out)) : gb241 ≠ gb239));clear BK239;clear HB;have BK239 := n0_;have HB := n1_;have BK241 := n2_;have GW241 := n3_;have GE241 := n4_;have NB239_241 := n5_;have NB241_239 := n6_;clear n0_ n1_ n2_ n3_ n4_ n5_ n6_;clear hb hbox hg;have hnb51 := NB241_239.out;have hnc51 := NB239_241.out;have hcz52_0 : w50.cell? ⟨gb241, 0, none⟩ = some (.int .i64 0) := (blk_cell BK241.out 0).trans rfl;have hcz52_1 : w50.cell? ⟨gb241, 1, none⟩ = some (.int .i64 0) := (blk_cell BK241.out 1).trans rfl;have hcz52_2 : w50.cell? ⟨gb241, 2, none⟩ = some (.int .i64 0) := (blk_cell BK241.out 2).trans rfl;have hcz52_3 : w50.cell? ⟨gb241, 3, none⟩ = some (.int .i32 0) := (blk_cell BK241.out 3).trans rfl;have hfz52_0 := blk_frozen BK241.out 0;have hfz52_1 := blk_frozen BK241.out 1;have hfz52_2 := blk_frozen BK241.out 2;have hfz52_3 := blk_frozen BK241.out 3))
        go_ret
        exact ⟨by first|rfl|(simp [errW_none, errW_some] <;> rfl)|(simp [*, errW_none, errW_some] <;> rfl), by repeat (first|(with_reducible first|exact HB.out|apply xa|apply xb|apply xc|refine below_set ?_ GE239.out|refine below_set ?_ GE241.out)|exact HB.out)⟩
       ·rw [if_neg c47] at H
        have c47b0 : (((rd_T41 l0_1 a1).f0) == 14) = false := beq_eq_false_iff_ne.mpr c47
        have c47b1 : (((rd_T41 l0_1 a1).f0) != 14) = true := bne_iff_ne.mpr c47
        obtain rfl := Option.some.inj H
        go_enter Try.func17, Try.ntmps17
        go_wp2_with (first|((with_reducible refine gate_dst (N := 3) rfl ?_);(try (refine gate_guard (by rfl) ?_;dsimp only));refine box_event ?hg (N := 3) ?hd (cs := #[.int .i64 a0_0, .slice A0_1 l0_1.length c0_1]) (t := 24) ?hr ?_;(case hd => rfl);(case hg => rfl);(case hr => first|(go_simp;done)|(go_simp;rfl));intro gb239 hg w53 hbox hb;have n0_ := Aside0.mk (below_step (by repeat (with_reducible first|exact HB.out|apply xa|apply xb|apply xc)) hb);have n1_ := Aside0.mk (hbox);have n2_ := Aside0.mk ((by rw [hg];exact (below_size (by repeat (with_reducible first|exact HB.out|apply xa|apply xb|apply xc))) : w.heap.size ≤ gb239));have n3_ := Aside0.mk ((by rw [hg];exact (below_size (by repeat (with_reducible first|exact HB.out|apply xa|apply xb|apply xc))) : w.heap.size ≤ gb239));clear HB;have HB := n0_;have BK239 := n1_;have GW239 := n2_;have GE239 := n3_;clear n0_ n1_ n2_ n3_;clear hb hbox hg;have hcz54_0 : w53.cell? ⟨gb239, 0, none⟩ = some (.int .i64 a0_0) := (blk_cell BK239.out 0).trans rfl;have hcz54_1 : w53.cell? ⟨gb239, 1, none⟩ = some (.slice A0_1 l0_1.length c0_1) := (blk_cell BK239.out 1).trans rfl;have hfz54_0 := blk_frozen BK239.out 0;have hfz54_1 := blk_frozen BK239.out 1;have p240 : 0 ≤ (a1 : Int) := of_decide_eq_true (by assumption);have q240 : a1 < (l0_1.length : Int) := of_decide_eq_true (by assumption);obtain ⟨ad240, e240, hx240_0, hx240_1, hx240_2, hx240_3⟩ := at_T41 HR0_1.out a1 p240 q240;cases e240;replace hx240_0 := (HB.out.cell (World.block_lt_of_cell? w _ hx240_0)).trans hx240_0;replace hx240_1 := (HB.out.cell (World.block_lt_of_cell? w _ hx240_1)).trans hx240_1;replace hx240_2 := (HB.out.cell (World.block_lt_of_cell? w _ hx240_2)).trans hx240_2;replace hx240_3 := (HB.out.cell (World.block_lt_of_cell? w _ hx240_3)).trans hx240_3;replace p240 := eq_true p240;replace q240 := eq_true q240)|((with_reducible refine gate_dst (N := 7) rfl ?_);(try (refine gate_guard (by rfl) ?_;dsimp only));refine box_event ?hg (N := 7) ?hd (cs := #[.int .i64 0, .int .i64 0, .int .i64 0, .int .i32 0]) (t := 41) ?hr ?_;(case hd => rfl);(case hg => rfl);(case hr => first|(go_simp;done)|(go_simp;rfl));intro gb241 hg w55 hbox hb;have n0_ := Aside0.mk (blk_below (g := gb239) (o := .cells #[.int .i64 a0_0, .slice (some ad240) l0_1.length c0_1] 24 (0, 0)) (by (with_reducible repeat (first|apply blk_drewN|apply blk_drew|apply blk_alloc));exact BK239.out) hb);have n1_ := Aside0.mk (below_step (by repeat (first|(with_reducible first|exact HB.out|apply xa|apply xb|apply xc|refine below_set ?_ GE239.out)|exact HB.out)) hb);have n2_ := Aside0.mk (hbox);have n3_ := Aside0.mk ((by rw [hg];exact (below_size (by repeat (first|(with_reducible first|exact HB.out|apply xa|apply xb|apply xc|refine below_set ?_ GE239.out)|exact HB.out))) : w.heap.size ≤ gb241));have n4_ := Aside0.mk ((by rw [hg];exact (below_size (by repeat (first|(with_reducible first|exact HB.out|apply xa|apply xb|apply xc|refine below_set ?_ GE239.out)|exact HB.out))) : w.heap.size ≤ gb241));have n5_ := Aside0.mk ((by rw [hg];exact Nat.ne_of_lt (blk_lt (g := gb239) (o := .cells #[.int .i64 a0_0, .slice (some ad240) l0_1.length c0_1] 24 (0, 0)) (by (with_reducible repeat (first|apply blk_drewN|apply blk_drew|apply blk_alloc));exact BK239.out)) : gb239 ≠ gb241));have n6_ := Aside0.mk ((by rw [hg];exact Nat.ne_of_gt (blk_lt (g := gb239) (o := .cells #[.int .i64 a0_0, .slice (some ad240) l0_1.length c0_1] 24 (0, 0)) (by (with_reducible repeat (first|apply blk_drewN|apply blk_drew|apply blk_alloc));exact BK239.out)) : gb241 ≠ gb239));clear BK239;clear HB;have BK239 := n0_;have HB := n1_;have BK241 := n2_;have GW241 := n3_;have GE241 := n4_;have NB239_241 := n5_;have NB241_239 := n6_;clear n0_ n1_ n2_ n3_ n4_ n5_ n6_;clear hb hbox hg;have hnb56 := NB241_239.out;have hnc56 := NB239_241.out;have hcz57_0 : w55.cell? ⟨gb241, 0, none⟩ = some (.int .i64 0) := (blk_cell BK241.out 0).trans rfl;have hcz57_1 : w55.cell? ⟨gb241, 1, none⟩ = some (.int .i64 0) := (blk_cell BK241.out 1).trans rfl;have hcz57_2 : w55.cell? ⟨gb241, 2, none⟩ = some (.int .i64 0) := (blk_cell BK241.out 2).trans rfl;have hcz57_3 : w55.cell? ⟨gb241, 3, none⟩ = some (.int .i32 0) := (blk_cell BK241.out 3).trans rfl;have hfz57_0 := blk_frozen BK241.out 0;have hfz57_1 := blk_frozen BK241.out 1;have hfz57_2 := blk_frozen BK241.out 2;have hfz57_3 := blk_frozen BK241.out 3))
        go_ret
        exact ⟨by first|rfl|(simp [errW_none, errW_some] <;> rfl)|(simp [*, errW_none, errW_some] <;> rfl), by repeat (first|(with_reducible first|exact HB.out|apply xa|apply xb|apply xc|refine below_set ?_ GE239.out|refine below_set ?_ GE241.out)|exact HB.out)⟩
    ·rw [if_neg c10] at H
     exact absurd H (by simp)
   ·rw [if_neg c9] at H
    exact absurd H (by simp)

mutual
def pinfoldref26_Reach.l0 : Nat → List Bool → Int → Int → Int → List (S41) → Option (List Bool)
 | 0, _, _, _, _, _ => none
 | k + 1, x3, x13, x14, x243000, x243001 => if x14 < x13 then (if 0 ≤ x14 then (if x14 < (x3.length : Int) then (pinfoldref26_Reach.l0 k (x3.set (x14 : Int).toNat (x14 == 0)) x13 (wrap64 (x14 + 1)) x243000 x243001) else (none)) else (none)) else (pinfoldref26_Reach.l1 k x3 true x243000 x243001)
def pinfoldref26_Reach.l1 : Nat → List Bool → Bool → Int → List (S41) → Option (List Bool)
 | 0, _, _, _, _ => none
 | k + 1, x3, x5, x243000, x243001 => if x5 = true then (pinfoldref26_Reach.l2 k x3 false (x3.length : Int) 0 x243000 x243001) else (some x3)
def pinfoldref26_Reach.l2 : Nat → List Bool → Bool → Int → Int → Int → List (S41) → Option (List Bool)
 | 0, _, _, _, _, _, _ => none
 | k + 1, x3, x5, x25, x26, x243000, x243001 => if x26 < x25 then (pinfoldref26_Reach.l3 k x3 x5 x26 x25 x26 (x3.length : Int) 0 x243000 x243001) else (pinfoldref26_Reach.l1 k x3 x5 x243000 x243001)
def pinfoldref26_Reach.l3 : Nat → List Bool → Bool → Int → Int → Int → Int → Int → Int → List (S41) → Option (List Bool)
 | 0, _, _, _, _, _, _, _, _, _ => none
 | k + 1, x3, x5, x6, x25, x26, x30, x31, x243000, x243001 => if x31 < x30 then (if 0 ≤ x6 then (if x6 < (x3.length : Int) then (if rdOf false x3 x6 = true then (if 0 ≤ x31 then (if x31 < (x3.length : Int) then (if rdOf false x3 x31 = true then (pinfoldref26_Reach.l3 k x3 x5 x6 x25 x26 x30 (wrap64 (x31 + 1)) x243000 x243001) else ((pinfoldref26_Goes.f x243000 x243001 x6 x31).bind fun t249 => (if t249 = true then (pinfoldref26_Reach.l3 k (x3.set (x31 : Int).toNat true) true x6 x25 x26 x30 (wrap64 (x31 + 1)) x243000 x243001) else (pinfoldref26_Reach.l3 k x3 x5 x6 x25 x26 x30 (wrap64 (x31 + 1)) x243000 x243001)))) else (none)) else (none)) else (pinfoldref26_Reach.l3 k x3 x5 x6 x25 x26 x30 (wrap64 (x31 + 1)) x243000 x243001)) else (none)) else (none)) else (pinfoldref26_Reach.l2 k x3 x5 x25 (wrap64 (x26 + 1)) x243000 x243001)
end
def pinfoldref26_Reach.f (k : Nat) (a0_0 : Int) (l0_1 : List (S41)) : Option (List Bool) := if 0 ≤ (l0_1.length : Int) then (if ((l0_1.length : Int) : Int).toNat ≤ 281474976710656 then ((some (List.replicate ((l0_1.length : Int) : Int).toNat false : List Bool)).bind fun y243 => (pinfoldref26_Reach.l0 k y243 (y243.length : Int) 0 a0_0 l0_1)) else (none)) else (none)
theorem pinfoldref26_Reach.mono_l : ∀ k, (∀ y0 y1 y2 y3 y4, LeO (pinfoldref26_Reach.l0 k y0 y1 y2 y3 y4) (pinfoldref26_Reach.l0 (k + 1) y0 y1 y2 y3 y4)) ∧ (∀ y0 y1 y2 y3, LeO (pinfoldref26_Reach.l1 k y0 y1 y2 y3) (pinfoldref26_Reach.l1 (k + 1) y0 y1 y2 y3)) ∧ (∀ y0 y1 y2 y3 y4 y5, LeO (pinfoldref26_Reach.l2 k y0 y1 y2 y3 y4 y5) (pinfoldref26_Reach.l2 (k + 1) y0 y1 y2 y3 y4 y5)) ∧ (∀ y0 y1 y2 y3 y4 y5 y6 y7 y8, LeO (pinfoldref26_Reach.l3 k y0 y1 y2 y3 y4 y5 y6 y7 y8) (pinfoldref26_Reach.l3 (k + 1) y0 y1 y2 y3 y4 y5 y6 y7 y8))
 | 0 => ⟨fun _ _ _ _ _ r h => by simp [pinfoldref26_Reach.l0] at h, fun _ _ _ _ r h => by simp [pinfoldref26_Reach.l1] at h, fun _ _ _ _ _ _ r h => by simp [pinfoldref26_Reach.l2] at h, fun _ _ _ _ _ _ _ _ _ r h => by simp [pinfoldref26_Reach.l3] at h⟩
 | k + 1 => by
  obtain ⟨ih0, ih1, ih2, ih3⟩ := pinfoldref26_Reach.mono_l k
  refine ⟨?_, ?_, ?_, ?_⟩
  ·intro y0 y1 y2 y3 y4
   unfold pinfoldref26_Reach.l0
   repeat' first
   | (with_reducible exact ih0 _ _ _ _ _)
   | (with_reducible exact ih1 _ _ _ _)
   | (with_reducible exact ih2 _ _ _ _ _ _)
   | (with_reducible exact ih3 _ _ _ _ _ _ _ _ _)
   | (with_reducible exact LeO.refl _)
   | (with_reducible exact LeO.none _)
   | (with_reducible refine LeO.ite ?_ ?_)
   | (with_reducible refine LeO.bind ?_ (fun _ => ?_))
   | exact ih0 _ _ _ _ _
   | exact ih1 _ _ _ _
   | exact ih2 _ _ _ _ _ _
   | exact ih3 _ _ _ _ _ _ _ _ _
   | exact LeO.none _
   | refine LeO.ite ?_ ?_
   | refine LeO.bind ?_ (fun _ => ?_)
  ·intro y0 y1 y2 y3
   unfold pinfoldref26_Reach.l1
   repeat' first
   | (with_reducible exact ih0 _ _ _ _ _)
   | (with_reducible exact ih1 _ _ _ _)
   | (with_reducible exact ih2 _ _ _ _ _ _)
   | (with_reducible exact ih3 _ _ _ _ _ _ _ _ _)
   | (with_reducible exact LeO.refl _)
   | (with_reducible exact LeO.none _)
   | (with_reducible refine LeO.ite ?_ ?_)
   | (with_reducible refine LeO.bind ?_ (fun _ => ?_))
   | exact ih0 _ _ _ _ _
   | exact ih1 _ _ _ _
   | exact ih2 _ _ _ _ _ _
   | exact ih3 _ _ _ _ _ _ _ _ _
   | exact LeO.none _
   | refine LeO.ite ?_ ?_
   | refine LeO.bind ?_ (fun _ => ?_)
  ·intro y0 y1 y2 y3 y4 y5
   unfold pinfoldref26_Reach.l2
   repeat' first
   | (with_reducible exact ih0 _ _ _ _ _)
   | (with_reducible exact ih1 _ _ _ _)
   | (with_reducible exact ih2 _ _ _ _ _ _)
   | (with_reducible exact ih3 _ _ _ _ _ _ _ _ _)
   | (with_reducible exact LeO.refl _)
   | (with_reducible exact LeO.none _)
   | (with_reducible refine LeO.ite ?_ ?_)
   | (with_reducible refine LeO.bind ?_ (fun _ => ?_))
   | exact ih0 _ _ _ _ _
   | exact ih1 _ _ _ _
   | exact ih2 _ _ _ _ _ _
   | exact ih3 _ _ _ _ _ _ _ _ _
   | exact LeO.none _
   | refine LeO.ite ?_ ?_
   | refine LeO.bind ?_ (fun _ => ?_)
  ·intro y0 y1 y2 y3 y4 y5 y6 y7 y8
   unfold pinfoldref26_Reach.l3
   repeat' first
   | (with_reducible exact ih0 _ _ _ _ _)
   | (with_reducible exact ih1 _ _ _ _)
   | (with_reducible exact ih2 _ _ _ _ _ _)
   | (with_reducible exact ih3 _ _ _ _ _ _ _ _ _)
   | (with_reducible exact LeO.refl _)
   | (with_reducible exact LeO.none _)
   | (with_reducible refine LeO.ite ?_ ?_)
   | (with_reducible refine LeO.bind ?_ (fun _ => ?_))
   | exact ih0 _ _ _ _ _
   | exact ih1 _ _ _ _
   | exact ih2 _ _ _ _ _ _
   | exact ih3 _ _ _ _ _ _ _ _ _
   | exact LeO.none _
   | refine LeO.ite ?_ ?_
   | refine LeO.bind ?_ (fun _ => ?_)
theorem pinfoldref26_Reach.mono : ∀ a0 a1 k, LeO (pinfoldref26_Reach.f k a0 a1) (pinfoldref26_Reach.f (k + 1) a0 a1) := by
 intro a0 a1 k
 obtain ⟨ih0, ih1, ih2, ih3⟩ := pinfoldref26_Reach.mono_l k
 unfold pinfoldref26_Reach.f
 repeat' first
   | (with_reducible exact ih0 _ _ _ _ _)
   | (with_reducible exact ih1 _ _ _ _)
   | (with_reducible exact ih2 _ _ _ _ _ _)
   | (with_reducible exact ih3 _ _ _ _ _ _ _ _ _)
   | (with_reducible exact LeO.refl _)
   | (with_reducible exact LeO.none _)
   | (with_reducible refine LeO.ite ?_ ?_)
   | (with_reducible refine LeO.bind ?_ (fun _ => ?_))
   | exact ih0 _ _ _ _ _
   | exact ih1 _ _ _ _
   | exact ih2 _ _ _ _ _ _
   | exact ih3 _ _ _ _ _ _ _ _ _
   | exact LeO.none _
   | refine LeO.ite ?_ ?_
   | refine LeO.bind ?_ (fun _ => ?_)
set_option maxHeartbeats 8000000 in
set_option maxRecDepth 100000 in
theorem pinfoldref26_Reach.calls (k : Nat) (a0_0 : Int) (A0_1 : Option Addr) (c0_1 : Nat) (l0_1 : List (S41)) (r : List Bool) (w : World) (hr0_1 : Kd.C k41 w A0_1 l0_1.length l0_1) (hc0_1 : l0_1.length ≤ c0_1) (h : pinfoldref26_Reach.f k a0_0 l0_1 = some r) :
  Calls Try.prog 18 #[.agg #[.int .i64 a0_0, .slice A0_1 l0_1.length c0_1]] w fun e w' => ∃ v0_ : Value, e = .returned (v0_) ∧ Kd.R Kd.bool 4 w' w.heap.size (fun _ => True) v0_ r ∧ Below w.heap.size w w' := by
 have hu24 := Try.underlying24
 have HR0_1 := Aside0.mk hr0_1
 have HC0_1 := Aside0.mk hc0_1
 clear hr0_1 hc0_1
 have HB := Aside0.mk (Below.refl w.heap.size w)
 have H : (if 0 ≤ (l0_1.length : Int) then (if ((l0_1.length : Int) : Int).toNat ≤ 281474976710656 then ((some (List.replicate ((l0_1.length : Int) : Int).toNat false : List Bool)).bind fun y243 => (pinfoldref26_Reach.l0 k y243 (y243.length : Int) 0 a0_0 l0_1)) else (none)) else (none)) = some r := h
 clear h
 by_cases c2 : 0 ≤ (l0_1.length : Int)
 ·rw [if_pos c2] at H
  have c2b0 := eq_true c2
  have c2b1 : decide (0 ≤ (l0_1.length : Int)) = true := decide_eq_true c2
  clear c2
  by_cases c3 : ((l0_1.length : Int) : Int).toNat ≤ 281474976710656
  ·rw [if_pos c3] at H
   have c3b0 := eq_true c3
   have c3b1 : decide (((l0_1.length : Int) : Int).toNat ≤ 281474976710656) = true := decide_eq_true c3
   clear c3
   obtain ⟨y243, hy243⟩ : ∃ y_ : List Bool, y_ = (List.replicate ((l0_1.length : Int) : Int).toNat false) := ⟨_, rfl⟩
   replace H : (pinfoldref26_Reach.l0 k y243 (y243.length : Int) 0 a0_0 l0_1) = some r := by first|(rw [hy243];with_reducible exact H)|(have H2_ := (Option.bind_some _ _).symm.trans H;rw [hy243];with_reducible exact H2_)|(have H2_ := (Option.bind_some _ _).symm.trans H;with_reducible exact H2_)|with_reducible exact H|(rw [hy243];exact H)|exact H
   have Ny243 := Aside0.mk hy243
   clear hy243
   have H' := Aside0.mk H
   clear H
   go_enter Try.func18, Try.ntmps18
   go_wp2_with (first|((with_reducible refine gate_dst (N := 1) rfl ?_);refine box_event ?hg (N := 1) ?hd (cs := #[.int .i64 a0_0, .slice A0_1 l0_1.length c0_1]) (t := 24) ?hr ?_;(case hd => rfl);(case hg => rfl);(case hr => first|(go_simp;done)|(go_simp;rfl));intro gb242 hg w4 hbox hb;have n0_ := Aside0.mk (below_step (by repeat (with_reducible first|exact HB.out|apply xa|apply xb|apply xc)) hb);have n1_ := Aside0.mk (hbox);have n2_ := Aside0.mk ((by rw [hg];exact (below_size (by repeat (with_reducible first|exact HB.out|apply xa|apply xb|apply xc))) : w.heap.size ≤ gb242));have n3_ := Aside0.mk ((by rw [hg];exact (below_size (by repeat (with_reducible first|exact HB.out|apply xa|apply xb|apply xc))) : w.heap.size ≤ gb242));clear HB;have HB := n0_;have BK242 := n1_;have GW242 := n2_;have GE242 := n3_;clear n0_ n1_ n2_ n3_;clear hb hbox hg;have hcz5_0 : w4.cell? ⟨gb242, 0, none⟩ = some (.int .i64 a0_0) := (blk_cell BK242.out 0).trans rfl;have hcz5_1 : w4.cell? ⟨gb242, 1, none⟩ = some (.slice A0_1 l0_1.length c0_1) := (blk_cell BK242.out 1).trans rfl;have hfz5_0 := blk_frozen BK242.out 0;have hfz5_1 := blk_frozen BK242.out 1)|((with_reducible refine gate_dst (N := 11) rfl ?_);refine Kd.R_make Kd.bool _ 4 rfl (N := 11) rfl 29 _ _ rfl (l0_1.length : Int) rfl rfl Try.underlying29 (.bool false) 1 info4 rfl (by decide) (by omega) false (ok := fun _ => True) (okp := fun _ => True) rfl (fun _ hk => hk) trivial (of_decide_eq_true (by assumption)) (Nat.le_trans (Nat.mul_le_mul_right _ (of_decide_eq_true (by assumption) : (l0_1.length : Int).toNat ≤ 281474976710656)) (by omega)) (Below.refl _ _) (Nat.le_refl _) ?_;intro v244 w6 ho7 hb hg_ hnew_;clear hg_ hnew_;(first|rw [← Ny243.out] at ho7|(simp only [Int.reduceToNat] at ho7;rw [← Ny243.out] at ho7));have n0_ := Aside0.mk (Kd.R_lower ho7 (below_size (by repeat (first|(with_reducible first|exact HB.out|apply xa|apply xb|apply xc|refine below_set ?_ GE242.out)|exact HB.out))));have n1_ := Aside0.mk (blk_below (g := gb242) (o := .cells #[.int .i64 a0_0, .slice A0_1 l0_1.length c0_1] 24 (0, 0)) (by (with_reducible repeat (first|apply blk_drewN|apply blk_drew|apply blk_alloc));exact BK242.out) hb);have n2_ := Aside0.mk (below_step (by repeat (first|(with_reducible first|exact HB.out|apply xa|apply xb|apply xc|refine below_set ?_ GE242.out)|exact HB.out)) hb);clear BK242;clear HB;have HO245 := n0_;have BK242 := n1_;have HB := n2_;clear n0_ n1_ n2_;clear hb ho7;obtain ⟨Ao8, co8, eo8⟩ := Kd.R_slice HO245.out;subst eo8))
   go_loopg [14] k (fun kq v14 w' => ∃ (x3_1 : List Bool) (x14_1 : Int), v14 = .int .i64 x14_1 ∧ Aside0 (pinfoldref26_Reach.l0 kq x3_1 (y243.length : Int) x14_1 a0_0 l0_1 = some r) ∧ Aside0 (kq ≤ k) ∧ Aside0 (Kd.R Kd.bool 4 w' w.heap.size (fun _ => True) (.slice Ao8 y243.length co8) x3_1) ∧ Aside0 (w'.heap[gb242]? = some (.cells #[.int .i64 a0_0, (.slice A0_1 l0_1.length c0_1)] 24 (0, 0))) ∧ Aside0 (Below w.heap.size w w'))
   case atStart => exact ⟨(y243), (0), (by first|rfl|(simp;done)|(simp [*];done)), H', ⟨Nat.le_refl _⟩, ⟨by (with_reducible repeat (first|apply Kd.R_alloc|apply Kd.R_drewN|apply Kd.R_drew));exact HO245.out⟩, ⟨by (with_reducible repeat (first|apply blk_drewN|apply blk_drew|apply blk_alloc));exact BK242.out⟩, ⟨by repeat (first|(with_reducible first|exact HB.out|apply xa|apply xb|apply xc|refine below_set ?_ GE242.out)|exact HB.out)⟩⟩
   case round =>
    clear H'
    try clear c1
    try clear c2
    try clear c2b0
    try clear c2b1
    try clear p2
    try clear c3
    try clear c3b0
    try clear c3b1
    try clear hcz5_0
    try clear hcz5_1
    try clear hfz5_0
    try clear hfz5_1
    obtain ⟨x3_1, x14_1, rfl, HA, HK1, HO_3, BK242, HB⟩ := hrel
    have hl3_1 := (Kd.R_reads' HO_3.out).1
    rw [hl3_1] at HO_3
    (try simp only [hl3_1])
    (try simp only [hl3_1] at BK242)
    cases gk with
    | zero => exact absurd HA.out (by simp [pinfoldref26_Reach.l0])
    | succ k1 =>
     have H := HA.out
     clear HA
     simp only [pinfoldref26_Reach.l0] at H
     by_cases c9 : x14_1 < (y243.length : Int)
     ·rw [if_pos c9] at H
      have c9b0 : decide (x14_1 < (y243.length : Int)) = true := decide_eq_true c9
      have c9b9 := c9b0
      (try simp only [hl3_1] at c9b9)
      clear c9
      by_cases c10 : 0 ≤ x14_1
      ·rw [if_pos c10] at H
       have c10b0 : decide (0 ≤ x14_1) = true := decide_eq_true c10
       clear c10
       by_cases c11 : x14_1 < (x3_1.length : Int)
       ·rw [if_pos c11] at H
        have c11b0 : decide (x14_1 < (x3_1.length : Int)) = true := decide_eq_true c11
        have c11b9 := c11b0
        (try simp only [hl3_1] at c11b9)
        clear c11
        obtain ⟨y246, hy246⟩ : ∃ y_ : List Bool, y_ = (x3_1.set (x14_1 : Int).toNat (x14_1 == 0)) := ⟨_, rfl⟩
        replace H : (pinfoldref26_Reach.l0 k1 y246 (y243.length : Int) (wrap64 (x14_1 + 1)) a0_0 l0_1) = some r := by first|(rw [hy246];with_reducible exact H)|(have H2_ := (Option.bind_some _ _).symm.trans H;rw [hy246];with_reducible exact H2_)|(have H2_ := (Option.bind_some _ _).symm.trans H;with_reducible exact H2_)|with_reducible exact H|(rw [hy246];exact H)|exact H
        have Ny246 := Aside0.mk hy246
        clear hy246
        have H' := Aside0.mk H
        clear H
        have p12 : 0 ≤ (x14_1 : Int) := of_decide_eq_true (by assumption)
        have q12 : (x14_1 : Int) < ((x3_1.length : Int) : Int) := of_decide_eq_true (by assumption)
        obtain ⟨go12, co12, eo12, gb12, gl12, cl12, HG12⟩ := Kd.R_form HO_3.out (by omega)
        (first|cases eo12|(injection eo12 with ea_ en_ ec_;(first|subst ea_|(injection ea_ with ea_;subst ea_));subst ec_;clear en_))
        have GB12 := Aside0.mk gb12
        have GG12 := Aside0.mk HG12
        clear gb12 gl12 HG12
        obtain ⟨hx12_0, hf12_0⟩ := Kd.R_celln false HO_3.out (x14_1 : Int) p12 q12
        replace p12 := eq_true p12
        replace q12 := eq_true q12
        have HP13 := Kd.R_putg HO_3.out (x14_1 : Int) (x14_1 == 0)
        go_wp2_with (first|((with_reducible refine gate_store (t := 4) (p := 21) rfl ?_);refine store_event (t := 4) (p := 21) (v := ?vo_w14) (w1 := (wr.setCell ⟨go12, (x14_1 : Int).toNat, none⟩ (.bool (x14_1 == 0)))) ?hg ?ho ?hn ?hr ?_;(case ho => rfl);(case hg => rfl);(case hn => rfl);(case hr => first|(go_simp;done)|(go_simp;rfl));intro w14 hw;have hg : wr.grownBy w14 (some go12) := (by rw [hw];exact HP13.2);have hp_ : Kd.R Kd.bool 4 w14 w.heap.size (fun _ => True) (.slice (some ⟨go12, 0, none⟩) x3_1.length co8) y246 := (by rw [hw, Ny246.out];exact HP13.1);clear HP13;have n0_ := Aside0.mk (hp_);have n1_ := Aside0.mk (blk_grown (g := gb242) (o := .cells #[.int .i64 a0_0, .slice A0_1 l0_1.length c0_1] 24 (0, 0)) (by (with_reducible repeat (first|apply blk_drewN|apply blk_drew|apply blk_alloc));exact BK242.out) hg (Kd.R_ne HO_3.out BK242.out (by decide)));have n2_ := Aside0.mk ((by rw [hw];exact below_set (HB.out) GB12.out : Below w.heap.size w w14));clear HO_3;clear BK242;clear HB;have HO_3 := n0_;have BK242 := n1_;have HB := n2_;clear n0_ n1_ n2_;clear hg hw hp_))
        (try simp only [← hl3_1])
        (try simp only [px_add0] at *)
        go_roundg k1
        case measure => have := HK1.out;omega
        case rel => exact ⟨(y246), (wrap64 (x14_1 + 1)), (by first|rfl|(simp;done)|(simp [*];done)), H', ⟨by have := HK1.out;omega⟩, ⟨by (try simp only [hl3_1]);(with_reducible repeat (first|apply Kd.R_alloc|apply Kd.R_drewN|apply Kd.R_drew));exact HO_3.out⟩, ⟨by (try simp only [hl3_1]);(with_reducible repeat (first|apply blk_drewN|apply blk_drew|apply blk_alloc));exact BK242.out⟩, ⟨by repeat (first|(with_reducible first|exact HB.out|apply xa|apply xb|apply xc|refine below_set ?_ GE242.out)|exact HB.out)⟩⟩
       ·rw [if_neg c11] at H
        exact absurd H (by simp)
      ·rw [if_neg c10] at H
       exact absurd H (by simp)
     ·rw [if_neg c9] at H
      have c9b0 : decide (x14_1 < (y243.length : Int)) = false := decide_eq_false c9
      have c9b9 := c9b0
      (try simp only [hl3_1] at c9b9)
      clear c9
      have H' := Aside0.mk H
      clear H
      go_wp2
      go_loopg [5] k1 (fun kq v5 w' => ∃ (x3_2 : List Bool) (x5_2 : Bool), v5 = .bool x5_2 ∧ Aside0 (pinfoldref26_Reach.l1 kq x3_2 x5_2 a0_0 l0_1 = some r) ∧ Aside0 (kq ≤ k1) ∧ Aside0 (Kd.R Kd.bool 4 w' w.heap.size (fun _ => True) (.slice Ao8 x3_1.length co8) x3_2) ∧ Aside0 (w'.heap[gb242]? = some (.cells #[.int .i64 a0_0, (.slice A0_1 l0_1.length c0_1)] 24 (0, 0))) ∧ Aside0 (Below w.heap.size w w'))
      case atStart => exact ⟨(x3_1), (true), (by first|rfl|(simp;done)|(simp [*];done)), H', ⟨Nat.le_refl _⟩, ⟨by (try simp only [hl3_1]);(with_reducible repeat (first|apply Kd.R_alloc|apply Kd.R_drewN|apply Kd.R_drew));exact HO_3.out⟩, ⟨by (try simp only [hl3_1]);(with_reducible repeat (first|apply blk_drewN|apply blk_drew|apply blk_alloc));exact BK242.out⟩, ⟨by repeat (first|(with_reducible first|exact HB.out|apply xa|apply xb|apply xc|refine below_set ?_ GE242.out)|exact HB.out)⟩⟩
      case round =>
       clear H'
       try clear c1
       try clear p1
       try clear q1
       try clear hx1
       try clear hf1
       try clear c2
       try clear c2b0
       try clear c2b1
       try clear p2
       try clear c3
       try clear c3b0
       try clear c3b1
       try clear p6
       try clear c9
       try clear c9b0
       try clear c10
       try clear c10b0
       try clear c11
       try clear c11b0
       try clear p12
       try clear q12
       try clear hx12
       try clear hf12
       try clear hcz5_0
       try clear hcz5_1
       try clear hfz5_0
       try clear hfz5_1
       try clear hx12_0
       try clear p12
       try clear p2
       try clear q12
       obtain ⟨x3_2, x5_2, rfl, HA, HK2, HO_3, BK242, HB⟩ := hrel
       have hl3_2 := (Kd.R_reads' HO_3.out).1
       rw [hl3_2] at HO_3
       (try simp only [hl3_2])
       (try simp only [hl3_2] at BK242)
       cases gk with
       | zero => exact absurd HA.out (by simp [pinfoldref26_Reach.l1])
       | succ k2 =>
        have H := HA.out
        clear HA
        simp only [pinfoldref26_Reach.l1] at H
        by_cases c15 : x5_2 = true
        ·subst c15
         have H1 : (pinfoldref26_Reach.l2 k2 x3_2 false (x3_2.length : Int) 0 a0_0 l0_1) = some r := by rw [if_pos rfl] at H;exact H
         clear H
         have H := H1
         clear H1
         have H' := Aside0.mk H
         clear H
         go_wp2
         go_loopg [5, 26] k2 (fun kq v5 v26 w' => ∃ (x3_3 : List Bool) (x5_3 : Bool) (x26_3 : Int), v5 = .bool x5_3 ∧ v26 = .int .i64 x26_3 ∧ Aside0 (pinfoldref26_Reach.l2 kq x3_3 x5_3 (x3_2.length : Int) x26_3 a0_0 l0_1 = some r) ∧ Aside0 (kq ≤ k2) ∧ Aside0 (Kd.R Kd.bool 4 w' w.heap.size (fun _ => True) (.slice Ao8 x3_2.length co8) x3_3) ∧ Aside0 (w'.heap[gb242]? = some (.cells #[.int .i64 a0_0, (.slice A0_1 l0_1.length c0_1)] 24 (0, 0))) ∧ Aside0 (Below w.heap.size w w'))
         case atStart => exact ⟨(x3_2), (false), (0), (by first|rfl|(simp;done)|(simp [*];done)), (by first|rfl|(simp;done)|(simp [*];done)), H', ⟨Nat.le_refl _⟩, ⟨by (try simp only [hl3_1]);(try simp only [hl3_2]);(with_reducible repeat (first|apply Kd.R_alloc|apply Kd.R_drewN|apply Kd.R_drew));exact HO_3.out⟩, ⟨by (try simp only [hl3_1]);(try simp only [hl3_2]);(with_reducible repeat (first|apply blk_drewN|apply blk_drew|apply blk_alloc));exact BK242.out⟩, ⟨by repeat (first|(with_reducible first|exact HB.out|apply xa|apply xb|apply xc|refine below_set ?_ GE242.out)|exact HB.out)⟩⟩
         case round =>
          clear H'
          try clear c1
          try clear p1
          try clear q1
          try clear hx1
          try clear hf1
          try clear c2
          try clear c2b0
          try clear c2b1
          try clear p2
          try clear c3
          try clear c3b0
          try clear c3b1
          try clear p6
          try clear c9
          try clear c9b0
          try clear c10
          try clear c10b0
          try clear c11
          try clear c11b0
          try clear p12
          try clear q12
          try clear hx12
          try clear hf12
          try clear c15
          try clear hcz5_0
          try clear hcz5_1
          try clear hfz5_0
          try clear hfz5_1
          try clear hx12_0
          try clear p1
          try clear p12
          try clear p2
          try clear p6
          try clear q1
          try clear q12
          obtain ⟨x3_3, x5_3, x26_3, rfl, rfl, HA, HK3, HO_3, BK242, HB⟩ := hrel
          have hl3_3 := (Kd.R_reads' HO_3.out).1
          rw [hl3_3] at HO_3
          (try simp only [hl3_3])
          (try simp only [hl3_3] at BK242)
          cases gk with
          | zero => exact absurd HA.out (by simp [pinfoldref26_Reach.l2])
          | succ k3 =>
           have H := HA.out
           clear HA
           simp only [pinfoldref26_Reach.l2] at H
           by_cases c16 : x26_3 < (x3_2.length : Int)
           ·rw [if_pos c16] at H
            have c16b0 : decide (x26_3 < (x3_2.length : Int)) = true := decide_eq_true c16
            have c16b9 := c16b0
            (try simp only [hl3_1] at c16b9)
            (try simp only [hl3_2] at c16b9)
            (try simp only [hl3_3] at c16b9)
            clear c16
            have H' := Aside0.mk H
            clear H
            go_wp2
            go_loopg [5, 31] k3 (fun kq v5 v31 w' => ∃ (x3_4 : List Bool) (x5_4 : Bool) (x31_4 : Int), v5 = .bool x5_4 ∧ v31 = .int .i64 x31_4 ∧ Aside0 (pinfoldref26_Reach.l3 kq x3_4 x5_4 x26_3 (x3_2.length : Int) x26_3 (x3_3.length : Int) x31_4 a0_0 l0_1 = some r) ∧ Aside0 (kq ≤ k3) ∧ Aside0 (Kd.R Kd.bool 4 w' w.heap.size (fun _ => True) (.slice Ao8 x3_3.length co8) x3_4) ∧ Aside0 (w'.heap[gb242]? = some (.cells #[.int .i64 a0_0, (.slice A0_1 l0_1.length c0_1)] 24 (0, 0))) ∧ Aside0 (Below w.heap.size w w'))
            case atStart => exact ⟨(x3_3), (x5_3), (0), (by first|rfl|(simp;done)|(simp [*];done)), (by first|rfl|(simp;done)|(simp [*];done)), H', ⟨Nat.le_refl _⟩, ⟨by (try simp only [hl3_1]);(try simp only [hl3_2]);(try simp only [hl3_3]);(with_reducible repeat (first|apply Kd.R_alloc|apply Kd.R_drewN|apply Kd.R_drew));exact HO_3.out⟩, ⟨by (try simp only [hl3_1]);(try simp only [hl3_2]);(try simp only [hl3_3]);(with_reducible repeat (first|apply blk_drewN|apply blk_drew|apply blk_alloc));exact BK242.out⟩, ⟨by repeat (first|(with_reducible first|exact HB.out|apply xa|apply xb|apply xc|refine below_set ?_ GE242.out)|exact HB.out)⟩⟩
            case round =>
             clear H'
             try clear c1
             try clear p1
             try clear q1
             try clear hx1
             try clear hf1
             try clear c2
             try clear c2b0
             try clear c2b1
             try clear p2
             try clear c3
             try clear c3b0
             try clear c3b1
             try clear p6
             try clear c9
             try clear c9b0
             try clear c10
             try clear c10b0
             try clear c11
             try clear c11b0
             try clear p12
             try clear q12
             try clear hx12
             try clear hf12
             try clear c15
             try clear c16
             try clear c16b0
             try clear hcz5_0
             try clear hcz5_1
             try clear hfz5_0
             try clear hfz5_1
             try clear hx12_0
             try clear p1
             try clear p12
             try clear p2
             try clear p6
             try clear q1
             try clear q12
             obtain ⟨x3_4, x5_4, x31_4, rfl, rfl, HA, HK4, HO_3, BK242, HB⟩ := hrel
             have hl3_4 := (Kd.R_reads' HO_3.out).1
             rw [hl3_4] at HO_3
             (try simp only [hl3_4])
             (try simp only [hl3_4] at BK242)
             cases gk with
             | zero => exact absurd HA.out (by simp [pinfoldref26_Reach.l3])
             | succ k4 =>
              have H := HA.out
              clear HA
              simp only [pinfoldref26_Reach.l3] at H
              by_cases c17 : x31_4 < (x3_3.length : Int)
              ·rw [if_pos c17] at H
               have c17b0 : decide (x31_4 < (x3_3.length : Int)) = true := decide_eq_true c17
               have c17b9 := c17b0
               (try simp only [hl3_1] at c17b9)
               (try simp only [hl3_2] at c17b9)
               (try simp only [hl3_3] at c17b9)
               (try simp only [hl3_4] at c17b9)
               clear c17
               by_cases c18 : 0 ≤ x26_3
               ·rw [if_pos c18] at H
                have c18b0 : decide (0 ≤ x26_3) = true := decide_eq_true c18
                clear c18
                by_cases c19 : x26_3 < (x3_4.length : Int)
                ·rw [if_pos c19] at H
                 have c19b0 : decide (x26_3 < (x3_4.length : Int)) = true := decide_eq_true c19
                 have c19b9 := c19b0
                 (try simp only [hl3_1] at c19b9)
                 (try simp only [hl3_2] at c19b9)
                 (try simp only [hl3_3] at c19b9)
                 (try simp only [hl3_4] at c19b9)
                 clear c19
                 obtain ⟨bq20, hbq20⟩ : ∃ b_ : Bool, b_ = (rdOf false x3_4 x26_3) := ⟨_, rfl⟩
                 replace H : (if bq20 = true then (if 0 ≤ x31_4 then (if x31_4 < (x3_4.length : Int) then (if rdOf false x3_4 x31_4 = true then (pinfoldref26_Reach.l3 k4 x3_4 x5_4 x26_3 (x3_2.length : Int) x26_3 (x3_3.length : Int) (wrap64 (x31_4 + 1)) a0_0 l0_1) else ((pinfoldref26_Goes.f a0_0 l0_1 x26_3 x31_4).bind fun t249 => (if t249 = true then (pinfoldref26_Reach.l3 k4 (x3_4.set (x31_4 : Int).toNat true) true x26_3 (x3_2.length : Int) x26_3 (x3_3.length : Int) (wrap64 (x31_4 + 1)) a0_0 l0_1) else (pinfoldref26_Reach.l3 k4 x3_4 x5_4 x26_3 (x3_2.length : Int) x26_3 (x3_3.length : Int) (wrap64 (x31_4 + 1)) a0_0 l0_1)))) else (none)) else (none)) else (pinfoldref26_Reach.l3 k4 x3_4 x5_4 x26_3 (x3_2.length : Int) x26_3 (x3_3.length : Int) (wrap64 (x31_4 + 1)) a0_0 l0_1)) = some r := by rw [← hbq20] at H;exact H
                 have Nbq20 := Aside0.mk hbq20
                 (try rw [← Nbq20.out] at c17b0)
                 (try rw [← Nbq20.out] at c17b1)
                 (try rw [← Nbq20.out] at c17b2)
                 (try rw [← Nbq20.out] at c17b3)
                 (try rw [← Nbq20.out] at c18b0)
                 (try rw [← Nbq20.out] at c18b1)
                 (try rw [← Nbq20.out] at c18b2)
                 (try rw [← Nbq20.out] at c18b3)
                 (try rw [← Nbq20.out] at c19b0)
                 (try rw [← Nbq20.out] at c19b1)
                 (try rw [← Nbq20.out] at c19b2)
                 (try rw [← Nbq20.out] at c19b3)
                 clear hbq20
                 by_cases c21 : bq20 = true
                 ·subst c21
                  have H1 : (if 0 ≤ x31_4 then (if x31_4 < (x3_4.length : Int) then (if rdOf false x3_4 x31_4 = true then (pinfoldref26_Reach.l3 k4 x3_4 x5_4 x26_3 (x3_2.length : Int) x26_3 (x3_3.length : Int) (wrap64 (x31_4 + 1)) a0_0 l0_1) else ((pinfoldref26_Goes.f a0_0 l0_1 x26_3 x31_4).bind fun t249 => (if t249 = true then (pinfoldref26_Reach.l3 k4 (x3_4.set (x31_4 : Int).toNat true) true x26_3 (x3_2.length : Int) x26_3 (x3_3.length : Int) (wrap64 (x31_4 + 1)) a0_0 l0_1) else (pinfoldref26_Reach.l3 k4 x3_4 x5_4 x26_3 (x3_2.length : Int) x26_3 (x3_3.length : Int) (wrap64 (x31_4 + 1)) a0_0 l0_1)))) else (none)) else (none)) = some r := by rw [if_pos rfl] at H;exact H
                  clear H
                  have H := H1
                  clear H1
                  by_cases c22 : 0 ≤ x31_4
                  ·rw [if_pos c22] at H
                   have c22b0 : decide (0 ≤ x31_4) = true := decide_eq_true c22
                   clear c22
                   by_cases c23 : x31_4 < (x3_4.length : Int)
                   ·rw [if_pos c23] at H
                    have c23b0 : decide (x31_4 < (x3_4.length : Int)) = true := decide_eq_true c23
                    have c23b9 := c23b0
                    (try simp only [hl3_1] at c23b9)
                    (try simp only [hl3_2] at c23b9)
                    (try simp only [hl3_3] at c23b9)
                    (try simp only [hl3_4] at c23b9)
                    clear c23
                    obtain ⟨bq24, hbq24⟩ : ∃ b_ : Bool, b_ = (rdOf false x3_4 x31_4) := ⟨_, rfl⟩
                    replace H : (if bq24 = true then (pinfoldref26_Reach.l3 k4 x3_4 x5_4 x26_3 (x3_2.length : Int) x26_3 (x3_3.length : Int) (wrap64 (x31_4 + 1)) a0_0 l0_1) else ((pinfoldref26_Goes.f a0_0 l0_1 x26_3 x31_4).bind fun t249 => (if t249 = true then (pinfoldref26_Reach.l3 k4 (x3_4.set (x31_4 : Int).toNat true) true x26_3 (x3_2.length : Int) x26_3 (x3_3.length : Int) (wrap64 (x31_4 + 1)) a0_0 l0_1) else (pinfoldref26_Reach.l3 k4 x3_4 x5_4 x26_3 (x3_2.length : Int) x26_3 (x3_3.length : Int) (wrap64 (x31_4 + 1)) a0_0 l0_1)))) = some r := by rw [← hbq24] at H;exact H
                    have Nbq24 := Aside0.mk hbq24
                    (try rw [← Nbq24.out] at c19b0)
                    (try rw [← Nbq24.out] at c19b1)
                    (try rw [← Nbq24.out] at c19b2)
                    (try rw [← Nbq24.out] at c19b3)
                    (try rw [← Nbq24.out] at c22b0)
                    (try rw [← Nbq24.out] at c22b1)
                    (try rw [← Nbq24.out] at c22b2)
                    (try rw [← Nbq24.out] at c22b3)
                    (try rw [← Nbq24.out] at c23b0)
                    (try rw [← Nbq24.out] at c23b1)
                    (try rw [← Nbq24.out] at c23b2)
                    (try rw [← Nbq24.out] at c23b3)
                    clear hbq24
                    by_cases c25 : bq24 = true
                    ·subst c25
                     have H1 : (pinfoldref26_Reach.l3 k4 x3_4 x5_4 x26_3 (x3_2.length : Int) x26_3 (x3_3.length : Int) (wrap64 (x31_4 + 1)) a0_0 l0_1) = some r := by rw [if_pos rfl] at H;exact H
                     clear H
                     have H := H1
                     clear H1
                     have H' := Aside0.mk H
                     clear H
                     have p247 : 0 ≤ (x26_3 : Int) := of_decide_eq_true (by assumption)
                     have q247 : x26_3 < (x3_4.length : Int) := of_decide_eq_true (by assumption)
                     obtain ⟨ad247, e247, hx247_0⟩ := Kd.at_bool (Kd.R_reads' HO_3.out).2.2 x26_3 p247 q247
                     (try rw [← Nbq20.out] at hx247_0)
                     (try rw [← Nbq24.out] at hx247_0)
                     cases e247
                     replace p247 := eq_true p247
                     replace q247 := eq_true q247
                     have p248 : 0 ≤ (x31_4 : Int) := of_decide_eq_true (by assumption)
                     have q248 : x31_4 < (x3_4.length : Int) := of_decide_eq_true (by assumption)
                     obtain ⟨ad248, e248, hx248_0⟩ := Kd.at_bool (Kd.R_reads' HO_3.out).2.2 x31_4 p248 q248
                     (try rw [← Nbq20.out] at hx248_0)
                     (try rw [← Nbq24.out] at hx248_0)
                     obtain rfl : ad247 = ad248 := (by injection e248)
                     replace p248 := eq_true p248
                     replace q248 := eq_true q248
                     go_wp2
                     (try simp only [← hl3_4])
                     (try simp only [px_add0] at *)
                     go_roundg k4
                     case measure => have := HK1.out;have := HK2.out;have := HK3.out;have := HK4.out;omega
                     case rel => exact ⟨(x3_4), (x5_4), (wrap64 (x31_4 + 1)), (by first|rfl|(simp;done)|(simp [*];done)), (by first|rfl|(simp;done)|(simp [*];done)), H', ⟨by have := HK1.out;have := HK2.out;have := HK3.out;have := HK4.out;omega⟩, ⟨by (try simp only [hl3_1]);(try simp only [hl3_2]);(try simp only [hl3_3]);(try simp only [hl3_4]);(with_reducible repeat (first|apply Kd.R_alloc|apply Kd.R_drewN|apply Kd.R_drew));exact HO_3.out⟩, ⟨by (try simp only [hl3_1]);(try simp only [hl3_2]);(try simp only [hl3_3]);(try simp only [hl3_4]);(with_reducible repeat (first|apply blk_drewN|apply blk_drew|apply blk_alloc));exact BK242.out⟩, ⟨by repeat (first|(with_reducible first|exact HB.out|apply xa|apply xb|apply xc|refine below_set ?_ GE242.out)|exact HB.out)⟩⟩
                    ·replace c25 := Bool.eq_false_iff.mpr c25
                     subst c25
                     have H1 : ((pinfoldref26_Goes.f a0_0 l0_1 x26_3 x31_4).bind fun t249 => (if t249 = true then (pinfoldref26_Reach.l3 k4 (x3_4.set (x31_4 : Int).toNat true) true x26_3 (x3_2.length : Int) x26_3 (x3_3.length : Int) (wrap64 (x31_4 + 1)) a0_0 l0_1) else (pinfoldref26_Reach.l3 k4 x3_4 x5_4 x26_3 (x3_2.length : Int) x26_3 (x3_3.length : Int) (wrap64 (x31_4 + 1)) a0_0 l0_1))) = some r := by rw [if_neg (show ¬ (false = true) by decide)] at H;exact H
                     clear H
                     have H := H1
                     clear H1
                     replace H := Option.bind_eq_some_iff.mp H
                     obtain ⟨t249, A260, H⟩ := H
                     replace H : (if t249 = true then (pinfoldref26_Reach.l3 k4 (x3_4.set (x31_4 : Int).toNat true) true x26_3 (x3_2.length : Int) x26_3 (x3_3.length : Int) (wrap64 (x31_4 + 1)) a0_0 l0_1) else (pinfoldref26_Reach.l3 k4 x3_4 x5_4 x26_3 (x3_2.length : Int) x26_3 (x3_3.length : Int) (wrap64 (x31_4 + 1)) a0_0 l0_1)) = some r := H
                     have A26 := Aside0.mk A260
                     clear A260
                     by_cases c27 : t249 = true
                     ·subst c27
                      have H1 : (pinfoldref26_Reach.l3 k4 (x3_4.set (x31_4 : Int).toNat true) true x26_3 (x3_2.length : Int) x26_3 (x3_3.length : Int) (wrap64 (x31_4 + 1)) a0_0 l0_1) = some r := by rw [if_pos rfl] at H;exact H
                      clear H
                      have H := H1
                      clear H1
                      obtain ⟨y250, hy250⟩ : ∃ y_ : List Bool, y_ = (x3_4.set (x31_4 : Int).toNat true) := ⟨_, rfl⟩
                      replace H : (pinfoldref26_Reach.l3 k4 y250 true x26_3 (x3_2.length : Int) x26_3 (x3_3.length : Int) (wrap64 (x31_4 + 1)) a0_0 l0_1) = some r := by first|(rw [hy250];with_reducible exact H)|(have H2_ := (Option.bind_some _ _).symm.trans H;rw [hy250];with_reducible exact H2_)|(have H2_ := (Option.bind_some _ _).symm.trans H;with_reducible exact H2_)|with_reducible exact H|(rw [hy250];exact H)|exact H
                      have Ny250 := Aside0.mk hy250
                      clear hy250
                      have H' := Aside0.mk H
                      clear H
                      have p247 : 0 ≤ (x26_3 : Int) := of_decide_eq_true (by assumption)
                      have q247 : x26_3 < (x3_4.length : Int) := of_decide_eq_true (by assumption)
                      obtain ⟨ad247, e247, hx247_0⟩ := Kd.at_bool (Kd.R_reads' HO_3.out).2.2 x26_3 p247 q247
                      (try rw [← Nbq20.out] at hx247_0)
                      (try rw [← Nbq24.out] at hx247_0)
                      cases e247
                      replace p247 := eq_true p247
                      replace q247 := eq_true q247
                      have p248 : 0 ≤ (x31_4 : Int) := of_decide_eq_true (by assumption)
                      have q248 : x31_4 < (x3_4.length : Int) := of_decide_eq_true (by assumption)
                      obtain ⟨ad248, e248, hx248_0⟩ := Kd.at_bool (Kd.R_reads' HO_3.out).2.2 x31_4 p248 q248
                      (try rw [← Nbq20.out] at hx248_0)
                      (try rw [← Nbq24.out] at hx248_0)
                      obtain rfl : ad247 = ad248 := (by injection e248)
                      replace p248 := eq_true p248
                      replace q248 := eq_true q248
                      have hcz29_0 : wr.cell? ⟨gb242, 0, none⟩ = some (.int .i64 a0_0) := (blk_cell BK242.out 0).trans rfl
                      have hcz29_1 : wr.cell? ⟨gb242, 1, none⟩ = some (.slice A0_1 l0_1.length c0_1) := (blk_cell BK242.out 1).trans rfl
                      have hfz29_0 := blk_frozen BK242.out 0
                      have hfz29_1 := blk_frozen BK242.out 1
                      go_wp2_with (first|(go_at_call 17;(with_reducible refine (pinfoldref26_Goes.calls a0_0 _ _ l0_1 x26_3 x31_4 true _ ?side1 ?side2 A26.out).mono ?_);(case side1 => repeat (first|exact (Kd.C_below HR0_1.out HB.out)|(with_reducible refine Kd.C_alloc ?_ _)|(with_reducible refine Kd.C_drewN ?_ _)|(with_reducible refine Kd.C_drew ?_)));(case side2 => exact HC0_1.out);rintro e w30 ⟨rfl, hb⟩;have n0_ := Aside0.mk (Kd.R_below (by (with_reducible repeat (first|apply Kd.R_alloc|apply Kd.R_drewN|apply Kd.R_drew));exact HO_3.out) hb);have n1_ := Aside0.mk (blk_below (g := gb242) (o := .cells #[.int .i64 a0_0, .slice A0_1 l0_1.length c0_1] 24 (0, 0)) (by (with_reducible repeat (first|apply blk_drewN|apply blk_drew|apply blk_alloc));exact BK242.out) hb);have n2_ := Aside0.mk (below_step (by repeat (first|(with_reducible first|exact HB.out|apply xa|apply xb|apply xc|refine below_set ?_ GE242.out)|exact HB.out)) hb);clear HO_3;clear BK242;clear HB;have HO_3 := n0_;have BK242 := n1_;have HB := n2_;clear n0_ n1_ n2_;(try clear hb);(try clear hb2);(try clear hk);(try clear hi);have p28 : 0 ≤ (x31_4 : Int) := of_decide_eq_true (by assumption);have q28 : (x31_4 : Int) < ((x3_4.length : Int) : Int) := of_decide_eq_true (by assumption);obtain ⟨go28, co28, eo28, gb28, gl28, cl28, HG28⟩ := Kd.R_form HO_3.out (by omega);(first|cases eo28|(injection eo28 with ea_ en_ ec_;(first|subst ea_|(injection ea_ with ea_;subst ea_));subst ec_;clear en_));have GB28 := Aside0.mk gb28;have GG28 := Aside0.mk HG28;clear gb28 gl28 HG28;(first|simp only [add_plain] at hx247_0|skip);(first|simp only [add_plain] at hx248_0|skip);obtain ⟨hx28_0, hf28_0⟩ := Kd.R_celln false HO_3.out (x31_4 : Int) p28 q28;replace p28 := eq_true p28;replace q28 := eq_true q28;obtain ⟨hy31_, hz31_⟩ := Kd.R_celln false HO_3.out (x31_4 : Int) (of_decide_eq_true (by assumption)) (of_decide_eq_true (by assumption));have HP31 := Kd.R_putg HO_3.out (x31_4 : Int) true)|((with_reducible refine gate_store (t := 4) (p := 53) rfl ?_);refine store_event (t := 4) (p := 53) (v := ?vo_w32) (w1 := (w30.setCell ⟨go28, (x31_4 : Int).toNat, none⟩ (.bool true))) ?hg ?ho ?hn ?hr ?_;(case ho => rfl);(case hg => rfl);(case hn => rfl);(case hr => first|(go_simp;done)|(go_simp;rfl));intro w32 hw;have hg : w30.grownBy w32 (some go28) := (by rw [hw];exact HP31.2);have hp_ : Kd.R Kd.bool 4 w32 w.heap.size (fun _ => True) (.slice (some ⟨go28, 0, none⟩) x3_4.length co8) y250 := (by rw [hw, Ny250.out];exact HP31.1);clear HP31;have n0_ := Aside0.mk (hp_);have n1_ := Aside0.mk (blk_grown (g := gb242) (o := .cells #[.int .i64 a0_0, .slice A0_1 l0_1.length c0_1] 24 (0, 0)) (by (with_reducible repeat (first|apply blk_drewN|apply blk_drew|apply blk_alloc));exact BK242.out) hg (Kd.R_ne HO_3.out BK242.out (by decide)));have n2_ := Aside0.mk ((by rw [hw];exact below_set (HB.out) GB28.out : Below w.heap.size w w32));clear HO_3;clear BK242;clear HB;have HO_3 := n0_;have BK242 := n1_;have HB := n2_;clear n0_ n1_ n2_;clear hg hw hp_))
                      (try simp only [← hl3_4])
                      (try simp only [px_add0] at *)
                      go_roundg k4
                      case measure => have := HK1.out;have := HK2.out;have := HK3.out;have := HK4.out;omega
                      case rel => exact ⟨(y250), (true), (wrap64 (x31_4 + 1)), (by first|rfl|(simp;done)|(simp [*];done)), (by first|rfl|(simp;done)|(simp [*];done)), H', ⟨by have := HK1.out;have := HK2.out;have := HK3.out;have := HK4.out;omega⟩, ⟨by (try simp only [hl3_1]);(try simp only [hl3_2]);(try simp only [hl3_3]);(try simp only [hl3_4]);(with_reducible repeat (first|apply Kd.R_alloc|apply Kd.R_drewN|apply Kd.R_drew));exact HO_3.out⟩, ⟨by (try simp only [hl3_1]);(try simp only [hl3_2]);(try simp only [hl3_3]);(try simp only [hl3_4]);(with_reducible repeat (first|apply blk_drewN|apply blk_drew|apply blk_alloc));exact BK242.out⟩, ⟨by repeat (first|(with_reducible first|exact HB.out|apply xa|apply xb|apply xc|refine below_set ?_ GE242.out)|exact HB.out)⟩⟩
                     ·replace c27 := Bool.eq_false_iff.mpr c27
                      subst c27
                      have H1 : (pinfoldref26_Reach.l3 k4 x3_4 x5_4 x26_3 (x3_2.length : Int) x26_3 (x3_3.length : Int) (wrap64 (x31_4 + 1)) a0_0 l0_1) = some r := by rw [if_neg (show ¬ (false = true) by decide)] at H;exact H
                      clear H
                      have H := H1
                      clear H1
                      have H' := Aside0.mk H
                      clear H
                      have p247 : 0 ≤ (x26_3 : Int) := of_decide_eq_true (by assumption)
                      have q247 : x26_3 < (x3_4.length : Int) := of_decide_eq_true (by assumption)
                      obtain ⟨ad247, e247, hx247_0⟩ := Kd.at_bool (Kd.R_reads' HO_3.out).2.2 x26_3 p247 q247
                      (try rw [← Nbq20.out] at hx247_0)
                      (try rw [← Nbq24.out] at hx247_0)
                      cases e247
                      replace p247 := eq_true p247
                      replace q247 := eq_true q247
                      have p248 : 0 ≤ (x31_4 : Int) := of_decide_eq_true (by assumption)
                      have q248 : x31_4 < (x3_4.length : Int) := of_decide_eq_true (by assumption)
                      obtain ⟨ad248, e248, hx248_0⟩ := Kd.at_bool (Kd.R_reads' HO_3.out).2.2 x31_4 p248 q248
                      (try rw [← Nbq20.out] at hx248_0)
                      (try rw [← Nbq24.out] at hx248_0)
                      obtain rfl : ad247 = ad248 := (by injection e248)
                      replace p248 := eq_true p248
                      replace q248 := eq_true q248
                      have hcz33_0 : wr.cell? ⟨gb242, 0, none⟩ = some (.int .i64 a0_0) := (blk_cell BK242.out 0).trans rfl
                      have hcz33_1 : wr.cell? ⟨gb242, 1, none⟩ = some (.slice A0_1 l0_1.length c0_1) := (blk_cell BK242.out 1).trans rfl
                      have hfz33_0 := blk_frozen BK242.out 0
                      have hfz33_1 := blk_frozen BK242.out 1
                      go_wp2_with (first|(go_at_call 17;(with_reducible refine (pinfoldref26_Goes.calls a0_0 _ _ l0_1 x26_3 x31_4 false _ ?side1 ?side2 A26.out).mono ?_);(case side1 => repeat (first|exact (Kd.C_below HR0_1.out HB.out)|(with_reducible refine Kd.C_alloc ?_ _)|(with_reducible refine Kd.C_drewN ?_ _)|(with_reducible refine Kd.C_drew ?_)));(case side2 => exact HC0_1.out);rintro e w34 ⟨rfl, hb⟩;have n0_ := Aside0.mk (Kd.R_below (by (with_reducible repeat (first|apply Kd.R_alloc|apply Kd.R_drewN|apply Kd.R_drew));exact HO_3.out) hb);have n1_ := Aside0.mk (blk_below (g := gb242) (o := .cells #[.int .i64 a0_0, .slice A0_1 l0_1.length c0_1] 24 (0, 0)) (by (with_reducible repeat (first|apply blk_drewN|apply blk_drew|apply blk_alloc));exact BK242.out) hb);have n2_ := Aside0.mk (below_step (by repeat (first|(with_reducible first|exact HB.out|apply xa|apply xb|apply xc|refine below_set ?_ GE242.out)|exact HB.out)) hb);clear HO_3;clear BK242;clear HB;have HO_3 := n0_;have BK242 := n1_;have HB := n2_;clear n0_ n1_ n2_;(try clear hb);(try clear hb2);(try clear hk);(try clear hi)))
                      (try simp only [← hl3_4])
                      (try simp only [px_add0] at *)
                      go_roundg k4
                      case measure => have := HK1.out;have := HK2.out;have := HK3.out;have := HK4.out;omega
                      case rel => exact ⟨(x3_4), (x5_4), (wrap64 (x31_4 + 1)), (by first|rfl|(simp;done)|(simp [*];done)), (by first|rfl|(simp;done)|(simp [*];done)), H', ⟨by have := HK1.out;have := HK2.out;have := HK3.out;have := HK4.out;omega⟩, ⟨by (try simp only [hl3_1]);(try simp only [hl3_2]);(try simp only [hl3_3]);(try simp only [hl3_4]);(with_reducible repeat (first|apply Kd.R_alloc|apply Kd.R_drewN|apply Kd.R_drew));exact HO_3.out⟩, ⟨by (try simp only [hl3_1]);(try simp only [hl3_2]);(try simp only [hl3_3]);(try simp only [hl3_4]);(with_reducible repeat (first|apply blk_drewN|apply blk_drew|apply blk_alloc));exact BK242.out⟩, ⟨by repeat (first|(with_reducible first|exact HB.out|apply xa|apply xb|apply xc|refine below_set ?_ GE242.out)|exact HB.out)⟩⟩
                   ·rw [if_neg c23] at H
                    exact absurd H (by simp)
                  ·rw [if_neg c22] at H
                   exact absurd H (by simp)
                 ·replace c21 := Bool.eq_false_iff.mpr c21
                  subst c21
                  have H1 : (pinfoldref26_Reach.l3 k4 x3_4 x5_4 x26_3 (x3_2.length : Int) x26_3 (x3_3.length : Int) (wrap64 (x31_4 + 1)) a0_0 l0_1) = some r := by rw [if_neg (show ¬ (false = true) by decide)] at H;exact H
                  clear H
                  have H := H1
                  clear H1
                  have H' := Aside0.mk H
                  clear H
                  have p247 : 0 ≤ (x26_3 : Int) := of_decide_eq_true (by assumption)
                  have q247 : x26_3 < (x3_4.length : Int) := of_decide_eq_true (by assumption)
                  obtain ⟨ad247, e247, hx247_0⟩ := Kd.at_bool (Kd.R_reads' HO_3.out).2.2 x26_3 p247 q247
                  (try rw [← Nbq20.out] at hx247_0)
                  cases e247
                  replace p247 := eq_true p247
                  replace q247 := eq_true q247
                  go_wp2
                  (try simp only [← hl3_4])
                  (try simp only [px_add0] at *)
                  go_roundg k4
                  case measure => have := HK1.out;have := HK2.out;have := HK3.out;have := HK4.out;omega
                  case rel => exact ⟨(x3_4), (x5_4), (wrap64 (x31_4 + 1)), (by first|rfl|(simp;done)|(simp [*];done)), (by first|rfl|(simp;done)|(simp [*];done)), H', ⟨by have := HK1.out;have := HK2.out;have := HK3.out;have := HK4.out;omega⟩, ⟨by (try simp only [hl3_1]);(try simp only [hl3_2]);(try simp only [hl3_3]);(try simp only [hl3_4]);(with_reducible repeat (first|apply Kd.R_alloc|apply Kd.R_drewN|apply Kd.R_drew));exact HO_3.out⟩, ⟨by (try simp only [hl3_1]);(try simp only [hl3_2]);(try simp only [hl3_3]);(try simp only [hl3_4]);(with_reducible repeat (first|apply blk_drewN|apply blk_drew|apply blk_alloc));exact BK242.out⟩, ⟨by repeat (first|(with_reducible first|exact HB.out|apply xa|apply xb|apply xc|refine below_set ?_ GE242.out)|exact HB.out)⟩⟩
                ·rw [if_neg c19] at H
                 exact absurd H (by simp)
               ·rw [if_neg c18] at H
                exact absurd H (by simp)
              ·rw [if_neg c17] at H
               have c17b0 : decide (x31_4 < (x3_3.length : Int)) = false := decide_eq_false c17
               have c17b9 := c17b0
               (try simp only [hl3_1] at c17b9)
               (try simp only [hl3_2] at c17b9)
               (try simp only [hl3_3] at c17b9)
               (try simp only [hl3_4] at c17b9)
               clear c17
               have H' := Aside0.mk H
               clear H
               go_wp2
               (try simp only [← hl3_3, ← hl3_4])
               (try simp only [px_add0] at *)
               go_roundg k4
               case measure => have := HK1.out;have := HK2.out;have := HK3.out;have := HK4.out;omega
               case rel => exact ⟨(x3_4), (x5_4), (wrap64 (x26_3 + 1)), (by first|rfl|(simp;done)|(simp [*];done)), (by first|rfl|(simp;done)|(simp [*];done)), H', ⟨by have := HK1.out;have := HK2.out;have := HK3.out;have := HK4.out;omega⟩, ⟨by (try simp only [hl3_1]);(try simp only [hl3_2]);(try simp only [hl3_3]);(try simp only [hl3_4]);(with_reducible repeat (first|apply Kd.R_alloc|apply Kd.R_drewN|apply Kd.R_drew));exact HO_3.out⟩, ⟨by (try simp only [hl3_1]);(try simp only [hl3_2]);(try simp only [hl3_3]);(try simp only [hl3_4]);(with_reducible repeat (first|apply blk_drewN|apply blk_drew|apply blk_alloc));exact BK242.out⟩, ⟨by repeat (first|(with_reducible first|exact HB.out|apply xa|apply xb|apply xc|refine below_set ?_ GE242.out)|exact HB.out)⟩⟩
           ·rw [if_neg c16] at H
            have c16b0 : decide (x26_3 < (x3_2.length : Int)) = false := decide_eq_false c16
            have c16b9 := c16b0
            (try simp only [hl3_1] at c16b9)
            (try simp only [hl3_2] at c16b9)
            (try simp only [hl3_3] at c16b9)
            clear c16
            have H' := Aside0.mk H
            clear H
            go_wp2
            (try simp only [← hl3_2, ← hl3_3])
            (try simp only [px_add0] at *)
            go_roundg k3
            case measure => have := HK1.out;have := HK2.out;have := HK3.out;omega
            case rel => exact ⟨(x3_3), (x5_3), (by first|rfl|(simp;done)|(simp [*];done)), H', ⟨by have := HK1.out;have := HK2.out;have := HK3.out;omega⟩, ⟨by (try simp only [hl3_1]);(try simp only [hl3_2]);(try simp only [hl3_3]);(with_reducible repeat (first|apply Kd.R_alloc|apply Kd.R_drewN|apply Kd.R_drew));exact HO_3.out⟩, ⟨by (try simp only [hl3_1]);(try simp only [hl3_2]);(try simp only [hl3_3]);(with_reducible repeat (first|apply blk_drewN|apply blk_drew|apply blk_alloc));exact BK242.out⟩, ⟨by repeat (first|(with_reducible first|exact HB.out|apply xa|apply xb|apply xc|refine below_set ?_ GE242.out)|exact HB.out)⟩⟩
        ·replace c15 := Bool.eq_false_iff.mpr c15
         subst c15
         have H1 : (some x3_2) = some r := by rw [if_neg (show ¬ (false = true) by decide)] at H;exact H
         clear H
         have H := H1
         clear H1
         obtain rfl := Option.some.inj H
         go_wp2
         go_ret
         exact ⟨_, by first|rfl|(simp [errW_none, errW_some] <;> rfl)|(simp [*, errW_none, errW_some] <;> rfl), by (with_reducible repeat (first|apply Kd.R_alloc|apply Kd.R_drewN|apply Kd.R_drew));exact HO_3.out, by repeat (first|(with_reducible first|exact HB.out|apply xa|apply xb|apply xc|refine below_set ?_ GE242.out)|exact HB.out)⟩
  ·rw [if_neg c3] at H
   exact absurd H (by simp)
 ·rw [if_neg c2] at H
  exact absurd H (by simp)

end Go.Proofs.Ytgiimdoabkcoaaa.PLint
