/- Functions of the program as Lean functions, and proofs that the code comes to their answers: printed by this session's program. -/
import Derived.Test.YtkegdcnnankokaaPGanx0
namespace Go.Proofs.Ytkegdcnnankokaa.PGan
open Go.RowKit Go.Proofs.YtkegdcnnankokaaW.PrintWords Go.Proofs.YtkegdcnnankokaaW.PrintLast Go.Proofs.YtkegdcnnankokaaW.PrintMore
attribute [local go_sem] max2_int min2_int max_two min_two max_three min_three max_four min_four   -- for this text's walks alone
set_option linter.unusedVariables false
set_option linter.unusedSimpArgs false

/-! ### gantt_Waited: function 25 -/
mutual
def gantt_Waited.l0 : Nat → List (S36) → Int → Int → Int → List (S36) → Int → Int → Option (Int)
 | 0, _, _, _, _, _, _, _ => none
 | k + 1, x0, x1, x4, x5, x8, x9, x10 => if x10 < x9 then (if 0 ≤ x10 then (if x10 < (x8.length : Int) then (if ((rd_T36 x8 x10).f1) = x1 then (if ((rd_T36 x8 x10).f0) = 5 then (if x5 < 0 then (gantt_Waited.l0 k x0 x1 x4 x10 x8 x9 (wrap64 (x10 + 1))) else (gantt_Waited.l0 k x0 x1 x4 x5 x8 x9 (wrap64 (x10 + 1)))) else (if ((rd_T36 x8 x10).f0) = 2 then (gantt_Waited.j1 k x0 x1 x4 x5 x10 x8 x9 x10 (((rd_T36 x8 x10).f0) == 2)) else (if ((rd_T36 x8 x10).f0) = 7 then (gantt_Waited.j1 k x0 x1 x4 x5 x10 x8 x9 x10 (((rd_T36 x8 x10).f0) == 7)) else (gantt_Waited.j1 k x0 x1 x4 x5 x10 x8 x9 x10 (((rd_T36 x8 x10).f0) == 6))))) else (gantt_Waited.l0 k x0 x1 x4 x5 x8 x9 (wrap64 (x10 + 1)))) else (none)) else (none)) else (if x5 ≥ 0 then (some (wrap64 (x4 + (wrap64 ((wrap64 ((x0.length : Int) - x5)) - 1))))) else (some x4))
def gantt_Waited.j1 : Nat → List (S36) → Int → Int → Int → Int → List (S36) → Int → Int → Bool → Option (Int)
 | 0, _, _, _, _, _, _, _, _, _ => none
 | k + 1, x0, x1, x4, x5, x6, x8, x9, x10, x26 => if x26 = true then (if x5 ≥ 0 then (gantt_Waited.l0 k x0 x1 (wrap64 (x4 + (wrap64 ((wrap64 (x6 - x5)) - 1)))) (-1) x8 x9 (wrap64 (x10 + 1))) else (gantt_Waited.l0 k x0 x1 x4 (-1) x8 x9 (wrap64 (x10 + 1)))) else (gantt_Waited.l0 k x0 x1 x4 x5 x8 x9 (wrap64 (x10 + 1)))
end
def gantt_Waited.f (k : Nat) (l0 : List (S36)) (a1 : Int) : Option (Int) := gantt_Waited.l0 k l0 a1 0 (-1) l0 (l0.length : Int) 0
theorem gantt_Waited.mono_l : ∀ k, (∀ y0 y1 y2 y3 y4 y5 y6, LeO (gantt_Waited.l0 k y0 y1 y2 y3 y4 y5 y6) (gantt_Waited.l0 (k + 1) y0 y1 y2 y3 y4 y5 y6)) ∧ (∀ y0 y1 y2 y3 y4 y5 y6 y7 y8, LeO (gantt_Waited.j1 k y0 y1 y2 y3 y4 y5 y6 y7 y8) (gantt_Waited.j1 (k + 1) y0 y1 y2 y3 y4 y5 y6 y7 y8))
 | 0 => ⟨fun _ _ _ _ _ _ _ r h => by simp [gantt_Waited.l0] at h, fun _ _ _ _ _ _ _ _ _ r h => by simp [gantt_Waited.j1] at h⟩
 | k + 1 => by
  obtain ⟨ih0, ih1⟩ := gantt_Waited.mono_l k
  refine ⟨?_, ?_⟩
  ·intro y0 y1 y2 y3 y4 y5 y6
   unfold gantt_Waited.l0
   repeat' first
   | (with_reducible exact ih0 _ _ _ _ _ _ _)
   | (with_reducible exact ih1 _ _ _ _ _ _ _ _ _)
   | (with_reducible exact LeO.refl _)
   | (with_reducible exact LeO.none _)
   | (with_reducible refine LeO.ite ?_ ?_)
   | (with_reducible refine LeO.bind ?_ (fun _ => ?_))
   | exact ih0 _ _ _ _ _ _ _
   | exact ih1 _ _ _ _ _ _ _ _ _
   | exact LeO.none _
   | refine LeO.ite ?_ ?_
   | refine LeO.bind ?_ (fun _ => ?_)
  ·intro y0 y1 y2 y3 y4 y5 y6 y7 y8
   unfold gantt_Waited.j1
   repeat' first
   | (with_reducible exact ih0 _ _ _ _ _ _ _)
   | (with_reducible exact ih1 _ _ _ _ _ _ _ _ _)
   | (with_reducible exact LeO.refl _)
   | (with_reducible exact LeO.none _)
   | (with_reducible refine LeO.ite ?_ ?_)
   | (with_reducible refine LeO.bind ?_ (fun _ => ?_))
   | exact ih0 _ _ _ _ _ _ _
   | exact ih1 _ _ _ _ _ _ _ _ _
   | exact LeO.none _
   | refine LeO.ite ?_ ?_
   | refine LeO.bind ?_ (fun _ => ?_)
theorem gantt_Waited.mono : ∀ a0 a1 k, LeO (gantt_Waited.f k a0 a1) (gantt_Waited.f (k + 1) a0 a1) := by
 intro a0 a1 k
 obtain ⟨ih0, ih1⟩ := gantt_Waited.mono_l k
 unfold gantt_Waited.f
 repeat' first
   | (with_reducible exact ih0 _ _ _ _ _ _ _)
   | (with_reducible exact ih1 _ _ _ _ _ _ _ _ _)
   | (with_reducible exact LeO.refl _)
   | (with_reducible exact LeO.none _)
   | (with_reducible refine LeO.ite ?_ ?_)
   | (with_reducible refine LeO.bind ?_ (fun _ => ?_))
   | exact ih0 _ _ _ _ _ _ _
   | exact ih1 _ _ _ _ _ _ _ _ _
   | exact LeO.none _
   | refine LeO.ite ?_ ?_
   | refine LeO.bind ?_ (fun _ => ?_)
set_option maxHeartbeats 8000000 in
set_option maxRecDepth 100000 in
theorem gantt_Waited.calls (k : Nat) (A0 : Option Addr) (c0 : Nat) (l0 : List (S36)) (a1 : Int) (r : Int) (w : World) (hr0 : Kd.C k36 w A0 l0.length l0) (hc0 : l0.length ≤ c0) (h : gantt_Waited.f k l0 a1 = some r) :
  Calls Try.prog 25 #[.slice A0 l0.length c0, .int .i64 a1] w fun e w' => e = .returned (.int .i64 r) ∧ Below w.heap.size w w' := by
 have hu36 := Try.underlying36
 have HR0 := Aside0.mk hr0
 have HC0 := Aside0.mk hc0
 clear hr0 hc0
 have HB := Aside0.mk (Below.refl w.heap.size w)
 have H : (gantt_Waited.l0 k l0 a1 0 (-1) l0 (l0.length : Int) 0) = some r := h
 clear h
 have H' := Aside0.mk H
 clear H
 go_enter Try.func25, Try.ntmps25
 go_wp2
 go_loopg [4, 5, 10] k (fun kq v4 v5 v10 w' => ∃ (x4_1 : Int) (x5_1 : Int) (x10_1 : Int), v4 = .int .i64 x4_1 ∧ v5 = .int .i64 x5_1 ∧ v10 = .int .i64 x10_1 ∧ Aside0 (gantt_Waited.l0 kq l0 a1 x4_1 x5_1 l0 (l0.length : Int) x10_1 = some r) ∧ Aside0 (kq ≤ k) ∧ Aside0 (Below w.heap.size w w'))
 case atStart => exact ⟨(0), ((-1)), (0), (by first|rfl|(simp;done)|(simp [*];done)), (by first|rfl|(simp;done)|(simp [*];done)), (by first|rfl|(simp;done)|(simp [*];done)), H', ⟨Nat.le_refl _⟩, ⟨by repeat (with_reducible first|exact HB.out|apply xa|apply xb|apply xc)⟩⟩
 case round =>
  clear H'
  try clear c2
  try clear p2
  obtain ⟨x4_1, x5_1, x10_1, rfl, rfl, rfl, HA, HK1, HB⟩ := hrel
  cases gk with
  | zero => exact absurd HA.out (by simp [gantt_Waited.l0])
  | succ k1 =>
   have H := HA.out
   clear HA
   simp only [gantt_Waited.l0] at H
   by_cases c3 : x10_1 < (l0.length : Int)
   ·rw [if_pos c3] at H
    have c3b0 : decide (x10_1 < (l0.length : Int)) = true := decide_eq_true c3
    clear c3
    by_cases c4 : 0 ≤ x10_1
    ·rw [if_pos c4] at H
     have c4b0 : decide (0 ≤ x10_1) = true := decide_eq_true c4
     clear c4
     by_cases c5 : x10_1 < (l0.length : Int)
     ·rw [if_pos c5] at H
      have c5b0 : decide (x10_1 < (l0.length : Int)) = true := decide_eq_true c5
      clear c5
      by_cases c6 : ((rd_T36 l0 x10_1).f1) = a1
      ·rw [if_pos c6] at H
       have c6b0 : (((rd_T36 l0 x10_1).f1) == a1) = true := beq_iff_eq.mpr c6
       have c6b1 : (((rd_T36 l0 x10_1).f1) != a1) = false := bne_eq_false_iff_eq.mpr c6
       clear c6
       by_cases c7 : ((rd_T36 l0 x10_1).f0) = 5
       ·rw [if_pos c7] at H
        have c7b0 : (((rd_T36 l0 x10_1).f0) == 5) = true := beq_iff_eq.mpr c7
        have c7b1 : (((rd_T36 l0 x10_1).f0) != 5) = false := bne_eq_false_iff_eq.mpr c7
        clear c7
        by_cases c8 : x5_1 < 0
        ·rw [if_pos c8] at H
         have c8b0 : decide (x5_1 < 0) = true := decide_eq_true c8
         clear c8
         have H' := Aside0.mk H
         clear H
         have p205 : 0 ≤ (x10_1 : Int) := of_decide_eq_true (by assumption)
         have q205 : x10_1 < (l0.length : Int) := of_decide_eq_true (by assumption)
         obtain ⟨ad205, e205, hx205_0, hx205_1, hx205_2, hx205_3, hx205_4⟩ := at_T36 HR0.out x10_1 p205 q205
         cases e205
         replace hx205_0 := (HB.out.cell (World.block_lt_of_cell? w _ hx205_0)).trans hx205_0
         replace hx205_1 := (HB.out.cell (World.block_lt_of_cell? w _ hx205_1)).trans hx205_1
         replace hx205_2 := (HB.out.cell (World.block_lt_of_cell? w _ hx205_2)).trans hx205_2
         replace hx205_3 := (HB.out.cell (World.block_lt_of_cell? w _ hx205_3)).trans hx205_3
         replace hx205_4 := (HB.out.cell (World.block_lt_of_cell? w _ hx205_4)).trans hx205_4
         replace p205 := eq_true p205
         replace q205 := eq_true q205
         go_wp2_with (first|((with_reducible refine gate_dst (N := 7) rfl ?_);refine box_event ?hg (N := 7) ?hd (cs := #[.int .i64 0, .int .i64 0, .int .i64 0, .int .i64 0, .int .i64 0]) (t := 36) ?hr ?_;(case hd => rfl);(case hg => rfl);(case hr => first|(go_simp;done)|(go_simp;rfl));intro gb206 hg w9 hbox hb;have n0_ := Aside0.mk (below_step (by repeat (with_reducible first|exact HB.out|apply xa|apply xb|apply xc)) hb);have n1_ := Aside0.mk (hbox);have n2_ := Aside0.mk ((by rw [hg];exact (below_size (by repeat (with_reducible first|exact HB.out|apply xa|apply xb|apply xc))) : w.heap.size ≤ gb206));have n3_ := Aside0.mk ((by rw [hg];exact (below_size (by repeat (with_reducible first|exact HB.out|apply xa|apply xb|apply xc))) : w.heap.size ≤ gb206));clear HB;have HB := n0_;have BK206 := n1_;have GW206 := n2_;have GE206 := n3_;clear n0_ n1_ n2_ n3_;clear hb hbox hg;have hcz10_0 : w9.cell? ⟨gb206, 0, none⟩ = some (.int .i64 0) := (blk_cell BK206.out 0).trans rfl;have hcz10_1 : w9.cell? ⟨gb206, 1, none⟩ = some (.int .i64 0) := (blk_cell BK206.out 1).trans rfl;have hcz10_2 : w9.cell? ⟨gb206, 2, none⟩ = some (.int .i64 0) := (blk_cell BK206.out 2).trans rfl;have hcz10_3 : w9.cell? ⟨gb206, 3, none⟩ = some (.int .i64 0) := (blk_cell BK206.out 3).trans rfl;have hcz10_4 : w9.cell? ⟨gb206, 4, none⟩ = some (.int .i64 0) := (blk_cell BK206.out 4).trans rfl;have hfz10_0 := blk_frozen BK206.out 0;have hfz10_1 := blk_frozen BK206.out 1;have hfz10_2 := blk_frozen BK206.out 2;have hfz10_3 := blk_frozen BK206.out 3;have hfz10_4 := blk_frozen BK206.out 4))
         (try simp only [px_add0] at *)
         go_roundg k1
         case measure => have := HK1.out;omega
         case rel => exact ⟨(x4_1), (x10_1), (wrap64 (x10_1 + 1)), (by first|rfl|(simp;done)|(simp [*];done)), (by first|rfl|(simp;done)|(simp [*];done)), (by first|rfl|(simp;done)|(simp [*];done)), H', ⟨by have := HK1.out;omega⟩, ⟨by repeat (first|(with_reducible first|exact HB.out|apply xa|apply xb|apply xc|refine below_set ?_ GE206.out)|exact HB.out)⟩⟩
        ·rw [if_neg c8] at H
         have c8b0 : decide (x5_1 < 0) = false := decide_eq_false c8
         clear c8
         have H' := Aside0.mk H
         clear H
         have p205 : 0 ≤ (x10_1 : Int) := of_decide_eq_true (by assumption)
         have q205 : x10_1 < (l0.length : Int) := of_decide_eq_true (by assumption)
         obtain ⟨ad205, e205, hx205_0, hx205_1, hx205_2, hx205_3, hx205_4⟩ := at_T36 HR0.out x10_1 p205 q205
         cases e205
         replace hx205_0 := (HB.out.cell (World.block_lt_of_cell? w _ hx205_0)).trans hx205_0
         replace hx205_1 := (HB.out.cell (World.block_lt_of_cell? w _ hx205_1)).trans hx205_1
         replace hx205_2 := (HB.out.cell (World.block_lt_of_cell? w _ hx205_2)).trans hx205_2
         replace hx205_3 := (HB.out.cell (World.block_lt_of_cell? w _ hx205_3)).trans hx205_3
         replace hx205_4 := (HB.out.cell (World.block_lt_of_cell? w _ hx205_4)).trans hx205_4
         replace p205 := eq_true p205
         replace q205 := eq_true q205
         go_wp2_with (first|((with_reducible refine gate_dst (N := 7) rfl ?_);refine box_event ?hg (N := 7) ?hd (cs := #[.int .i64 0, .int .i64 0, .int .i64 0, .int .i64 0, .int .i64 0]) (t := 36) ?hr ?_;(case hd => rfl);(case hg => rfl);(case hr => first|(go_simp;done)|(go_simp;rfl));intro gb206 hg w11 hbox hb;have n0_ := Aside0.mk (below_step (by repeat (with_reducible first|exact HB.out|apply xa|apply xb|apply xc)) hb);have n1_ := Aside0.mk (hbox);have n2_ := Aside0.mk ((by rw [hg];exact (below_size (by repeat (with_reducible first|exact HB.out|apply xa|apply xb|apply xc))) : w.heap.size ≤ gb206));have n3_ := Aside0.mk ((by rw [hg];exact (below_size (by repeat (with_reducible first|exact HB.out|apply xa|apply xb|apply xc))) : w.heap.size ≤ gb206));clear HB;have HB := n0_;have BK206 := n1_;have GW206 := n2_;have GE206 := n3_;clear n0_ n1_ n2_ n3_;clear hb hbox hg;have hcz12_0 : w11.cell? ⟨gb206, 0, none⟩ = some (.int .i64 0) := (blk_cell BK206.out 0).trans rfl;have hcz12_1 : w11.cell? ⟨gb206, 1, none⟩ = some (.int .i64 0) := (blk_cell BK206.out 1).trans rfl;have hcz12_2 : w11.cell? ⟨gb206, 2, none⟩ = some (.int .i64 0) := (blk_cell BK206.out 2).trans rfl;have hcz12_3 : w11.cell? ⟨gb206, 3, none⟩ = some (.int .i64 0) := (blk_cell BK206.out 3).trans rfl;have hcz12_4 : w11.cell? ⟨gb206, 4, none⟩ = some (.int .i64 0) := (blk_cell BK206.out 4).trans rfl;have hfz12_0 := blk_frozen BK206.out 0;have hfz12_1 := blk_frozen BK206.out 1;have hfz12_2 := blk_frozen BK206.out 2;have hfz12_3 := blk_frozen BK206.out 3;have hfz12_4 := blk_frozen BK206.out 4))
         (try simp only [px_add0] at *)
         go_roundg k1
         case measure => have := HK1.out;omega
         case rel => exact ⟨(x4_1), (x5_1), (wrap64 (x10_1 + 1)), (by first|rfl|(simp;done)|(simp [*];done)), (by first|rfl|(simp;done)|(simp [*];done)), (by first|rfl|(simp;done)|(simp [*];done)), H', ⟨by have := HK1.out;omega⟩, ⟨by repeat (first|(with_reducible first|exact HB.out|apply xa|apply xb|apply xc|refine below_set ?_ GE206.out)|exact HB.out)⟩⟩
       ·rw [if_neg c7] at H
        have c7b0 : (((rd_T36 l0 x10_1).f0) == 5) = false := beq_eq_false_iff_ne.mpr c7
        have c7b1 : (((rd_T36 l0 x10_1).f0) != 5) = true := bne_iff_ne.mpr c7
        have HC13 := Aside0.mk H
        clear H
        have p205 : 0 ≤ (x10_1 : Int) := of_decide_eq_true (by assumption)
        have q205 : x10_1 < (l0.length : Int) := of_decide_eq_true (by assumption)
        obtain ⟨ad205, e205, hx205_0, hx205_1, hx205_2, hx205_3, hx205_4⟩ := at_T36 HR0.out x10_1 p205 q205
        cases e205
        replace hx205_0 := (HB.out.cell (World.block_lt_of_cell? w _ hx205_0)).trans hx205_0
        replace hx205_1 := (HB.out.cell (World.block_lt_of_cell? w _ hx205_1)).trans hx205_1
        replace hx205_2 := (HB.out.cell (World.block_lt_of_cell? w _ hx205_2)).trans hx205_2
        replace hx205_3 := (HB.out.cell (World.block_lt_of_cell? w _ hx205_3)).trans hx205_3
        replace hx205_4 := (HB.out.cell (World.block_lt_of_cell? w _ hx205_4)).trans hx205_4
        replace p205 := eq_true p205
        replace q205 := eq_true q205
        go_upto_if 26 with (first|((with_reducible refine gate_dst (N := 7) rfl ?_);refine box_event ?hg (N := 7) ?hd (cs := #[.int .i64 0, .int .i64 0, .int .i64 0, .int .i64 0, .int .i64 0]) (t := 36) ?hr ?_;(case hd => rfl);(case hg => rfl);(case hr => first|(go_simp;done)|(go_simp;rfl));intro gb206 hg w14 hbox hb;have n0_ := Aside0.mk (below_step (by repeat (with_reducible first|exact HB.out|apply xa|apply xb|apply xc)) hb);have n1_ := Aside0.mk (hbox);have n2_ := Aside0.mk ((by rw [hg];exact (below_size (by repeat (with_reducible first|exact HB.out|apply xa|apply xb|apply xc))) : w.heap.size ≤ gb206));have n3_ := Aside0.mk ((by rw [hg];exact (below_size (by repeat (with_reducible first|exact HB.out|apply xa|apply xb|apply xc))) : w.heap.size ≤ gb206));clear HB;have HB := n0_;have BK206 := n1_;have GW206 := n2_;have GE206 := n3_;clear n0_ n1_ n2_ n3_;clear hb hbox hg;have hcz15_0 : w14.cell? ⟨gb206, 0, none⟩ = some (.int .i64 0) := (blk_cell BK206.out 0).trans rfl;have hcz15_1 : w14.cell? ⟨gb206, 1, none⟩ = some (.int .i64 0) := (blk_cell BK206.out 1).trans rfl;have hcz15_2 : w14.cell? ⟨gb206, 2, none⟩ = some (.int .i64 0) := (blk_cell BK206.out 2).trans rfl;have hcz15_3 : w14.cell? ⟨gb206, 3, none⟩ = some (.int .i64 0) := (blk_cell BK206.out 3).trans rfl;have hcz15_4 : w14.cell? ⟨gb206, 4, none⟩ = some (.int .i64 0) := (blk_cell BK206.out 4).trans rfl;have hfz15_0 := blk_frozen BK206.out 0;have hfz15_1 := blk_frozen BK206.out 1;have hfz15_2 := blk_frozen BK206.out 2;have hfz15_3 := blk_frozen BK206.out 3;have hfz15_4 := blk_frozen BK206.out 4))
        (try simp only [Act.put, List.setIfInBounds_toArray, List.set_cons_zero, List.set_cons_succ])
        go_cut [26] (fun v26 wc => ∃ (kq : Nat) (x26_12 : Bool), v26 = .bool x26_12 ∧ Aside0 (gantt_Waited.j1 kq l0 a1 x4_1 x5_1 x10_1 l0 (l0.length : Int) x10_1 x26_12 = some r) ∧ Aside0 (kq ≤ k1) ∧ Aside0 (wc.heap[gb206]? = some (.cells #[.int .i64 ((rd_T36 l0 x10_1).f0), .int .i64 ((rd_T36 l0 x10_1).f1), .int .i64 ((rd_T36 l0 x10_1).f2), .int .i64 ((rd_T36 l0 x10_1).f3), .int .i64 ((rd_T36 l0 x10_1).f4)] 36 (0, 0))) ∧ Aside0 (Below w.heap.size w wc))
        case first =>
         have H := HC13.out
         clear HC13
         by_cases c16 : ((rd_T36 l0 x10_1).f0) = 2
         ·rw [if_pos c16] at H
          have c16b0 : (((rd_T36 l0 x10_1).f0) == 2) = true := beq_iff_eq.mpr c16
          have c16b1 : (((rd_T36 l0 x10_1).f0) != 2) = false := bne_eq_false_iff_eq.mpr c16
          clear c16
          (first|rw [c16b0]|(simp only [i64_w, i32_w];rw [c16b0])|skip)
          have H' := Aside0.mk H
          clear H
          go_wp2
          go_meet
          case rel => exact ⟨_, ((((rd_T36 l0 x10_1).f0) == 2)), (by first|rfl|(simp;done)|(simp [*];done)), H', ⟨by have := HK1.out;first|omega|exact Nat.le_refl _⟩, ⟨by (with_reducible repeat (first|apply blk_drewN|apply blk_drew|apply blk_alloc));refine blk_put (cs := #[.int .i64 ((rd_T36 l0 x10_1).f0), .int .i64 ((rd_T36 l0 x10_1).f1), .int .i64 ((rd_T36 l0 x10_1).f2), .int .i64 ((rd_T36 l0 x10_1).f3), .int .i64 0]) ?_ 4 _ rfl;(with_reducible repeat (first|apply blk_drewN|apply blk_drew|apply blk_alloc));refine blk_put (cs := #[.int .i64 ((rd_T36 l0 x10_1).f0), .int .i64 ((rd_T36 l0 x10_1).f1), .int .i64 ((rd_T36 l0 x10_1).f2), .int .i64 0, .int .i64 0]) ?_ 3 _ rfl;(with_reducible repeat (first|apply blk_drewN|apply blk_drew|apply blk_alloc));refine blk_put (cs := #[.int .i64 ((rd_T36 l0 x10_1).f0), .int .i64 ((rd_T36 l0 x10_1).f1), .int .i64 0, .int .i64 0, .int .i64 0]) ?_ 2 _ rfl;(with_reducible repeat (first|apply blk_drewN|apply blk_drew|apply blk_alloc));refine blk_put (cs := #[.int .i64 ((rd_T36 l0 x10_1).f0), .int .i64 0, .int .i64 0, .int .i64 0, .int .i64 0]) ?_ 1 _ rfl;(with_reducible repeat (first|apply blk_drewN|apply blk_drew|apply blk_alloc));refine blk_put (cs := #[.int .i64 0, .int .i64 0, .int .i64 0, .int .i64 0, .int .i64 0]) ?_ 0 _ rfl;(with_reducible repeat (first|apply blk_drewN|apply blk_drew|apply blk_alloc));exact BK206.out⟩, ⟨by repeat (first|(with_reducible first|exact HB.out|apply xa|apply xb|apply xc|refine below_set ?_ GE206.out)|exact HB.out)⟩⟩
         ·rw [if_neg c16] at H
          have c16b0 : (((rd_T36 l0 x10_1).f0) == 2) = false := beq_eq_false_iff_ne.mpr c16
          have c16b1 : (((rd_T36 l0 x10_1).f0) != 2) = true := bne_iff_ne.mpr c16
          (first|rw [c16b0]|(simp only [i64_w, i32_w];rw [c16b0])|skip)
          by_cases c17 : ((rd_T36 l0 x10_1).f0) = 7
          ·rw [if_pos c17] at H
           have c17b0 : (((rd_T36 l0 x10_1).f0) == 7) = true := beq_iff_eq.mpr c17
           have c17b1 : (((rd_T36 l0 x10_1).f0) != 7) = false := bne_eq_false_iff_eq.mpr c17
           clear c17
           have H' := Aside0.mk H
           clear H
           go_wp2
           go_meet
           case rel => exact ⟨_, ((((rd_T36 l0 x10_1).f0) == 7)), (by first|rfl|(simp;done)|(simp [*];done)), H', ⟨by have := HK1.out;first|omega|exact Nat.le_refl _⟩, ⟨by (with_reducible repeat (first|apply blk_drewN|apply blk_drew|apply blk_alloc));refine blk_put (cs := #[.int .i64 ((rd_T36 l0 x10_1).f0), .int .i64 ((rd_T36 l0 x10_1).f1), .int .i64 ((rd_T36 l0 x10_1).f2), .int .i64 ((rd_T36 l0 x10_1).f3), .int .i64 0]) ?_ 4 _ rfl;(with_reducible repeat (first|apply blk_drewN|apply blk_drew|apply blk_alloc));refine blk_put (cs := #[.int .i64 ((rd_T36 l0 x10_1).f0), .int .i64 ((rd_T36 l0 x10_1).f1), .int .i64 ((rd_T36 l0 x10_1).f2), .int .i64 0, .int .i64 0]) ?_ 3 _ rfl;(with_reducible repeat (first|apply blk_drewN|apply blk_drew|apply blk_alloc));refine blk_put (cs := #[.int .i64 ((rd_T36 l0 x10_1).f0), .int .i64 ((rd_T36 l0 x10_1).f1), .int .i64 0, .int .i64 0, .int .i64 0]) ?_ 2 _ rfl;(with_reducible repeat (first|apply blk_drewN|apply blk_drew|apply blk_alloc));refine blk_put (cs := #[.int .i64 ((rd_T36 l0 x10_1).f0), .int .i64 0, .int .i64 0, .int .i64 0, .int .i64 0]) ?_ 1 _ rfl;(with_reducible repeat (first|apply blk_drewN|apply blk_drew|apply blk_alloc));refine blk_put (cs := #[.int .i64 0, .int .i64 0, .int .i64 0, .int .i64 0, .int .i64 0]) ?_ 0 _ rfl;(with_reducible repeat (first|apply blk_drewN|apply blk_drew|apply blk_alloc));exact BK206.out⟩, ⟨by repeat (first|(with_reducible first|exact HB.out|apply xa|apply xb|apply xc|refine below_set ?_ GE206.out)|exact HB.out)⟩⟩
          ·rw [if_neg c17] at H
           have c17b0 : (((rd_T36 l0 x10_1).f0) == 7) = false := beq_eq_false_iff_ne.mpr c17
           have c17b1 : (((rd_T36 l0 x10_1).f0) != 7) = true := bne_iff_ne.mpr c17
           have H' := Aside0.mk H
           clear H
           go_wp2
           go_meet
           case rel => exact ⟨_, ((((rd_T36 l0 x10_1).f0) == 6)), (by first|rfl|(simp;done)|(simp [*];done)), H', ⟨by have := HK1.out;first|omega|exact Nat.le_refl _⟩, ⟨by (with_reducible repeat (first|apply blk_drewN|apply blk_drew|apply blk_alloc));refine blk_put (cs := #[.int .i64 ((rd_T36 l0 x10_1).f0), .int .i64 ((rd_T36 l0 x10_1).f1), .int .i64 ((rd_T36 l0 x10_1).f2), .int .i64 ((rd_T36 l0 x10_1).f3), .int .i64 0]) ?_ 4 _ rfl;(with_reducible repeat (first|apply blk_drewN|apply blk_drew|apply blk_alloc));refine blk_put (cs := #[.int .i64 ((rd_T36 l0 x10_1).f0), .int .i64 ((rd_T36 l0 x10_1).f1), .int .i64 ((rd_T36 l0 x10_1).f2), .int .i64 0, .int .i64 0]) ?_ 3 _ rfl;(with_reducible repeat (first|apply blk_drewN|apply blk_drew|apply blk_alloc));refine blk_put (cs := #[.int .i64 ((rd_T36 l0 x10_1).f0), .int .i64 ((rd_T36 l0 x10_1).f1), .int .i64 0, .int .i64 0, .int .i64 0]) ?_ 2 _ rfl;(with_reducible repeat (first|apply blk_drewN|apply blk_drew|apply blk_alloc));refine blk_put (cs := #[.int .i64 ((rd_T36 l0 x10_1).f0), .int .i64 0, .int .i64 0, .int .i64 0, .int .i64 0]) ?_ 1 _ rfl;(with_reducible repeat (first|apply blk_drewN|apply blk_drew|apply blk_alloc));refine blk_put (cs := #[.int .i64 0, .int .i64 0, .int .i64 0, .int .i64 0, .int .i64 0]) ?_ 0 _ rfl;(with_reducible repeat (first|apply blk_drewN|apply blk_drew|apply blk_alloc));exact BK206.out⟩, ⟨by repeat (first|(with_reducible first|exact HB.out|apply xa|apply xb|apply xc|refine below_set ?_ GE206.out)|exact HB.out)⟩⟩
        case rest =>
         clear HC13
         try clear c1
         try clear c2
         try clear p2
         try clear q2
         try clear hx2
         try clear c3
         try clear c3b0
         try clear c4
         try clear c4b0
         try clear c5
         try clear c5b0
         try clear c6
         try clear c6b0
         try clear c6b1
         try clear p6
         try clear c7
         try clear c7b0
         try clear c7b1
         try clear c8
         try clear c8b0
         try clear c16
         try clear c16b0
         try clear c16b1
         try clear c17
         try clear c17b0
         try clear c17b1
         try clear hcz10_0
         try clear hcz10_1
         try clear hcz10_2
         try clear hcz10_3
         try clear hcz10_4
         try clear hcz12_0
         try clear hcz12_1
         try clear hcz12_2
         try clear hcz12_3
         try clear hcz12_4
         try clear hcz15_0
         try clear hcz15_1
         try clear hcz15_2
         try clear hcz15_3
         try clear hcz15_4
         try clear hfz10_0
         try clear hfz10_1
         try clear hfz10_2
         try clear hfz10_3
         try clear hfz10_4
         try clear hfz12_0
         try clear hfz12_1
         try clear hfz12_2
         try clear hfz12_3
         try clear hfz12_4
         try clear hfz15_0
         try clear hfz15_1
         try clear hfz15_2
         try clear hfz15_3
         try clear hfz15_4
         try clear hx205_0
         try clear hx205_1
         try clear hx205_2
         try clear hx205_3
         try clear hx205_4
         try clear p2
         try clear p205
         try clear q205
         obtain ⟨kq, x26_12, rfl, HA, HJ12, BK206, HB⟩ := hcut
         cases kq with
         | zero => exact absurd HA.out (by simp [gantt_Waited.j1])
         | succ kj12 =>
          have H := HA.out
          clear HA
          simp only [gantt_Waited.j1] at H
          by_cases c18 : x26_12 = true
          ·subst c18
           have H1 : (if x5_1 ≥ 0 then (gantt_Waited.l0 kj12 l0 a1 (wrap64 (x4_1 + (wrap64 ((wrap64 (x10_1 - x5_1)) - 1)))) (-1) l0 (l0.length : Int) (wrap64 (x10_1 + 1))) else (gantt_Waited.l0 kj12 l0 a1 x4_1 (-1) l0 (l0.length : Int) (wrap64 (x10_1 + 1)))) = some r := by rw [if_pos rfl] at H;exact H
           clear H
           have H := H1
           clear H1
           by_cases c19 : x5_1 ≥ 0
           ·rw [if_pos c19] at H
            have c19b0 : decide (0 ≤ x5_1) = true := decide_eq_true c19
            clear c19
            have H' := Aside0.mk H
            clear H
            go_wp2
            go_roundg kj12
            case measure => have := HK1.out;have := HJ12.out;omega
            case rel => exact ⟨(wrap64 (x4_1 + (wrap64 ((wrap64 (x10_1 - x5_1)) - 1)))), ((-1)), (wrap64 (x10_1 + 1)), (by first|rfl|(simp;done)|(simp [*];done)), (by first|rfl|(simp;done)|(simp [*];done)), (by first|rfl|(simp;done)|(simp [*];done)), H', ⟨by have := HK1.out;have := HJ12.out;omega⟩, ⟨by repeat (first|(with_reducible first|exact HB.out|apply xa|apply xb|apply xc|refine below_set ?_ GE206.out)|exact HB.out)⟩⟩
           ·rw [if_neg c19] at H
            have c19b0 : decide (0 ≤ x5_1) = false := decide_eq_false c19
            clear c19
            have H' := Aside0.mk H
            clear H
            go_wp2
            go_roundg kj12
            case measure => have := HK1.out;have := HJ12.out;omega
            case rel => exact ⟨(x4_1), ((-1)), (wrap64 (x10_1 + 1)), (by first|rfl|(simp;done)|(simp [*];done)), (by first|rfl|(simp;done)|(simp [*];done)), (by first|rfl|(simp;done)|(simp [*];done)), H', ⟨by have := HK1.out;have := HJ12.out;omega⟩, ⟨by repeat (first|(with_reducible first|exact HB.out|apply xa|apply xb|apply xc|refine below_set ?_ GE206.out)|exact HB.out)⟩⟩
          ·replace c18 := Bool.eq_false_iff.mpr c18
           subst c18
           have H1 : (gantt_Waited.l0 kj12 l0 a1 x4_1 x5_1 l0 (l0.length : Int) (wrap64 (x10_1 + 1))) = some r := by rw [if_neg (show ¬ (false = true) by decide)] at H;exact H
           clear H
           have H := H1
           clear H1
           have H' := Aside0.mk H
           clear H
           go_wp2
           go_roundg kj12
           case measure => have := HK1.out;have := HJ12.out;omega
           case rel => exact ⟨(x4_1), (x5_1), (wrap64 (x10_1 + 1)), (by first|rfl|(simp;done)|(simp [*];done)), (by first|rfl|(simp;done)|(simp [*];done)), (by first|rfl|(simp;done)|(simp [*];done)), H', ⟨by have := HK1.out;have := HJ12.out;omega⟩, ⟨by repeat (first|(with_reducible first|exact HB.out|apply xa|apply xb|apply xc|refine below_set ?_ GE206.out)|exact HB.out)⟩⟩
      ·rw [if_neg c6] at H
       have c6b0 : (((rd_T36 l0 x10_1).f1) == a1) = false := beq_eq_false_iff_ne.mpr c6
       have c6b1 : (((rd_T36 l0 x10_1).f1) != a1) = true := bne_iff_ne.mpr c6
       have H' := Aside0.mk H
       clear H
       have p205 : 0 ≤ (x10_1 : Int) := of_decide_eq_true (by assumption)
       have q205 : x10_1 < (l0.length : Int) := of_decide_eq_true (by assumption)
       obtain ⟨ad205, e205, hx205_0, hx205_1, hx205_2, hx205_3, hx205_4⟩ := at_T36 HR0.out x10_1 p205 q205
       cases e205
       replace hx205_0 := (HB.out.cell (World.block_lt_of_cell? w _ hx205_0)).trans hx205_0
       replace hx205_1 := (HB.out.cell (World.block_lt_of_cell? w _ hx205_1)).trans hx205_1
       replace hx205_2 := (HB.out.cell (World.block_lt_of_cell? w _ hx205_2)).trans hx205_2
       replace hx205_3 := (HB.out.cell (World.block_lt_of_cell? w _ hx205_3)).trans hx205_3
       replace hx205_4 := (HB.out.cell (World.block_lt_of_cell? w _ hx205_4)).trans hx205_4
       replace p205 := eq_true p205
       replace q205 := eq_true q205
       go_wp2_with (first|((with_reducible refine gate_dst (N := 7) rfl ?_);refine box_event ?hg (N := 7) ?hd (cs := #[.int .i64 0, .int .i64 0, .int .i64 0, .int .i64 0, .int .i64 0]) (t := 36) ?hr ?_;(case hd => rfl);(case hg => rfl);(case hr => first|(go_simp;done)|(go_simp;rfl));intro gb206 hg w20 hbox hb;have n0_ := Aside0.mk (below_step (by repeat (with_reducible first|exact HB.out|apply xa|apply xb|apply xc)) hb);have n1_ := Aside0.mk (hbox);have n2_ := Aside0.mk ((by rw [hg];exact (below_size (by repeat (with_reducible first|exact HB.out|apply xa|apply xb|apply xc))) : w.heap.size ≤ gb206));have n3_ := Aside0.mk ((by rw [hg];exact (below_size (by repeat (with_reducible first|exact HB.out|apply xa|apply xb|apply xc))) : w.heap.size ≤ gb206));clear HB;have HB := n0_;have BK206 := n1_;have GW206 := n2_;have GE206 := n3_;clear n0_ n1_ n2_ n3_;clear hb hbox hg;have hcz21_0 : w20.cell? ⟨gb206, 0, none⟩ = some (.int .i64 0) := (blk_cell BK206.out 0).trans rfl;have hcz21_1 : w20.cell? ⟨gb206, 1, none⟩ = some (.int .i64 0) := (blk_cell BK206.out 1).trans rfl;have hcz21_2 : w20.cell? ⟨gb206, 2, none⟩ = some (.int .i64 0) := (blk_cell BK206.out 2).trans rfl;have hcz21_3 : w20.cell? ⟨gb206, 3, none⟩ = some (.int .i64 0) := (blk_cell BK206.out 3).trans rfl;have hcz21_4 : w20.cell? ⟨gb206, 4, none⟩ = some (.int .i64 0) := (blk_cell BK206.out 4).trans rfl;have hfz21_0 := blk_frozen BK206.out 0;have hfz21_1 := blk_frozen BK206.out 1;have hfz21_2 := blk_frozen BK206.out 2;have hfz21_3 := blk_frozen BK206.out 3;have hfz21_4 := blk_frozen BK206.out 4))
       (try simp only [px_add0] at *)
       go_roundg k1
       case measure => have := HK1.out;omega
       case rel => exact ⟨(x4_1), (x5_1), (wrap64 (x10_1 + 1)), (by first|rfl|(simp;done)|(simp [*];done)), (by first|rfl|(simp;done)|(simp [*];done)), (by first|rfl|(simp;done)|(simp [*];done)), H', ⟨by have := HK1.out;omega⟩, ⟨by repeat (first|(with_reducible first|exact HB.out|apply xa|apply xb|apply xc|refine below_set ?_ GE206.out)|exact HB.out)⟩⟩
     ·rw [if_neg c5] at H
      exact absurd H (by simp)
    ·rw [if_neg c4] at H
     exact absurd H (by simp)
   ·rw [if_neg c3] at H
    have c3b0 : decide (x10_1 < (l0.length : Int)) = false := decide_eq_false c3
    clear c3
    by_cases c22 : x5_1 ≥ 0
    ·rw [if_pos c22] at H
     have c22b0 : decide (0 ≤ x5_1) = true := decide_eq_true c22
     clear c22
     obtain rfl := Option.some.inj H
     go_wp2
     go_ret
     exact ⟨by first|rfl|(simp [errW_none, errW_some] <;> rfl)|(simp [*, errW_none, errW_some] <;> rfl), by repeat (with_reducible first|exact HB.out|apply xa|apply xb|apply xc)⟩
    ·rw [if_neg c22] at H
     have c22b0 : decide (0 ≤ x5_1) = false := decide_eq_false c22
     clear c22
     obtain rfl := Option.some.inj H
     go_wp2
     go_ret
     exact ⟨by first|rfl|(simp [errW_none, errW_some] <;> rfl)|(simp [*, errW_none, errW_some] <;> rfl), by repeat (with_reducible first|exact HB.out|apply xa|apply xb|apply xc)⟩

/-! ### pinfoldref30_ends: function 58 -/
def pinfoldref30_ends.f (a0_0 : Int) (a0_1 : Int) (a0_2 : Int) (a0_3 : Int) (a0_4 : Int) (a1 : Int) : Option (Bool) := if a0_1 = a1 then (if a0_0 = 2 then (some true) else (if a0_0 = 7 then (some true) else (some (a0_0 == 6)))) else (some false)
set_option maxHeartbeats 8000000 in
set_option maxRecDepth 100000 in
theorem pinfoldref30_ends.calls (a0_0 : Int) (a0_1 : Int) (a0_2 : Int) (a0_3 : Int) (a0_4 : Int) (a1 : Int) (r : Bool) (w : World) (h : pinfoldref30_ends.f a0_0 a0_1 a0_2 a0_3 a0_4 a1 = some r) :
  Calls Try.prog 58 #[.agg #[.int .i64 a0_0, .int .i64 a0_1, .int .i64 a0_2, .int .i64 a0_3, .int .i64 a0_4], .int .i64 a1] w fun e w' => e = .returned (.bool r) ∧ Below w.heap.size w w' := by
 have hu36 := Try.underlying36
 have HB := Aside0.mk (Below.refl w.heap.size w)
 have H : (if a0_1 = a1 then (if a0_0 = 2 then (some true) else (if a0_0 = 7 then (some true) else (some (a0_0 == 6)))) else (some false)) = some r := h
 clear h
 by_cases c3 : a0_1 = a1
 ·rw [if_pos c3] at H
  have c3b0 : (a0_1 == a1) = true := beq_iff_eq.mpr c3
  have c3b1 : (a0_1 != a1) = false := bne_eq_false_iff_eq.mpr c3
  clear c3
  by_cases c4 : a0_0 = 2
  ·rw [if_pos c4] at H
   have c4b0 : (a0_0 == 2) = true := beq_iff_eq.mpr c4
   have c4b1 : (a0_0 != 2) = false := bne_eq_false_iff_eq.mpr c4
   clear c4
   obtain rfl := Option.some.inj H
   go_enter Try.func58, Try.ntmps58
   go_wp2_with (first|((with_reducible refine gate_dst (N := 2) rfl ?_);refine box_event ?hg (N := 2) ?hd (cs := #[.int .i64 a0_0, .int .i64 a0_1, .int .i64 a0_2, .int .i64 a0_3, .int .i64 a0_4]) (t := 36) ?hr ?_;(case hd => rfl);(case hg => rfl);(case hr => first|(go_simp;done)|(go_simp;rfl));intro gb207 hg w5 hbox hb;have n0_ := Aside0.mk (below_step (by repeat (with_reducible first|exact HB.out|apply xa|apply xb|apply xc)) hb);have n1_ := Aside0.mk (hbox);have n2_ := Aside0.mk ((by rw [hg];exact (below_size (by repeat (with_reducible first|exact HB.out|apply xa|apply xb|apply xc))) : w.heap.size ≤ gb207));have n3_ := Aside0.mk ((by rw [hg];exact (below_size (by repeat (with_reducible first|exact HB.out|apply xa|apply xb|apply xc))) : w.heap.size ≤ gb207));clear HB;have HB := n0_;have BK207 := n1_;have GW207 := n2_;have GE207 := n3_;clear n0_ n1_ n2_ n3_;clear hb hbox hg;have hcz6_0 : w5.cell? ⟨gb207, 0, none⟩ = some (.int .i64 a0_0) := (blk_cell BK207.out 0).trans rfl;have hcz6_1 : w5.cell? ⟨gb207, 1, none⟩ = some (.int .i64 a0_1) := (blk_cell BK207.out 1).trans rfl;have hcz6_2 : w5.cell? ⟨gb207, 2, none⟩ = some (.int .i64 a0_2) := (blk_cell BK207.out 2).trans rfl;have hcz6_3 : w5.cell? ⟨gb207, 3, none⟩ = some (.int .i64 a0_3) := (blk_cell BK207.out 3).trans rfl;have hcz6_4 : w5.cell? ⟨gb207, 4, none⟩ = some (.int .i64 a0_4) := (blk_cell BK207.out 4).trans rfl;have hfz6_0 := blk_frozen BK207.out 0;have hfz6_1 := blk_frozen BK207.out 1;have hfz6_2 := blk_frozen BK207.out 2;have hfz6_3 := blk_frozen BK207.out 3;have hfz6_4 := blk_frozen BK207.out 4))
   go_ret
   exact ⟨by first|rfl|(simp [errW_none, errW_some] <;> rfl)|(simp [*, errW_none, errW_some] <;> rfl), by repeat (first|(with_reducible first|exact HB.out|apply xa|apply xb|apply xc|refine below_set ?_ GE207.out)|exact HB.out)⟩
  ·rw [if_neg c4] at H
   have c4b0 : (a0_0 == 2) = false := beq_eq_false_iff_ne.mpr c4
   have c4b1 : (a0_0 != 2) = true := bne_iff_ne.mpr c4
   by_cases c7 : a0_0 = 7
   ·rw [if_pos c7] at H
    have c7b0 : (a0_0 == 7) = true := beq_iff_eq.mpr c7
    have c7b1 : (a0_0 != 7) = false := bne_eq_false_iff_eq.mpr c7
    clear c7
    obtain rfl := Option.some.inj H
    go_enter Try.func58, Try.ntmps58
    go_wp2_with (first|((with_reducible refine gate_dst (N := 2) rfl ?_);refine box_event ?hg (N := 2) ?hd (cs := #[.int .i64 a0_0, .int .i64 a0_1, .int .i64 a0_2, .int .i64 a0_3, .int .i64 a0_4]) (t := 36) ?hr ?_;(case hd => rfl);(case hg => rfl);(case hr => first|(go_simp;done)|(go_simp;rfl));intro gb207 hg w8 hbox hb;have n0_ := Aside0.mk (below_step (by repeat (with_reducible first|exact HB.out|apply xa|apply xb|apply xc)) hb);have n1_ := Aside0.mk (hbox);have n2_ := Aside0.mk ((by rw [hg];exact (below_size (by repeat (with_reducible first|exact HB.out|apply xa|apply xb|apply xc))) : w.heap.size ≤ gb207));have n3_ := Aside0.mk ((by rw [hg];exact (below_size (by repeat (with_reducible first|exact HB.out|apply xa|apply xb|apply xc))) : w.heap.size ≤ gb207));clear HB;have HB := n0_;have BK207 := n1_;have GW207 := n2_;have GE207 := n3_;clear n0_ n1_ n2_ n3_;clear hb hbox hg;have hcz9_0 : w8.cell? ⟨gb207, 0, none⟩ = some (.int .i64 a0_0) := (blk_cell BK207.out 0).trans rfl;have hcz9_1 : w8.cell? ⟨gb207, 1, none⟩ = some (.int .i64 a0_1) := (blk_cell BK207.out 1).trans rfl;have hcz9_2 : w8.cell? ⟨gb207, 2, none⟩ = some (.int .i64 a0_2) := (blk_cell BK207.out 2).trans rfl;have hcz9_3 : w8.cell? ⟨gb207, 3, none⟩ = some (.int .i64 a0_3) := (blk_cell BK207.out 3).trans rfl;have hcz9_4 : w8.cell? ⟨gb207, 4, none⟩ = some (.int .i64 a0_4) := (blk_cell BK207.out 4).trans rfl;have hfz9_0 := blk_frozen BK207.out 0;have hfz9_1 := blk_frozen BK207.out 1;have hfz9_2 := blk_frozen BK207.out 2;have hfz9_3 := blk_frozen BK207.out 3;have hfz9_4 := blk_frozen BK207.out 4))
    go_ret
    exact ⟨by first|rfl|(simp [errW_none, errW_some] <;> rfl)|(simp [*, errW_none, errW_some] <;> rfl), by repeat (first|(with_reducible first|exact HB.out|apply xa|apply xb|apply xc|refine below_set ?_ GE207.out)|exact HB.out)⟩
   ·rw [if_neg c7] at H
    have c7b0 : (a0_0 == 7) = false := beq_eq_false_iff_ne.mpr c7
    have c7b1 : (a0_0 != 7) = true := bne_iff_ne.mpr c7
    obtain rfl := Option.some.inj H
    go_enter Try.func58, Try.ntmps58
    go_wp2_with (first|((with_reducible refine gate_dst (N := 2) rfl ?_);refine box_event ?hg (N := 2) ?hd (cs := #[.int .i64 a0_0, .int .i64 a0_1, .int .i64 a0_2, .int .i64 a0_3, .int .i64 a0_4]) (t := 36) ?hr ?_;(case hd => rfl);(case hg => rfl);(case hr => first|(go_simp;done)|(go_simp;rfl));intro gb207 hg w10 hbox hb;have n0_ := Aside0.mk (below_step (by repeat (with_reducible first|exact HB.out|apply xa|apply xb|apply xc)) hb);have n1_ := Aside0.mk (hbox);have n2_ := Aside0.mk ((by rw [hg];exact (below_size (by repeat (with_reducible first|exact HB.out|apply xa|apply xb|apply xc))) : w.heap.size ≤ gb207));have n3_ := Aside0.mk ((by rw [hg];exact (below_size (by repeat (with_reducible first|exact HB.out|apply xa|apply xb|apply xc))) : w.heap.size ≤ gb207));clear HB;have HB := n0_;have BK207 := n1_;have GW207 := n2_;have GE207 := n3_;clear n0_ n1_ n2_ n3_;clear hb hbox hg;have hcz11_0 : w10.cell? ⟨gb207, 0, none⟩ = some (.int .i64 a0_0) := (blk_cell BK207.out 0).trans rfl;have hcz11_1 : w10.cell? ⟨gb207, 1, none⟩ = some (.int .i64 a0_1) := (blk_cell BK207.out 1).trans rfl;have hcz11_2 : w10.cell? ⟨gb207, 2, none⟩ = some (.int .i64 a0_2) := (blk_cell BK207.out 2).trans rfl;have hcz11_3 : w10.cell? ⟨gb207, 3, none⟩ = some (.int .i64 a0_3) := (blk_cell BK207.out 3).trans rfl;have hcz11_4 : w10.cell? ⟨gb207, 4, none⟩ = some (.int .i64 a0_4) := (blk_cell BK207.out 4).trans rfl;have hfz11_0 := blk_frozen BK207.out 0;have hfz11_1 := blk_frozen BK207.out 1;have hfz11_2 := blk_frozen BK207.out 2;have hfz11_3 := blk_frozen BK207.out 3;have hfz11_4 := blk_frozen BK207.out 4))
    go_ret
    exact ⟨by first|rfl|(simp [errW_none, errW_some] <;> rfl)|(simp [*, errW_none, errW_some] <;> rfl), by repeat (first|(with_reducible first|exact HB.out|apply xa|apply xb|apply xc|refine below_set ?_ GE207.out)|exact HB.out)⟩
 ·rw [if_neg c3] at H
  have c3b0 : (a0_1 == a1) = false := beq_eq_false_iff_ne.mpr c3
  have c3b1 : (a0_1 != a1) = true := bne_iff_ne.mpr c3
  obtain rfl := Option.some.inj H
  go_enter Try.func58, Try.ntmps58
  go_wp2_with (first|((with_reducible refine gate_dst (N := 2) rfl ?_);refine box_event ?hg (N := 2) ?hd (cs := #[.int .i64 a0_0, .int .i64 a0_1, .int .i64 a0_2, .int .i64 a0_3, .int .i64 a0_4]) (t := 36) ?hr ?_;(case hd => rfl);(case hg => rfl);(case hr => first|(go_simp;done)|(go_simp;rfl));intro gb207 hg w12 hbox hb;have n0_ := Aside0.mk (below_step (by repeat (with_reducible first|exact HB.out|apply xa|apply xb|apply xc)) hb);have n1_ := Aside0.mk (hbox);have n2_ := Aside0.mk ((by rw [hg];exact (below_size (by repeat (with_reducible first|exact HB.out|apply xa|apply xb|apply xc))) : w.heap.size ≤ gb207));have n3_ := Aside0.mk ((by rw [hg];exact (below_size (by repeat (with_reducible first|exact HB.out|apply xa|apply xb|apply xc))) : w.heap.size ≤ gb207));clear HB;have HB := n0_;have BK207 := n1_;have GW207 := n2_;have GE207 := n3_;clear n0_ n1_ n2_ n3_;clear hb hbox hg;have hcz13_0 : w12.cell? ⟨gb207, 0, none⟩ = some (.int .i64 a0_0) := (blk_cell BK207.out 0).trans rfl;have hcz13_1 : w12.cell? ⟨gb207, 1, none⟩ = some (.int .i64 a0_1) := (blk_cell BK207.out 1).trans rfl;have hcz13_2 : w12.cell? ⟨gb207, 2, none⟩ = some (.int .i64 a0_2) := (blk_cell BK207.out 2).trans rfl;have hcz13_3 : w12.cell? ⟨gb207, 3, none⟩ = some (.int .i64 a0_3) := (blk_cell BK207.out 3).trans rfl;have hcz13_4 : w12.cell? ⟨gb207, 4, none⟩ = some (.int .i64 a0_4) := (blk_cell BK207.out 4).trans rfl;have hfz13_0 := blk_frozen BK207.out 0;have hfz13_1 := blk_frozen BK207.out 1;have hfz13_2 := blk_frozen BK207.out 2;have hfz13_3 := blk_frozen BK207.out 3;have hfz13_4 := blk_frozen BK207.out 4))
  go_ret
  exact ⟨by first|rfl|(simp [errW_none, errW_some] <;> rfl)|(simp [*, errW_none, errW_some] <;> rfl), by repeat (first|(with_reducible first|exact HB.out|apply xa|apply xb|apply xc|refine below_set ?_ GE207.out)|exact HB.out)⟩

/-! ### pinfoldref30_Waited: function 26 -/
mutual
def pinfoldref30_Waited.l0 : Nat → Int → Int → Bool → List (S36) → Int → Int → Option (Int)
 | 0, _, _, _, _, _, _ => none
 | k + 1, x1, x5, x6, x9, x10, x11 => if x11 < x10 then (if 0 ≤ x11 then (if x11 < (x9.length : Int) then ((pinfoldref30_ends.f ((rd_T36 x9 x11).f0) ((rd_T36 x9 x11).f1) ((rd_T36 x9 x11).f2) ((rd_T36 x9 x11).f3) ((rd_T36 x9 x11).f4) x1).bind fun t210 => (if t210 = true then (pinfoldref30_Waited.j1 k x1 x5 false x9 x10 x11 ((rd_T36 x9 x11).f0) ((rd_T36 x9 x11).f1) ((rd_T36 x9 x11).f2) ((rd_T36 x9 x11).f3) ((rd_T36 x9 x11).f4)) else (pinfoldref30_Waited.j1 k x1 x5 x6 x9 x10 x11 ((rd_T36 x9 x11).f0) ((rd_T36 x9 x11).f1) ((rd_T36 x9 x11).f2) ((rd_T36 x9 x11).f3) ((rd_T36 x9 x11).f4)))) else (none)) else (none)) else (some x5)
def pinfoldref30_Waited.j1 : Nat → Int → Int → Bool → List (S36) → Int → Int → Int → Int → Int → Int → Int → Option (Int)
 | 0, _, _, _, _, _, _, _, _, _, _, _ => none
 | k + 1, x1, x5, x6, x9, x10, x11, x210000, x210001, x210002, x210003, x210004 => if x6 = true then (if x210001 = x1 then (if x210000 = 5 then (pinfoldref30_Waited.l0 k x1 (wrap64 (x5 + 1)) true x9 x10 (wrap64 (x11 + 1))) else (pinfoldref30_Waited.l0 k x1 (wrap64 (x5 + 1)) x6 x9 x10 (wrap64 (x11 + 1)))) else (pinfoldref30_Waited.l0 k x1 (wrap64 (x5 + 1)) x6 x9 x10 (wrap64 (x11 + 1)))) else (if x210001 = x1 then (if x210000 = 5 then (pinfoldref30_Waited.l0 k x1 x5 true x9 x10 (wrap64 (x11 + 1))) else (pinfoldref30_Waited.l0 k x1 x5 x6 x9 x10 (wrap64 (x11 + 1)))) else (pinfoldref30_Waited.l0 k x1 x5 x6 x9 x10 (wrap64 (x11 + 1))))
end
def pinfoldref30_Waited.f (k : Nat) (l0 : List (S36)) (a1 : Int) : Option (Int) := pinfoldref30_Waited.l0 k a1 0 false l0 (l0.length : Int) 0
theorem pinfoldref30_Waited.mono_l : ∀ k, (∀ y0 y1 y2 y3 y4 y5, LeO (pinfoldref30_Waited.l0 k y0 y1 y2 y3 y4 y5) (pinfoldref30_Waited.l0 (k + 1) y0 y1 y2 y3 y4 y5)) ∧ (∀ y0 y1 y2 y3 y4 y5 y6 y7 y8 y9 y10, LeO (pinfoldref30_Waited.j1 k y0 y1 y2 y3 y4 y5 y6 y7 y8 y9 y10) (pinfoldref30_Waited.j1 (k + 1) y0 y1 y2 y3 y4 y5 y6 y7 y8 y9 y10))
 | 0 => ⟨fun _ _ _ _ _ _ r h => by simp [pinfoldref30_Waited.l0] at h, fun _ _ _ _ _ _ _ _ _ _ _ r h => by simp [pinfoldref30_Waited.j1] at h⟩
 | k + 1 => by
  obtain ⟨ih0, ih1⟩ := pinfoldref30_Waited.mono_l k
  refine ⟨?_, ?_⟩
  ·intro y0 y1 y2 y3 y4 y5
   unfold pinfoldref30_Waited.l0
   repeat' first
   | (with_reducible exact ih0 _ _ _ _ _ _)
   | (with_reducible exact ih1 _ _ _ _ _ _ _ _ _ _ _)
   | (with_reducible exact LeO.refl _)
   | (with_reducible exact LeO.none _)
   | (with_reducible refine LeO.ite ?_ ?_)
   | (with_reducible refine LeO.bind ?_ (fun _ => ?_))
   | exact ih0 _ _ _ _ _ _
   | exact ih1 _ _ _ _ _ _ _ _ _ _ _
   | exact LeO.none _
   | refine LeO.ite ?_ ?_
   | refine LeO.bind ?_ (fun _ => ?_)
  ·intro y0 y1 y2 y3 y4 y5 y6 y7 y8 y9 y10
   unfold pinfoldref30_Waited.j1
   repeat' first
   | (with_reducible exact ih0 _ _ _ _ _ _)
   | (with_reducible exact ih1 _ _ _ _ _ _ _ _ _ _ _)
   | (with_reducible exact LeO.refl _)
   | (with_reducible exact LeO.none _)
   | (with_reducible refine LeO.ite ?_ ?_)
   | (with_reducible refine LeO.bind ?_ (fun _ => ?_))
   | exact ih0 _ _ _ _ _ _
   | exact ih1 _ _ _ _ _ _ _ _ _ _ _
   | exact LeO.none _
   | refine LeO.ite ?_ ?_
   | refine LeO.bind ?_ (fun _ => ?_)
theorem pinfoldref30_Waited.mono : ∀ a0 a1 k, LeO (pinfoldref30_Waited.f k a0 a1) (pinfoldref30_Waited.f (k + 1) a0 a1) := by
 intro a0 a1 k
 obtain ⟨ih0, ih1⟩ := pinfoldref30_Waited.mono_l k
 unfold pinfoldref30_Waited.f
 repeat' first
   | (with_reducible exact ih0 _ _ _ _ _ _)
   | (with_reducible exact ih1 _ _ _ _ _ _ _ _ _ _ _)
   | (with_reducible exact LeO.refl _)
   | (with_reducible exact LeO.none _)
   | (with_reducible refine LeO.ite ?_ ?_)
   | (with_reducible refine LeO.bind ?_ (fun _ => ?_))
   | exact ih0 _ _ _ _ _ _
   | exact ih1 _ _ _ _ _ _ _ _ _ _ _
   | exact LeO.none _
   | refine LeO.ite ?_ ?_
   | refine LeO.bind ?_ (fun _ => ?_)
set_option maxHeartbeats 8000000 in
set_option maxRecDepth 100000 in
theorem pinfoldref30_Waited.calls (k : Nat) (A0 : Option Addr) (c0 : Nat) (l0 : List (S36)) (a1 : Int) (r : Int) (w : World) (hr0 : Kd.C k36 w A0 l0.length l0) (hc0 : l0.length ≤ c0) (h : pinfoldref30_Waited.f k l0 a1 = some r) :
  Calls Try.prog 26 #[.slice A0 l0.length c0, .int .i64 a1] w fun e w' => e = .returned (.int .i64 r) ∧ Below w.heap.size w w' := by
 have hu36 := Try.underlying36
 have HR0 := Aside0.mk hr0
 have HC0 := Aside0.mk hc0
 clear hr0 hc0
 have HB := Aside0.mk (Below.refl w.heap.size w)
 have H : (pinfoldref30_Waited.l0 k a1 0 false l0 (l0.length : Int) 0) = some r := h
 clear h
 have H' := Aside0.mk H
 clear H
 go_enter Try.func26, Try.ntmps26
 go_wp2
 go_loopg [5, 6, 11] k (fun kq v5 v6 v11 w' => ∃ (x5_1 : Int) (x6_1 : Bool) (x11_1 : Int), v5 = .int .i64 x5_1 ∧ v6 = .bool x6_1 ∧ v11 = .int .i64 x11_1 ∧ Aside0 (pinfoldref30_Waited.l0 kq a1 x5_1 x6_1 l0 (l0.length : Int) x11_1 = some r) ∧ Aside0 (kq ≤ k) ∧ Aside0 (Below w.heap.size w w'))
 case atStart => exact ⟨(0), (false), (0), (by first|rfl|(simp;done)|(simp [*];done)), (by first|rfl|(simp;done)|(simp [*];done)), (by first|rfl|(simp;done)|(simp [*];done)), H', ⟨Nat.le_refl _⟩, ⟨by repeat (with_reducible first|exact HB.out|apply xa|apply xb|apply xc)⟩⟩
 case round =>
  clear H'
  try clear c2
  try clear p2
  obtain ⟨x5_1, x6_1, x11_1, rfl, rfl, rfl, HA, HK1, HB⟩ := hrel
  cases gk with
  | zero => exact absurd HA.out (by simp [pinfoldref30_Waited.l0])
  | succ k1 =>
   have H := HA.out
   clear HA
   simp only [pinfoldref30_Waited.l0] at H
   by_cases c3 : x11_1 < (l0.length : Int)
   ·rw [if_pos c3] at H
    have c3b0 : decide (x11_1 < (l0.length : Int)) = true := decide_eq_true c3
    clear c3
    by_cases c4 : 0 ≤ x11_1
    ·rw [if_pos c4] at H
     have c4b0 : decide (0 ≤ x11_1) = true := decide_eq_true c4
     clear c4
     by_cases c5 : x11_1 < (l0.length : Int)
     ·rw [if_pos c5] at H
      have c5b0 : decide (x11_1 < (l0.length : Int)) = true := decide_eq_true c5
      clear c5
      replace H := Option.bind_eq_some_iff.mp H
      obtain ⟨t210, A60, H⟩ := H
      replace H : (if t210 = true then (pinfoldref30_Waited.j1 k1 a1 x5_1 false l0 (l0.length : Int) x11_1 ((rd_T36 l0 x11_1).f0) ((rd_T36 l0 x11_1).f1) ((rd_T36 l0 x11_1).f2) ((rd_T36 l0 x11_1).f3) ((rd_T36 l0 x11_1).f4)) else (pinfoldref30_Waited.j1 k1 a1 x5_1 x6_1 l0 (l0.length : Int) x11_1 ((rd_T36 l0 x11_1).f0) ((rd_T36 l0 x11_1).f1) ((rd_T36 l0 x11_1).f2) ((rd_T36 l0 x11_1).f3) ((rd_T36 l0 x11_1).f4))) = some r := H
      have A6 := Aside0.mk A60
      clear A60
      have HC7 := Aside0.mk H
      clear H
      have p208 : 0 ≤ (x11_1 : Int) := of_decide_eq_true (by assumption)
      have q208 : x11_1 < (l0.length : Int) := of_decide_eq_true (by assumption)
      obtain ⟨ad208, e208, hx208_0, hx208_1, hx208_2, hx208_3, hx208_4⟩ := at_T36 HR0.out x11_1 p208 q208
      cases e208
      replace hx208_0 := (HB.out.cell (World.block_lt_of_cell? w _ hx208_0)).trans hx208_0
      replace hx208_1 := (HB.out.cell (World.block_lt_of_cell? w _ hx208_1)).trans hx208_1
      replace hx208_2 := (HB.out.cell (World.block_lt_of_cell? w _ hx208_2)).trans hx208_2
      replace hx208_3 := (HB.out.cell (World.block_lt_of_cell? w _ hx208_3)).trans hx208_3
      replace hx208_4 := (HB.out.cell (World.block_lt_of_cell? w _ hx208_4)).trans hx208_4
      replace p208 := eq_true p208
      replace q208 := eq_true q208
      go_upto_if 17 with (first|((with_reducible refine gate_dst (N := 8) rfl ?_);refine box_event ?hg (N := 8) ?hd (cs := #[.int .i64 0, .int .i64 0, .int .i64 0, .int .i64 0, .int .i64 0]) (t := 36) ?hr ?_;(case hd => rfl);(case hg => rfl);(case hr => first|(go_simp;done)|(go_simp;rfl));intro gb209 hg w8 hbox hb;have n0_ := Aside0.mk (below_step (by repeat (with_reducible first|exact HB.out|apply xa|apply xb|apply xc)) hb);have n1_ := Aside0.mk (hbox);have n2_ := Aside0.mk ((by rw [hg];exact (below_size (by repeat (with_reducible first|exact HB.out|apply xa|apply xb|apply xc))) : w.heap.size ≤ gb209));have n3_ := Aside0.mk ((by rw [hg];exact (below_size (by repeat (with_reducible first|exact HB.out|apply xa|apply xb|apply xc))) : w.heap.size ≤ gb209));clear HB;have HB := n0_;have BK209 := n1_;have GW209 := n2_;have GE209 := n3_;clear n0_ n1_ n2_ n3_;clear hb hbox hg;have hcz9_0 : w8.cell? ⟨gb209, 0, none⟩ = some (.int .i64 0) := (blk_cell BK209.out 0).trans rfl;have hcz9_1 : w8.cell? ⟨gb209, 1, none⟩ = some (.int .i64 0) := (blk_cell BK209.out 1).trans rfl;have hcz9_2 : w8.cell? ⟨gb209, 2, none⟩ = some (.int .i64 0) := (blk_cell BK209.out 2).trans rfl;have hcz9_3 : w8.cell? ⟨gb209, 3, none⟩ = some (.int .i64 0) := (blk_cell BK209.out 3).trans rfl;have hcz9_4 : w8.cell? ⟨gb209, 4, none⟩ = some (.int .i64 0) := (blk_cell BK209.out 4).trans rfl;have hfz9_0 := blk_frozen BK209.out 0;have hfz9_1 := blk_frozen BK209.out 1;have hfz9_2 := blk_frozen BK209.out 2;have hfz9_3 := blk_frozen BK209.out 3;have hfz9_4 := blk_frozen BK209.out 4)|((with_reducible refine gate_callee (f := 58) rfl ?_);refine goesL_ (some 17) rfl rfl Try.func58 (by kernel_rfl) rfl #[.agg #[.int .i64 ((rd_T36 l0 x11_1).f0), .int .i64 ((rd_T36 l0 x11_1).f1), .int .i64 ((rd_T36 l0 x11_1).f2), .int .i64 ((rd_T36 l0 x11_1).f3), .int .i64 ((rd_T36 l0 x11_1).f4)], .int .i64 a1] rfl (by (try simp only [List.map_toArray, List.map_cons, List.map_nil]);first|done|rfl|(simp only [List.length_drop, List.length_take];rfl)) ?_;(with_reducible refine (pinfoldref30_ends.calls ((rd_T36 l0 x11_1).f0) ((rd_T36 l0 x11_1).f1) ((rd_T36 l0 x11_1).f2) ((rd_T36 l0 x11_1).f3) ((rd_T36 l0 x11_1).f4) a1 t210 _ A6.out).mono ?_);rintro e w10 ⟨rfl, hb⟩;refine ⟨_, rfl, ?_⟩;have n0_ := Aside0.mk (blk_below (g := gb209) (o := .cells #[.int .i64 ((rd_T36 l0 x11_1).f0), .int .i64 ((rd_T36 l0 x11_1).f1), .int .i64 ((rd_T36 l0 x11_1).f2), .int .i64 ((rd_T36 l0 x11_1).f3), .int .i64 ((rd_T36 l0 x11_1).f4)] 36 (0, 0)) (by (with_reducible repeat (first|apply blk_drewN|apply blk_drew|apply blk_alloc));refine blk_put (cs := #[.int .i64 ((rd_T36 l0 x11_1).f0), .int .i64 ((rd_T36 l0 x11_1).f1), .int .i64 ((rd_T36 l0 x11_1).f2), .int .i64 ((rd_T36 l0 x11_1).f3), .int .i64 0]) ?_ 4 _ rfl;(with_reducible repeat (first|apply blk_drewN|apply blk_drew|apply blk_alloc));refine blk_put (cs := #[.int .i64 ((rd_T36 l0 x11_1).f0), .int .i64 ((rd_T36 l0 x11_1).f1), .int .i64 ((rd_T36 l0 x11_1).f2), .int .i64 0, .int .i64 0]) ?_ 3 _ rfl;(with_reducible repeat (first|apply blk_drewN|apply blk_drew|apply blk_alloc));refine blk_put (cs := #[.int .i64 ((rd_T36 l0 x11_1).f0), .int .i64 ((rd_T36 l0 x11_1).f1), .int .i64 0, .int .i64 0, .int .i64 0]) ?_ 2 _ rfl;(with_reducible repeat (first|apply blk_drewN|apply blk_drew|apply blk_alloc));refine blk_put (cs := #[.int .i64 ((rd_T36 l0 x11_1).f0), .int .i64 0, .int .i64 0, .int .i64 0, .int .i64 0]) ?_ 1 _ rfl;(with_reducible repeat (first|apply blk_drewN|apply blk_drew|apply blk_alloc));refine blk_put (cs := #[.int .i64 0, .int .i64 0, .int .i64 0, .int .i64 0, .int .i64 0]) ?_ 0 _ rfl;(with_reducible repeat (first|apply blk_drewN|apply blk_drew|apply blk_alloc));exact BK209.out) hb);have n1_ := Aside0.mk (below_step (by repeat (first|(with_reducible first|exact HB.out|apply xa|apply xb|apply xc|refine below_set ?_ GE209.out)|exact HB.out)) hb);clear BK209;clear HB;have BK209 := n0_;have HB := n1_;clear n0_ n1_;(try clear hb);(try clear hb2);(try clear hk);(try clear hi)))
      (try simp only [Act.put, List.setIfInBounds_toArray, List.set_cons_zero, List.set_cons_succ])
      go_cut [6] (fun v6 wc => ∃ (kq : Nat) (x6_6 : Bool), v6 = .bool x6_6 ∧ Aside0 (pinfoldref30_Waited.j1 kq a1 x5_1 x6_6 l0 (l0.length : Int) x11_1 ((rd_T36 l0 x11_1).f0) ((rd_T36 l0 x11_1).f1) ((rd_T36 l0 x11_1).f2) ((rd_T36 l0 x11_1).f3) ((rd_T36 l0 x11_1).f4) = some r) ∧ Aside0 (kq ≤ k1) ∧ Aside0 (wc.heap[gb209]? = some (.cells #[.int .i64 ((rd_T36 l0 x11_1).f0), .int .i64 ((rd_T36 l0 x11_1).f1), .int .i64 ((rd_T36 l0 x11_1).f2), .int .i64 ((rd_T36 l0 x11_1).f3), .int .i64 ((rd_T36 l0 x11_1).f4)] 36 (0, 0))) ∧ Aside0 (Below w.heap.size w wc))
      case first =>
       have H := HC7.out
       clear HC7
       by_cases c11 : t210 = true
       ·subst c11
        have H1 : (pinfoldref30_Waited.j1 k1 a1 x5_1 false l0 (l0.length : Int) x11_1 ((rd_T36 l0 x11_1).f0) ((rd_T36 l0 x11_1).f1) ((rd_T36 l0 x11_1).f2) ((rd_T36 l0 x11_1).f3) ((rd_T36 l0 x11_1).f4)) = some r := by rw [if_pos rfl] at H;exact H
        clear H
        have H := H1
        clear H1
        have H' := Aside0.mk H
        clear H
        go_wp2
        go_meet
        case rel => exact ⟨_, (false), (by first|rfl|(simp;done)|(simp [*];done)), H', ⟨by have := HK1.out;first|omega|exact Nat.le_refl _⟩, ⟨by (with_reducible repeat (first|apply blk_drewN|apply blk_drew|apply blk_alloc));exact BK209.out⟩, ⟨by repeat (first|(with_reducible first|exact HB.out|apply xa|apply xb|apply xc|refine below_set ?_ GE209.out)|exact HB.out)⟩⟩
       ·replace c11 := Bool.eq_false_iff.mpr c11
        subst c11
        have H1 : (pinfoldref30_Waited.j1 k1 a1 x5_1 x6_1 l0 (l0.length : Int) x11_1 ((rd_T36 l0 x11_1).f0) ((rd_T36 l0 x11_1).f1) ((rd_T36 l0 x11_1).f2) ((rd_T36 l0 x11_1).f3) ((rd_T36 l0 x11_1).f4)) = some r := by rw [if_neg (show ¬ (false = true) by decide)] at H;exact H
        clear H
        have H := H1
        clear H1
        have H' := Aside0.mk H
        clear H
        go_wp2
        go_meet
        case rel => exact ⟨_, (x6_1), (by first|rfl|(simp;done)|(simp [*];done)), H', ⟨by have := HK1.out;first|omega|exact Nat.le_refl _⟩, ⟨by (with_reducible repeat (first|apply blk_drewN|apply blk_drew|apply blk_alloc));exact BK209.out⟩, ⟨by repeat (first|(with_reducible first|exact HB.out|apply xa|apply xb|apply xc|refine below_set ?_ GE209.out)|exact HB.out)⟩⟩
      case rest =>
       clear HC7
       try clear c1
       try clear c2
       try clear p2
       try clear q2
       try clear hx2
       try clear c3
       try clear c3b0
       try clear c4
       try clear c4b0
       try clear c5
       try clear c5b0
       try clear c11
       try clear hcz9_0
       try clear hcz9_1
       try clear hcz9_2
       try clear hcz9_3
       try clear hcz9_4
       try clear hfz9_0
       try clear hfz9_1
       try clear hfz9_2
       try clear hfz9_3
       try clear hfz9_4
       try clear hx208_0
       try clear hx208_1
       try clear hx208_2
       try clear hx208_3
       try clear hx208_4
       try clear p2
       try clear p208
       try clear q208
       obtain ⟨kq, x6_6, rfl, HA, HJ6, BK209, HB⟩ := hcut
       cases kq with
       | zero => exact absurd HA.out (by simp [pinfoldref30_Waited.j1])
       | succ kj6 =>
        have H := HA.out
        clear HA
        simp only [pinfoldref30_Waited.j1] at H
        by_cases c12 : x6_6 = true
        ·subst c12
         have H1 : (if ((rd_T36 l0 x11_1).f1) = a1 then (if ((rd_T36 l0 x11_1).f0) = 5 then (pinfoldref30_Waited.l0 kj6 a1 (wrap64 (x5_1 + 1)) true l0 (l0.length : Int) (wrap64 (x11_1 + 1))) else (pinfoldref30_Waited.l0 kj6 a1 (wrap64 (x5_1 + 1)) true l0 (l0.length : Int) (wrap64 (x11_1 + 1)))) else (pinfoldref30_Waited.l0 kj6 a1 (wrap64 (x5_1 + 1)) true l0 (l0.length : Int) (wrap64 (x11_1 + 1)))) = some r := by rw [if_pos rfl] at H;exact H
         clear H
         have H := H1
         clear H1
         by_cases c13 : ((rd_T36 l0 x11_1).f1) = a1
         ·rw [if_pos c13] at H
          have c13b0 : (((rd_T36 l0 x11_1).f1) == a1) = true := beq_iff_eq.mpr c13
          have c13b1 : (((rd_T36 l0 x11_1).f1) != a1) = false := bne_eq_false_iff_eq.mpr c13
          clear c13
          by_cases c14 : ((rd_T36 l0 x11_1).f0) = 5
          ·rw [if_pos c14] at H
           have c14b0 : (((rd_T36 l0 x11_1).f0) == 5) = true := beq_iff_eq.mpr c14
           have c14b1 : (((rd_T36 l0 x11_1).f0) != 5) = false := bne_eq_false_iff_eq.mpr c14
           clear c14
           have H' := Aside0.mk H
           clear H
           have hcz15_0 : wc.cell? ⟨gb209, 0, none⟩ = some (.int .i64 ((rd_T36 l0 x11_1).f0)) := (blk_cell BK209.out 0).trans rfl
           have hcz15_1 : wc.cell? ⟨gb209, 1, none⟩ = some (.int .i64 ((rd_T36 l0 x11_1).f1)) := (blk_cell BK209.out 1).trans rfl
           have hcz15_2 : wc.cell? ⟨gb209, 2, none⟩ = some (.int .i64 ((rd_T36 l0 x11_1).f2)) := (blk_cell BK209.out 2).trans rfl
           have hcz15_3 : wc.cell? ⟨gb209, 3, none⟩ = some (.int .i64 ((rd_T36 l0 x11_1).f3)) := (blk_cell BK209.out 3).trans rfl
           have hcz15_4 : wc.cell? ⟨gb209, 4, none⟩ = some (.int .i64 ((rd_T36 l0 x11_1).f4)) := (blk_cell BK209.out 4).trans rfl
           have hfz15_0 := blk_frozen BK209.out 0
           have hfz15_1 := blk_frozen BK209.out 1
           have hfz15_2 := blk_frozen BK209.out 2
           have hfz15_3 := blk_frozen BK209.out 3
           have hfz15_4 := blk_frozen BK209.out 4
           go_wp2
           go_roundg kj6
           case measure => have := HK1.out;have := HJ6.out;omega
           case rel => exact ⟨(wrap64 (x5_1 + 1)), (true), (wrap64 (x11_1 + 1)), (by first|rfl|(simp;done)|(simp [*];done)), (by first|rfl|(simp;done)|(simp [*];done)), (by first|rfl|(simp;done)|(simp [*];done)), H', ⟨by have := HK1.out;have := HJ6.out;omega⟩, ⟨by repeat (first|(with_reducible first|exact HB.out|apply xa|apply xb|apply xc|refine below_set ?_ GE209.out)|exact HB.out)⟩⟩
          ·rw [if_neg c14] at H
           have c14b0 : (((rd_T36 l0 x11_1).f0) == 5) = false := beq_eq_false_iff_ne.mpr c14
           have c14b1 : (((rd_T36 l0 x11_1).f0) != 5) = true := bne_iff_ne.mpr c14
           have H' := Aside0.mk H
           clear H
           have hcz16_0 : wc.cell? ⟨gb209, 0, none⟩ = some (.int .i64 ((rd_T36 l0 x11_1).f0)) := (blk_cell BK209.out 0).trans rfl
           have hcz16_1 : wc.cell? ⟨gb209, 1, none⟩ = some (.int .i64 ((rd_T36 l0 x11_1).f1)) := (blk_cell BK209.out 1).trans rfl
           have hcz16_2 : wc.cell? ⟨gb209, 2, none⟩ = some (.int .i64 ((rd_T36 l0 x11_1).f2)) := (blk_cell BK209.out 2).trans rfl
           have hcz16_3 : wc.cell? ⟨gb209, 3, none⟩ = some (.int .i64 ((rd_T36 l0 x11_1).f3)) := (blk_cell BK209.out 3).trans rfl
           have hcz16_4 : wc.cell? ⟨gb209, 4, none⟩ = some (.int .i64 ((rd_T36 l0 x11_1).f4)) := (blk_cell BK209.out 4).trans rfl
           have hfz16_0 := blk_frozen BK209.out 0
           have hfz16_1 := blk_frozen BK209.out 1
           have hfz16_2 := blk_frozen BK209.out 2
           have hfz16_3 := blk_frozen BK209.out 3
           have hfz16_4 := blk_frozen BK209.out 4
           go_wp2
           go_roundg kj6
           case measure => have := HK1.out;have := HJ6.out;omega
           case rel => exact ⟨(wrap64 (x5_1 + 1)), (true), (wrap64 (x11_1 + 1)), (by first|rfl|(simp;done)|(simp [*];done)), (by first|rfl|(simp;done)|(simp [*];done)), (by first|rfl|(simp;done)|(simp [*];done)), H', ⟨by have := HK1.out;have := HJ6.out;omega⟩, ⟨by repeat (first|(with_reducible first|exact HB.out|apply xa|apply xb|apply xc|refine below_set ?_ GE209.out)|exact HB.out)⟩⟩
         ·rw [if_neg c13] at H
          have c13b0 : (((rd_T36 l0 x11_1).f1) == a1) = false := beq_eq_false_iff_ne.mpr c13
          have c13b1 : (((rd_T36 l0 x11_1).f1) != a1) = true := bne_iff_ne.mpr c13
          have H' := Aside0.mk H
          clear H
          have hcz17_0 : wc.cell? ⟨gb209, 0, none⟩ = some (.int .i64 ((rd_T36 l0 x11_1).f0)) := (blk_cell BK209.out 0).trans rfl
          have hcz17_1 : wc.cell? ⟨gb209, 1, none⟩ = some (.int .i64 ((rd_T36 l0 x11_1).f1)) := (blk_cell BK209.out 1).trans rfl
          have hcz17_2 : wc.cell? ⟨gb209, 2, none⟩ = some (.int .i64 ((rd_T36 l0 x11_1).f2)) := (blk_cell BK209.out 2).trans rfl
          have hcz17_3 : wc.cell? ⟨gb209, 3, none⟩ = some (.int .i64 ((rd_T36 l0 x11_1).f3)) := (blk_cell BK209.out 3).trans rfl
          have hcz17_4 : wc.cell? ⟨gb209, 4, none⟩ = some (.int .i64 ((rd_T36 l0 x11_1).f4)) := (blk_cell BK209.out 4).trans rfl
          have hfz17_0 := blk_frozen BK209.out 0
          have hfz17_1 := blk_frozen BK209.out 1
          have hfz17_2 := blk_frozen BK209.out 2
          have hfz17_3 := blk_frozen BK209.out 3
          have hfz17_4 := blk_frozen BK209.out 4
          go_wp2
          go_roundg kj6
          case measure => have := HK1.out;have := HJ6.out;omega
          case rel => exact ⟨(wrap64 (x5_1 + 1)), (true), (wrap64 (x11_1 + 1)), (by first|rfl|(simp;done)|(simp [*];done)), (by first|rfl|(simp;done)|(simp [*];done)), (by first|rfl|(simp;done)|(simp [*];done)), H', ⟨by have := HK1.out;have := HJ6.out;omega⟩, ⟨by repeat (first|(with_reducible first|exact HB.out|apply xa|apply xb|apply xc|refine below_set ?_ GE209.out)|exact HB.out)⟩⟩
        ·replace c12 := Bool.eq_false_iff.mpr c12
         subst c12
         have H1 : (if ((rd_T36 l0 x11_1).f1) = a1 then (if ((rd_T36 l0 x11_1).f0) = 5 then (pinfoldref30_Waited.l0 kj6 a1 x5_1 true l0 (l0.length : Int) (wrap64 (x11_1 + 1))) else (pinfoldref30_Waited.l0 kj6 a1 x5_1 false l0 (l0.length : Int) (wrap64 (x11_1 + 1)))) else (pinfoldref30_Waited.l0 kj6 a1 x5_1 false l0 (l0.length : Int) (wrap64 (x11_1 + 1)))) = some r := by rw [if_neg (show ¬ (false = true) by decide)] at H;exact H
         clear H
         have H := H1
         clear H1
         by_cases c18 : ((rd_T36 l0 x11_1).f1) = a1
         ·rw [if_pos c18] at H
          have c18b0 : (((rd_T36 l0 x11_1).f1) == a1) = true := beq_iff_eq.mpr c18
          have c18b1 : (((rd_T36 l0 x11_1).f1) != a1) = false := bne_eq_false_iff_eq.mpr c18
          clear c18
          by_cases c19 : ((rd_T36 l0 x11_1).f0) = 5
          ·rw [if_pos c19] at H
           have c19b0 : (((rd_T36 l0 x11_1).f0) == 5) = true := beq_iff_eq.mpr c19
           have c19b1 : (((rd_T36 l0 x11_1).f0) != 5) = false := bne_eq_false_iff_eq.mpr c19
           clear c19
           have H' := Aside0.mk H
           clear H
           have hcz20_0 : wc.cell? ⟨gb209, 0, none⟩ = some (.int .i64 ((rd_T36 l0 x11_1).f0)) := (blk_cell BK209.out 0).trans rfl
           have hcz20_1 : wc.cell? ⟨gb209, 1, none⟩ = some (.int .i64 ((rd_T36 l0 x11_1).f1)) := (blk_cell BK209.out 1).trans rfl
           have hcz20_2 : wc.cell? ⟨gb209, 2, none⟩ = some (.int .i64 ((rd_T36 l0 x11_1).f2)) := (blk_cell BK209.out 2).trans rfl
           have hcz20_3 : wc.cell? ⟨gb209, 3, none⟩ = some (.int .i64 ((rd_T36 l0 x11_1).f3)) := (blk_cell BK209.out 3).trans rfl
           have hcz20_4 : wc.cell? ⟨gb209, 4, none⟩ = some (.int .i64 ((rd_T36 l0 x11_1).f4)) := (blk_cell BK209.out 4).trans rfl
           have hfz20_0 := blk_frozen BK209.out 0
           have hfz20_1 := blk_frozen BK209.out 1
           have hfz20_2 := blk_frozen BK209.out 2
           have hfz20_3 := blk_frozen BK209.out 3
           have hfz20_4 := blk_frozen BK209.out 4
           go_wp2
           go_roundg kj6
           case measure => have := HK1.out;have := HJ6.out;omega
           case rel => exact ⟨(x5_1), (true), (wrap64 (x11_1 + 1)), (by first|rfl|(simp;done)|(simp [*];done)), (by first|rfl|(simp;done)|(simp [*];done)), (by first|rfl|(simp;done)|(simp [*];done)), H', ⟨by have := HK1.out;have := HJ6.out;omega⟩, ⟨by repeat (first|(with_reducible first|exact HB.out|apply xa|apply xb|apply xc|refine below_set ?_ GE209.out)|exact HB.out)⟩⟩
          ·rw [if_neg c19] at H
           have c19b0 : (((rd_T36 l0 x11_1).f0) == 5) = false := beq_eq_false_iff_ne.mpr c19
           have c19b1 : (((rd_T36 l0 x11_1).f0) != 5) = true := bne_iff_ne.mpr c19
           have H' := Aside0.mk H
           clear H
           have hcz21_0 : wc.cell? ⟨gb209, 0, none⟩ = some (.int .i64 ((rd_T36 l0 x11_1).f0)) := (blk_cell BK209.out 0).trans rfl
           have hcz21_1 : wc.cell? ⟨gb209, 1, none⟩ = some (.int .i64 ((rd_T36 l0 x11_1).f1)) := (blk_cell BK209.out 1).trans rfl
           have hcz21_2 : wc.cell? ⟨gb209, 2, none⟩ = some (.int .i64 ((rd_T36 l0 x11_1).f2)) := (blk_cell BK209.out 2).trans rfl
           have hcz21_3 : wc.cell? ⟨gb209, 3, none⟩ = some (.int .i64 ((rd_T36 l0 x11_1).f3)) := (blk_cell BK209.out 3).trans rfl
           have hcz21_4 : wc.cell? ⟨gb209, 4, none⟩ = some (.int .i64 ((rd_T36 l0 x11_1).f4)) := (blk_cell BK209.out 4).trans rfl
           have hfz21_0 := blk_frozen BK209.out 0
           have hfz21_1 := blk_frozen BK209.out 1
           have hfz21_2 := blk_frozen BK209.out 2
           have hfz21_3 := blk_frozen BK209.out 3
           have hfz21_4 := blk_frozen BK209.out 4
           go_wp2
           go_roundg kj6
           case measure => have := HK1.out;have := HJ6.out;omega
           case rel => exact ⟨(x5_1), (false), (wrap64 (x11_1 + 1)), (by first|rfl|(simp;done)|(simp [*];done)), (by first|rfl|(simp;done)|(simp [*];done)), (by first|rfl|(simp;done)|(simp [*];done)), H', ⟨by have := HK1.out;have := HJ6.out;omega⟩, ⟨by repeat (first|(with_reducible first|exact HB.out|apply xa|apply xb|apply xc|refine below_set ?_ GE209.out)|exact HB.out)⟩⟩
         ·rw [if_neg c18] at H
          have c18b0 : (((rd_T36 l0 x11_1).f1) == a1) = false := beq_eq_false_iff_ne.mpr c18
          have c18b1 : (((rd_T36 l0 x11_1).f1) != a1) = true := bne_iff_ne.mpr c18
          have H' := Aside0.mk H
          clear H
          have hcz22_0 : wc.cell? ⟨gb209, 0, none⟩ = some (.int .i64 ((rd_T36 l0 x11_1).f0)) := (blk_cell BK209.out 0).trans rfl
          have hcz22_1 : wc.cell? ⟨gb209, 1, none⟩ = some (.int .i64 ((rd_T36 l0 x11_1).f1)) := (blk_cell BK209.out 1).trans rfl
          have hcz22_2 : wc.cell? ⟨gb209, 2, none⟩ = some (.int .i64 ((rd_T36 l0 x11_1).f2)) := (blk_cell BK209.out 2).trans rfl
          have hcz22_3 : wc.cell? ⟨gb209, 3, none⟩ = some (.int .i64 ((rd_T36 l0 x11_1).f3)) := (blk_cell BK209.out 3).trans rfl
          have hcz22_4 : wc.cell? ⟨gb209, 4, none⟩ = some (.int .i64 ((rd_T36 l0 x11_1).f4)) := (blk_cell BK209.out 4).trans rfl
          have hfz22_0 := blk_frozen BK209.out 0
          have hfz22_1 := blk_frozen BK209.out 1
          have hfz22_2 := blk_frozen BK209.out 2
          have hfz22_3 := blk_frozen BK209.out 3
          have hfz22_4 := blk_frozen BK209.out 4
          go_wp2
          go_roundg kj6
          case measure => have := HK1.out;have := HJ6.out;omega
          case rel => exact ⟨(x5_1), (false), (wrap64 (x11_1 + 1)), (by first|rfl|(simp;done)|(simp [*];done)), (by first|rfl|(simp;done)|(simp [*];done)), (by first|rfl|(simp;done)|(simp [*];done)), H', ⟨by have := HK1.out;have := HJ6.out;omega⟩, ⟨by repeat (first|(with_reducible first|exact HB.out|apply xa|apply xb|apply xc|refine below_set ?_ GE209.out)|exact HB.out)⟩⟩
     ·rw [if_neg c5] at H
      exact absurd H (by simp)
    ·rw [if_neg c4] at H
     exact absurd H (by simp)
   ·rw [if_neg c3] at H
    have c3b0 : decide (x11_1 < (l0.length : Int)) = false := decide_eq_false c3
    clear c3
    obtain rfl := Option.some.inj H
    go_wp2
    go_ret
    exact ⟨by first|rfl|(simp [errW_none, errW_some] <;> rfl)|(simp [*, errW_none, errW_some] <;> rfl), by repeat (with_reducible first|exact HB.out|apply xa|apply xb|apply xc)⟩

end Go.Proofs.Ytkegdcnnankokaa.PGan
