/- Functions of the program as Lean functions, and proofs that the code comes to their answers: printed by this session's program. -/
import Derived.Test.YtkegdcnnankokaaPGanx0
import Derived.Test.YtkegdcnnankokaaPGanx4
import Derived.Test.YtkegdcnnankokaaPGanx6
import Derived.Test.YtkegdcnnankokaaPGanx7
import Derived.Test.YtkegdcnnankokaaPGanx8
namespace Go.Proofs.Ytkegdcnnankokaa.PGan
open Go.RowKit Go.Proofs.YtkegdcnnankokaaW.PrintWords Go.Proofs.YtkegdcnnankokaaW.PrintLast Go.Proofs.YtkegdcnnankokaaW.PrintMore
attribute [local go_sem] max2_int min2_int max_two min_two max_three min_three max_four min_four   -- for this text's walks alone
set_option linter.unusedVariables false
set_option linter.unusedSimpArgs false

/-! ### pinfoldlaw30_GanttCounts: function 5 -/
mutual
def pinfoldlaw30_GanttCounts.l0 : Nat → List (S36) → Int → Int → Int → Int → List (S36) → Int → Int → Option (Bool)
 | 0, _, _, _, _, _, _, _, _ => none
 | k + 1, x0, x1, x2, x7, x8, x13, x14, x15 => if x15 < x14 then (if 0 ≤ x15 then (if x15 < (x13.length : Int) then (if ((rd_T36 x13 x15).f0) = 3 then (pinfoldlaw30_GanttCounts.j1 k x0 x1 x2 x7 x8 x13 x14 x15 (((rd_T36 x13 x15).f2) == x2) ((rd_T36 x13 x15).f0) ((rd_T36 x13 x15).f1) ((rd_T36 x13 x15).f2) ((rd_T36 x13 x15).f3) ((rd_T36 x13 x15).f4)) else (pinfoldlaw30_GanttCounts.j1 k x0 x1 x2 x7 x8 x13 x14 x15 false ((rd_T36 x13 x15).f0) ((rd_T36 x13 x15).f1) ((rd_T36 x13 x15).f2) ((rd_T36 x13 x15).f3) ((rd_T36 x13 x15).f4))) else (none)) else (none)) else ((gantt_Busy.f k x0 x2).bind fun t217 => (if t217 = x7 then ((gantt_Ran.f k x0 x1).bind fun t218 => (if t218 = x8 then ((gantt_Went.f k x0 x1).bind fun t219 => ((pinfoldref30_Went.f k x0 x1).bind fun t222 => ((pinfoldref04_Same.f k t219 t222).bind fun t225 => (if t225 = true then ((gantt_Waited.f k x0 x1).bind fun t226 => ((pinfoldref30_Waited.f k x0 x1).bind fun t227 => (if t226 = t227 then ((pinfoldlaw30_lives.f).bind fun t228 => (some t228)) else (some false)))) else (some false))))) else (some false))) else (some false)))
def pinfoldlaw30_GanttCounts.j1 : Nat → List (S36) → Int → Int → Int → Int → List (S36) → Int → Int → Bool → Int → Int → Int → Int → Int → Option (Bool)
 | 0, _, _, _, _, _, _, _, _, _, _, _, _, _, _ => none
 | k + 1, x0, x1, x2, x7, x8, x13, x14, x15, x27, x217000, x217001, x217002, x217003, x217004 => if x27 = true then (if x217000 = 3 then (if x217001 = x1 then (pinfoldlaw30_GanttCounts.l0 k x0 x1 x2 (wrap64 (x7 + 1)) (wrap64 (x8 + 1)) x13 x14 (wrap64 (x15 + 1))) else (pinfoldlaw30_GanttCounts.l0 k x0 x1 x2 (wrap64 (x7 + 1)) x8 x13 x14 (wrap64 (x15 + 1)))) else (pinfoldlaw30_GanttCounts.l0 k x0 x1 x2 (wrap64 (x7 + 1)) x8 x13 x14 (wrap64 (x15 + 1)))) else (if x217000 = 3 then (if x217001 = x1 then (pinfoldlaw30_GanttCounts.l0 k x0 x1 x2 x7 (wrap64 (x8 + 1)) x13 x14 (wrap64 (x15 + 1))) else (pinfoldlaw30_GanttCounts.l0 k x0 x1 x2 x7 x8 x13 x14 (wrap64 (x15 + 1)))) else (pinfoldlaw30_GanttCounts.l0 k x0 x1 x2 x7 x8 x13 x14 (wrap64 (x15 + 1))))
end
def pinfoldlaw30_GanttCounts.f (k : Nat) (l0 : List (S36)) (a1 : Int) (a2 : Int) : Option (Bool) := if 0 ≤ (mn (l0.length : Int) 60) then (if (mn (l0.length : Int) 60) ≤ (l0.length : Int) then ((some (l0.take ((mn (l0.length : Int) 60) : Int).toNat : List (S36))).bind fun y211 => (pinfoldlaw30_GanttCounts.l0 k y211 a1 a2 0 0 y211 (y211.length : Int) 0)) else (none)) else (none)
theorem pinfoldlaw30_GanttCounts.mono_l : ∀ k, (∀ y0 y1 y2 y3 y4 y5 y6 y7, LeO (pinfoldlaw30_GanttCounts.l0 k y0 y1 y2 y3 y4 y5 y6 y7) (pinfoldlaw30_GanttCounts.l0 (k + 1) y0 y1 y2 y3 y4 y5 y6 y7)) ∧ (∀ y0 y1 y2 y3 y4 y5 y6 y7 y8 y9 y10 y11 y12 y13, LeO (pinfoldlaw30_GanttCounts.j1 k y0 y1 y2 y3 y4 y5 y6 y7 y8 y9 y10 y11 y12 y13) (pinfoldlaw30_GanttCounts.j1 (k + 1) y0 y1 y2 y3 y4 y5 y6 y7 y8 y9 y10 y11 y12 y13))
 | 0 => ⟨fun _ _ _ _ _ _ _ _ r h => by simp [pinfoldlaw30_GanttCounts.l0] at h, fun _ _ _ _ _ _ _ _ _ _ _ _ _ _ r h => by simp [pinfoldlaw30_GanttCounts.j1] at h⟩
 | k + 1 => by
  obtain ⟨ih0, ih1⟩ := pinfoldlaw30_GanttCounts.mono_l k
  refine ⟨?_, ?_⟩
  ·intro y0 y1 y2 y3 y4 y5 y6 y7
   unfold pinfoldlaw30_GanttCounts.l0
   repeat' first
   | (with_reducible exact ih0 _ _ _ _ _ _ _ _)
   | (with_reducible exact ih1 _ _ _ _ _ _ _ _ _ _ _ _ _ _)
   | (with_reducible exact gantt_Busy.mono _ _ _)
   | (with_reducible exact gantt_Ran.mono _ _ _)
   | (with_reducible exact gantt_Waited.mono _ _ _)
   | (with_reducible exact gantt_Went.mono _ _ _)
   | (with_reducible exact pinfoldref04_Same.mono _ _ _)
   | (with_reducible exact pinfoldref30_Waited.mono _ _ _)
   | (with_reducible exact pinfoldref30_Went.mono _ _ _)
   | (with_reducible exact LeO.refl _)
   | (with_reducible exact LeO.none _)
   | (with_reducible refine LeO.ite ?_ ?_)
   | (with_reducible refine LeO.bind ?_ (fun _ => ?_))
   | exact ih0 _ _ _ _ _ _ _ _
   | exact ih1 _ _ _ _ _ _ _ _ _ _ _ _ _ _
   | exact gantt_Busy.mono _ _ _
   | exact gantt_Ran.mono _ _ _
   | exact gantt_Waited.mono _ _ _
   | exact gantt_Went.mono _ _ _
   | exact pinfoldref04_Same.mono _ _ _
   | exact pinfoldref30_Waited.mono _ _ _
   | exact pinfoldref30_Went.mono _ _ _
   | exact LeO.none _
   | refine LeO.ite ?_ ?_
   | refine LeO.bind ?_ (fun _ => ?_)
  ·intro y0 y1 y2 y3 y4 y5 y6 y7 y8 y9 y10 y11 y12 y13
   unfold pinfoldlaw30_GanttCounts.j1
   repeat' first
   | (with_reducible exact ih0 _ _ _ _ _ _ _ _)
   | (with_reducible exact ih1 _ _ _ _ _ _ _ _ _ _ _ _ _ _)
   | (with_reducible exact gantt_Busy.mono _ _ _)
   | (with_reducible exact gantt_Ran.mono _ _ _)
   | (with_reducible exact gantt_Waited.mono _ _ _)
   | (with_reducible exact gantt_Went.mono _ _ _)
   | (with_reducible exact pinfoldref04_Same.mono _ _ _)
   | (with_reducible exact pinfoldref30_Waited.mono _ _ _)
   | (with_reducible exact pinfoldref30_Went.mono _ _ _)
   | (with_reducible exact LeO.refl _)
   | (with_reducible exact LeO.none _)
   | (with_reducible refine LeO.ite ?_ ?_)
   | (with_reducible refine LeO.bind ?_ (fun _ => ?_))
   | exact ih0 _ _ _ _ _ _ _ _
   | exact ih1 _ _ _ _ _ _ _ _ _ _ _ _ _ _
   | exact gantt_Busy.mono _ _ _
   | exact gantt_Ran.mono _ _ _
   | exact gantt_Waited.mono _ _ _
   | exact gantt_Went.mono _ _ _
   | exact pinfoldref04_Same.mono _ _ _
   | exact pinfoldref30_Waited.mono _ _ _
   | exact pinfoldref30_Went.mono _ _ _
   | exact LeO.none _
   | refine LeO.ite ?_ ?_
   | refine LeO.bind ?_ (fun _ => ?_)
theorem pinfoldlaw30_GanttCounts.mono : ∀ a0 a1 a2 k, LeO (pinfoldlaw30_GanttCounts.f k a0 a1 a2) (pinfoldlaw30_GanttCounts.f (k + 1) a0 a1 a2) := by
 intro a0 a1 a2 k
 obtain ⟨ih0, ih1⟩ := pinfoldlaw30_GanttCounts.mono_l k
 unfold pinfoldlaw30_GanttCounts.f
 repeat' first
   | (with_reducible exact ih0 _ _ _ _ _ _ _ _)
   | (with_reducible exact ih1 _ _ _ _ _ _ _ _ _ _ _ _ _ _)
   | (with_reducible exact gantt_Busy.mono _ _ _)
   | (with_reducible exact gantt_Ran.mono _ _ _)
   | (with_reducible exact gantt_Waited.mono _ _ _)
   | (with_reducible exact gantt_Went.mono _ _ _)
   | (with_reducible exact pinfoldref04_Same.mono _ _ _)
   | (with_reducible exact pinfoldref30_Waited.mono _ _ _)
   | (with_reducible exact pinfoldref30_Went.mono _ _ _)
   | (with_reducible exact LeO.refl _)
   | (with_reducible exact LeO.none _)
   | (with_reducible refine LeO.ite ?_ ?_)
   | (with_reducible refine LeO.bind ?_ (fun _ => ?_))
   | exact ih0 _ _ _ _ _ _ _ _
   | exact ih1 _ _ _ _ _ _ _ _ _ _ _ _ _ _
   | exact gantt_Busy.mono _ _ _
   | exact gantt_Ran.mono _ _ _
   | exact gantt_Waited.mono _ _ _
   | exact gantt_Went.mono _ _ _
   | exact pinfoldref04_Same.mono _ _ _
   | exact pinfoldref30_Waited.mono _ _ _
   | exact pinfoldref30_Went.mono _ _ _
   | exact LeO.none _
   | refine LeO.ite ?_ ?_
   | refine LeO.bind ?_ (fun _ => ?_)
set_option maxHeartbeats 8000000 in
set_option maxRecDepth 100000 in
theorem pinfoldlaw30_GanttCounts.calls (k : Nat) (A0 : Option Addr) (c0 : Nat) (l0 : List (S36)) (a1 : Int) (a2 : Int) (r : Bool) (w : World) (hr0 : Kd.C k36 w A0 l0.length l0) (hc0 : l0.length ≤ c0) (h : pinfoldlaw30_GanttCounts.f k l0 a1 a2 = some r) :
  Calls Try.prog 5 #[.slice A0 l0.length c0, .int .i64 a1, .int .i64 a2] w fun e w' => e = .returned (.bool r) ∧ Below w.heap.size w w' := by
 have hu36 := Try.underlying36
 have HR0 := Aside0.mk hr0
 have HC0 := Aside0.mk hc0
 clear hr0 hc0
 have HB := Aside0.mk (Below.refl w.heap.size w)
 have H : (if 0 ≤ (mn (l0.length : Int) 60) then (if (mn (l0.length : Int) 60) ≤ (l0.length : Int) then ((some (l0.take ((mn (l0.length : Int) 60) : Int).toNat : List (S36))).bind fun y211 => (pinfoldlaw30_GanttCounts.l0 k y211 a1 a2 0 0 y211 (y211.length : Int) 0)) else (none)) else (none)) = some r := h
 clear h
 obtain ⟨ji4, hji4⟩ : ∃ j_ : Int, (mn (l0.length : Int) 60) = j_ := ⟨_, rfl⟩
 replace H : (if 0 ≤ (ji4) then (if (ji4) ≤ (l0.length : Int) then ((some (l0.take ((ji4) : Int).toNat : List (S36))).bind fun y211 => (pinfoldlaw30_GanttCounts.l0 k y211 a1 a2 0 0 y211 (y211.length : Int) 0)) else (none)) else (none)) = some r := by first|(rw [hji4] at H;exact H)|(simp only [hji4] at H ⊢;exact H)
 (try (have hji4h : ji4 ≤ 60 := by (rw [← hji4];unfold mn;(repeat' split) <;> omega)))
 (try (have hji4g : ji4 ≤ 64 := by omega))
 (try (have hji4l : 0 ≤ ji4 := by (rw [← hji4];unfold mn;(repeat' split) <;> omega)))
 (try (have hji4m : 0 ≤ ji4 := by omega))
 have hji4_ : (if 60 < (l0.length : Int) then 60 else (l0.length : Int)) = ji4 := hji4
 by_cases c5 : 0 ≤ (ji4)
 ·rw [if_pos c5] at H
  have c5b0 := eq_true c5
  have c5b1 : decide (0 ≤ (ji4)) = true := decide_eq_true c5
  clear c5
  by_cases c6 : (ji4) ≤ (l0.length : Int)
  ·rw [if_pos c6] at H
   have c6b0 := eq_true c6
   have c6b1 : decide ((ji4) ≤ (l0.length : Int)) = true := decide_eq_true c6
   clear c6
   obtain ⟨y211, hy211⟩ : ∃ y_ : List (S36), y_ = (l0.take ((ji4) : Int).toNat) := ⟨_, rfl⟩
   replace H : (pinfoldlaw30_GanttCounts.l0 k y211 a1 a2 0 0 y211 (y211.length : Int) 0) = some r := by first|(rw [hy211];with_reducible exact H)|(have H2_ := (Option.bind_some _ _).symm.trans H;rw [hy211];with_reducible exact H2_)|(have H2_ := (Option.bind_some _ _).symm.trans H;with_reducible exact H2_)|with_reducible exact H|(rw [hy211];exact H)|exact H
   have Ny211 := Aside0.mk hy211
   have KCUT := Aside0.mk (show y211.length = min l0.length 60 from by rw [hy211, ← hji4];exact cut_len l0)
   clear hy211
   have H' := Aside0.mk H
   clear H
   have q7 : ((ji4) : Int) ≤ ((l0.length : Int) : Int) := of_decide_eq_true (by assumption)
   obtain ⟨i07, hi07, _, hsz7, _⟩ := info_parts info36
   have hroom7 : l0.length ≤ c0 := HC0.out
   have hC7 : Kd.C k36 _ A0 l0.length l0 := HR0.out
   have hcut7 := cut_to (P := Try.prog) 22 36 .i64 Try.underlying22 hi07 A0 l0.length c0 (ji4) (of_decide_eq_true (by assumption)) q7 hroom7
   have hr7 := Kd.C_take (m := ((ji4) : Int).toNat) hC7 (by omega)
   have hy7 : y211.length = ((ji4) : Int).toNat := (by rw [Ny211.out, List.length_take];omega)
   rw [← Ny211.out] at hr7
   rw [← hy7] at hcut7
   have HR214 := Aside0.mk hr7
   have HC214 := Aside0.mk (show y211.length ≤ c0 from by omega)
   clear hr7 hC7 hroom7 hi07 hsz7
   have KY7 := Aside0.mk hy7
   clear hy7
   replace q7 := eq_true q7
   go_enter Try.func5, Try.ntmps5
   go_wp2_with (first|(go_at_call 14;refine (cut_any A0 c0 l0 _ _ HC0.out KCUT.out).mono ?_;rintro e w7_ ⟨rfl, hw7_⟩;rw [hw7_];clear hw7_)|fail)
   go_loopg [7, 8, 15] k (fun kq v7 v8 v15 w' => ∃ (x7_1 : Int) (x8_1 : Int) (x15_1 : Int), v7 = .int .i64 x7_1 ∧ v8 = .int .i64 x8_1 ∧ v15 = .int .i64 x15_1 ∧ Aside0 (pinfoldlaw30_GanttCounts.l0 kq y211 a1 a2 x7_1 x8_1 y211 (y211.length : Int) x15_1 = some r) ∧ Aside0 (kq ≤ k) ∧ Aside0 (Below w.heap.size w w'))
   case atStart => exact ⟨(0), (0), (0), (by first|rfl|(simp;done)|(simp [*];done)), (by first|rfl|(simp;done)|(simp [*];done)), (by first|rfl|(simp;done)|(simp [*];done)), H', ⟨Nat.le_refl _⟩, ⟨by repeat (with_reducible first|exact HB.out|apply xa|apply xb|apply xc)⟩⟩
   case round =>
    clear H'
    try clear p2
    try clear c5
    try clear c5b0
    try clear c5b1
    try clear c6
    try clear c6b0
    try clear c6b1
    try clear q7
    try clear q7
    obtain ⟨x7_1, x8_1, x15_1, rfl, rfl, rfl, HA, HK1, HB⟩ := hrel
    cases gk with
    | zero => exact absurd HA.out (by simp [pinfoldlaw30_GanttCounts.l0])
    | succ k1 =>
     have H := HA.out
     clear HA
     simp only [pinfoldlaw30_GanttCounts.l0] at H
     by_cases c8 : x15_1 < (y211.length : Int)
     ·rw [if_pos c8] at H
      have c8b0 : decide (x15_1 < (y211.length : Int)) = true := decide_eq_true c8
      clear c8
      by_cases c9 : 0 ≤ x15_1
      ·rw [if_pos c9] at H
       have c9b0 : decide (0 ≤ x15_1) = true := decide_eq_true c9
       clear c9
       by_cases c10 : x15_1 < (y211.length : Int)
       ·rw [if_pos c10] at H
        have c10b0 : decide (x15_1 < (y211.length : Int)) = true := decide_eq_true c10
        clear c10
        have HC11 := Aside0.mk H
        clear H
        have p215 : 0 ≤ (x15_1 : Int) := of_decide_eq_true (by assumption)
        have q215 : x15_1 < (y211.length : Int) := of_decide_eq_true (by assumption)
        obtain ⟨ad215, e215, hx215_0, hx215_1, hx215_2, hx215_3, hx215_4⟩ := at_T36 HR214.out x15_1 p215 q215
        cases e215
        replace hx215_0 := (HB.out.cell (World.block_lt_of_cell? w _ hx215_0)).trans hx215_0
        replace hx215_1 := (HB.out.cell (World.block_lt_of_cell? w _ hx215_1)).trans hx215_1
        replace hx215_2 := (HB.out.cell (World.block_lt_of_cell? w _ hx215_2)).trans hx215_2
        replace hx215_3 := (HB.out.cell (World.block_lt_of_cell? w _ hx215_3)).trans hx215_3
        replace hx215_4 := (HB.out.cell (World.block_lt_of_cell? w _ hx215_4)).trans hx215_4
        replace p215 := eq_true p215
        replace q215 := eq_true q215
        go_upto_region 6 with (first|((with_reducible refine gate_dst (N := 10) rfl ?_);refine box_event ?hg (N := 10) ?hd (cs := #[.int .i64 0, .int .i64 0, .int .i64 0, .int .i64 0, .int .i64 0]) (t := 36) ?hr ?_;(case hd => rfl);(case hg => rfl);(case hr => first|(go_simp;done)|(go_simp;rfl));intro gb216 hg w12 hbox hb;have n0_ := Aside0.mk (below_step (by repeat (with_reducible first|exact HB.out|apply xa|apply xb|apply xc)) hb);have n1_ := Aside0.mk (hbox);have n2_ := Aside0.mk ((by rw [hg];exact (below_size (by repeat (with_reducible first|exact HB.out|apply xa|apply xb|apply xc))) : w.heap.size ≤ gb216));have n3_ := Aside0.mk ((by rw [hg];exact (below_size (by repeat (with_reducible first|exact HB.out|apply xa|apply xb|apply xc))) : w.heap.size ≤ gb216));clear HB;have HB := n0_;have BK216 := n1_;have GW216 := n2_;have GE216 := n3_;clear n0_ n1_ n2_ n3_;clear hb hbox hg;have hcz13_0 : w12.cell? ⟨gb216, 0, none⟩ = some (.int .i64 0) := (blk_cell BK216.out 0).trans rfl;have hcz13_1 : w12.cell? ⟨gb216, 1, none⟩ = some (.int .i64 0) := (blk_cell BK216.out 1).trans rfl;have hcz13_2 : w12.cell? ⟨gb216, 2, none⟩ = some (.int .i64 0) := (blk_cell BK216.out 2).trans rfl;have hcz13_3 : w12.cell? ⟨gb216, 3, none⟩ = some (.int .i64 0) := (blk_cell BK216.out 3).trans rfl;have hcz13_4 : w12.cell? ⟨gb216, 4, none⟩ = some (.int .i64 0) := (blk_cell BK216.out 4).trans rfl;have hfz13_0 := blk_frozen BK216.out 0;have hfz13_1 := blk_frozen BK216.out 1;have hfz13_2 := blk_frozen BK216.out 2;have hfz13_3 := blk_frozen BK216.out 3;have hfz13_4 := blk_frozen BK216.out 4))
        (try simp only [Act.put, List.setIfInBounds_toArray, List.set_cons_zero, List.set_cons_succ])
        go_cut [27] (fun v27 wc => ∃ (kq : Nat) (x27_10 : Bool), v27 = .bool x27_10 ∧ Aside0 (pinfoldlaw30_GanttCounts.j1 kq y211 a1 a2 x7_1 x8_1 y211 (y211.length : Int) x15_1 x27_10 ((rd_T36 y211 x15_1).f0) ((rd_T36 y211 x15_1).f1) ((rd_T36 y211 x15_1).f2) ((rd_T36 y211 x15_1).f3) ((rd_T36 y211 x15_1).f4) = some r) ∧ Aside0 (kq ≤ k1) ∧ Aside0 (wc.heap[gb216]? = some (.cells #[.int .i64 ((rd_T36 y211 x15_1).f0), .int .i64 ((rd_T36 y211 x15_1).f1), .int .i64 ((rd_T36 y211 x15_1).f2), .int .i64 ((rd_T36 y211 x15_1).f3), .int .i64 ((rd_T36 y211 x15_1).f4)] 36 (0, 0))) ∧ Aside0 (Below w.heap.size w wc))
        case first =>
         have H := HC11.out
         clear HC11
         by_cases c14 : ((rd_T36 y211 x15_1).f0) = 3
         ·rw [if_pos c14] at H
          have c14b0 : (((rd_T36 y211 x15_1).f0) == 3) = true := beq_iff_eq.mpr c14
          have c14b1 : (((rd_T36 y211 x15_1).f0) != 3) = false := bne_eq_false_iff_eq.mpr c14
          clear c14
          (first|rw [c14b0]|(simp only [i64_w, i32_w];rw [c14b0])|skip)
          have H' := Aside0.mk H
          clear H
          have hcz15_0 : w12.cell? ⟨gb216, 0, none⟩ = some (.int .i64 0) := (blk_cell BK216.out 0).trans rfl
          have hcz15_1 : w12.cell? ⟨gb216, 1, none⟩ = some (.int .i64 0) := (blk_cell BK216.out 1).trans rfl
          have hcz15_2 : w12.cell? ⟨gb216, 2, none⟩ = some (.int .i64 0) := (blk_cell BK216.out 2).trans rfl
          have hcz15_3 : w12.cell? ⟨gb216, 3, none⟩ = some (.int .i64 0) := (blk_cell BK216.out 3).trans rfl
          have hcz15_4 : w12.cell? ⟨gb216, 4, none⟩ = some (.int .i64 0) := (blk_cell BK216.out 4).trans rfl
          have hfz15_0 := blk_frozen BK216.out 0
          have hfz15_1 := blk_frozen BK216.out 1
          have hfz15_2 := blk_frozen BK216.out 2
          have hfz15_3 := blk_frozen BK216.out 3
          have hfz15_4 := blk_frozen BK216.out 4
          go_wp2
          go_meet
          case rel => exact ⟨_, ((((rd_T36 y211 x15_1).f2) == a2)), (by first|rfl|(simp;done)|(simp [*];done)), H', ⟨by have := HK1.out;first|omega|exact Nat.le_refl _⟩, ⟨by (with_reducible repeat (first|apply blk_drewN|apply blk_drew|apply blk_alloc));refine blk_put (cs := #[.int .i64 ((rd_T36 y211 x15_1).f0), .int .i64 ((rd_T36 y211 x15_1).f1), .int .i64 ((rd_T36 y211 x15_1).f2), .int .i64 ((rd_T36 y211 x15_1).f3), .int .i64 0]) ?_ 4 _ rfl;(with_reducible repeat (first|apply blk_drewN|apply blk_drew|apply blk_alloc));refine blk_put (cs := #[.int .i64 ((rd_T36 y211 x15_1).f0), .int .i64 ((rd_T36 y211 x15_1).f1), .int .i64 ((rd_T36 y211 x15_1).f2), .int .i64 0, .int .i64 0]) ?_ 3 _ rfl;(with_reducible repeat (first|apply blk_drewN|apply blk_drew|apply blk_alloc));refine blk_put (cs := #[.int .i64 ((rd_T36 y211 x15_1).f0), .int .i64 ((rd_T36 y211 x15_1).f1), .int .i64 0, .int .i64 0, .int .i64 0]) ?_ 2 _ rfl;(with_reducible repeat (first|apply blk_drewN|apply blk_drew|apply blk_alloc));refine blk_put (cs := #[.int .i64 ((rd_T36 y211 x15_1).f0), .int .i64 0, .int .i64 0, .int .i64 0, .int .i64 0]) ?_ 1 _ rfl;(with_reducible repeat (first|apply blk_drewN|apply blk_drew|apply blk_alloc));refine blk_put (cs := #[.int .i64 0, .int .i64 0, .int .i64 0, .int .i64 0, .int .i64 0]) ?_ 0 _ rfl;(with_reducible repeat (first|apply blk_drewN|apply blk_drew|apply blk_alloc));exact BK216.out⟩, ⟨by repeat (first|(with_reducible first|exact HB.out|apply xa|apply xb|apply xc|refine below_set ?_ GE216.out)|exact HB.out)⟩⟩
         ·rw [if_neg c14] at H
          have c14b0 : (((rd_T36 y211 x15_1).f0) == 3) = false := beq_eq_false_iff_ne.mpr c14
          have c14b1 : (((rd_T36 y211 x15_1).f0) != 3) = true := bne_iff_ne.mpr c14
          (first|rw [c14b0]|(simp only [i64_w, i32_w];rw [c14b0])|skip)
          have H' := Aside0.mk H
          clear H
          have hcz16_0 : w12.cell? ⟨gb216, 0, none⟩ = some (.int .i64 0) := (blk_cell BK216.out 0).trans rfl
          have hcz16_1 : w12.cell? ⟨gb216, 1, none⟩ = some (.int .i64 0) := (blk_cell BK216.out 1).trans rfl
          have hcz16_2 : w12.cell? ⟨gb216, 2, none⟩ = some (.int .i64 0) := (blk_cell BK216.out 2).trans rfl
          have hcz16_3 : w12.cell? ⟨gb216, 3, none⟩ = some (.int .i64 0) := (blk_cell BK216.out 3).trans rfl
          have hcz16_4 : w12.cell? ⟨gb216, 4, none⟩ = some (.int .i64 0) := (blk_cell BK216.out 4).trans rfl
          have hfz16_0 := blk_frozen BK216.out 0
          have hfz16_1 := blk_frozen BK216.out 1
          have hfz16_2 := blk_frozen BK216.out 2
          have hfz16_3 := blk_frozen BK216.out 3
          have hfz16_4 := blk_frozen BK216.out 4
          go_wp2
          go_meet
          case rel => exact ⟨_, (false), (by first|rfl|(simp;done)|(simp [*];done)), H', ⟨by have := HK1.out;first|omega|exact Nat.le_refl _⟩, ⟨by (with_reducible repeat (first|apply blk_drewN|apply blk_drew|apply blk_alloc));refine blk_put (cs := #[.int .i64 ((rd_T36 y211 x15_1).f0), .int .i64 ((rd_T36 y211 x15_1).f1), .int .i64 ((rd_T36 y211 x15_1).f2), .int .i64 ((rd_T36 y211 x15_1).f3), .int .i64 0]) ?_ 4 _ rfl;(with_reducible repeat (first|apply blk_drewN|apply blk_drew|apply blk_alloc));refine blk_put (cs := #[.int .i64 ((rd_T36 y211 x15_1).f0), .int .i64 ((rd_T36 y211 x15_1).f1), .int .i64 ((rd_T36 y211 x15_1).f2), .int .i64 0, .int .i64 0]) ?_ 3 _ rfl;(with_reducible repeat (first|apply blk_drewN|apply blk_drew|apply blk_alloc));refine blk_put (cs := #[.int .i64 ((rd_T36 y211 x15_1).f0), .int .i64 ((rd_T36 y211 x15_1).f1), .int .i64 0, .int .i64 0, .int .i64 0]) ?_ 2 _ rfl;(with_reducible repeat (first|apply blk_drewN|apply blk_drew|apply blk_alloc));refine blk_put (cs := #[.int .i64 ((rd_T36 y211 x15_1).f0), .int .i64 0, .int .i64 0, .int .i64 0, .int .i64 0]) ?_ 1 _ rfl;(with_reducible repeat (first|apply blk_drewN|apply blk_drew|apply blk_alloc));refine blk_put (cs := #[.int .i64 0, .int .i64 0, .int .i64 0, .int .i64 0, .int .i64 0]) ?_ 0 _ rfl;(with_reducible repeat (first|apply blk_drewN|apply blk_drew|apply blk_alloc));exact BK216.out⟩, ⟨by repeat (first|(with_reducible first|exact HB.out|apply xa|apply xb|apply xc|refine below_set ?_ GE216.out)|exact HB.out)⟩⟩
        case rest =>
         clear HC11
         try clear c1
         try clear p2
         try clear q2
         try clear hx2
         try clear c5
         try clear c5b0
         try clear c5b1
         try clear c6
         try clear c6b0
         try clear c6b1
         try clear q7
         try clear c8
         try clear c8b0
         try clear c9
         try clear c9b0
         try clear c10
         try clear c10b0
         try clear c14
         try clear c14b0
         try clear c14b1
         try clear hcz13_0
         try clear hcz13_1
         try clear hcz13_2
         try clear hcz13_3
         try clear hcz13_4
         try clear hcz15_0
         try clear hcz15_1
         try clear hcz15_2
         try clear hcz15_3
         try clear hcz15_4
         try clear hcz16_0
         try clear hcz16_1
         try clear hcz16_2
         try clear hcz16_3
         try clear hcz16_4
         try clear hfz13_0
         try clear hfz13_1
         try clear hfz13_2
         try clear hfz13_3
         try clear hfz13_4
         try clear hfz15_0
         try clear hfz15_1
         try clear hfz15_2
         try clear hfz15_3
         try clear hfz15_4
         try clear hfz16_0
         try clear hfz16_1
         try clear hfz16_2
         try clear hfz16_3
         try clear hfz16_4
         try clear hx215_0
         try clear hx215_1
         try clear hx215_2
         try clear hx215_3
         try clear hx215_4
         try clear p2
         try clear p215
         try clear q215
         try clear q7
         obtain ⟨kq, x27_10, rfl, HA, HJ10, BK216, HB⟩ := hcut
         cases kq with
         | zero => exact absurd HA.out (by simp [pinfoldlaw30_GanttCounts.j1])
         | succ kj10 =>
          have H := HA.out
          clear HA
          simp only [pinfoldlaw30_GanttCounts.j1] at H
          by_cases c17 : x27_10 = true
          ·subst c17
           have H1 : (if ((rd_T36 y211 x15_1).f0) = 3 then (if ((rd_T36 y211 x15_1).f1) = a1 then (pinfoldlaw30_GanttCounts.l0 kj10 y211 a1 a2 (wrap64 (x7_1 + 1)) (wrap64 (x8_1 + 1)) y211 (y211.length : Int) (wrap64 (x15_1 + 1))) else (pinfoldlaw30_GanttCounts.l0 kj10 y211 a1 a2 (wrap64 (x7_1 + 1)) x8_1 y211 (y211.length : Int) (wrap64 (x15_1 + 1)))) else (pinfoldlaw30_GanttCounts.l0 kj10 y211 a1 a2 (wrap64 (x7_1 + 1)) x8_1 y211 (y211.length : Int) (wrap64 (x15_1 + 1)))) = some r := by rw [if_pos rfl] at H;exact H
           clear H
           have H := H1
           clear H1
           by_cases c18 : ((rd_T36 y211 x15_1).f0) = 3
           ·rw [if_pos c18] at H
            have c18b0 : (((rd_T36 y211 x15_1).f0) == 3) = true := beq_iff_eq.mpr c18
            have c18b1 : (((rd_T36 y211 x15_1).f0) != 3) = false := bne_eq_false_iff_eq.mpr c18
            clear c18
            by_cases c19 : ((rd_T36 y211 x15_1).f1) = a1
            ·rw [if_pos c19] at H
             have c19b0 : (((rd_T36 y211 x15_1).f1) == a1) = true := beq_iff_eq.mpr c19
             have c19b1 : (((rd_T36 y211 x15_1).f1) != a1) = false := bne_eq_false_iff_eq.mpr c19
             clear c19
             have H' := Aside0.mk H
             clear H
             have hcz20_0 : wc.cell? ⟨gb216, 0, none⟩ = some (.int .i64 ((rd_T36 y211 x15_1).f0)) := (blk_cell BK216.out 0).trans rfl
             have hcz20_1 : wc.cell? ⟨gb216, 1, none⟩ = some (.int .i64 ((rd_T36 y211 x15_1).f1)) := (blk_cell BK216.out 1).trans rfl
             have hcz20_2 : wc.cell? ⟨gb216, 2, none⟩ = some (.int .i64 ((rd_T36 y211 x15_1).f2)) := (blk_cell BK216.out 2).trans rfl
             have hcz20_3 : wc.cell? ⟨gb216, 3, none⟩ = some (.int .i64 ((rd_T36 y211 x15_1).f3)) := (blk_cell BK216.out 3).trans rfl
             have hcz20_4 : wc.cell? ⟨gb216, 4, none⟩ = some (.int .i64 ((rd_T36 y211 x15_1).f4)) := (blk_cell BK216.out 4).trans rfl
             have hfz20_0 := blk_frozen BK216.out 0
             have hfz20_1 := blk_frozen BK216.out 1
             have hfz20_2 := blk_frozen BK216.out 2
             have hfz20_3 := blk_frozen BK216.out 3
             have hfz20_4 := blk_frozen BK216.out 4
             go_wp2
             go_roundg kj10
             case measure => have := HK1.out;have := HJ10.out;omega
             case rel => exact ⟨(wrap64 (x7_1 + 1)), (wrap64 (x8_1 + 1)), (wrap64 (x15_1 + 1)), (by first|rfl|(simp;done)|(simp [*];done)), (by first|rfl|(simp;done)|(simp [*];done)), (by first|rfl|(simp;done)|(simp [*];done)), H', ⟨by have := HK1.out;have := HJ10.out;omega⟩, ⟨by repeat (first|(with_reducible first|exact HB.out|apply xa|apply xb|apply xc|refine below_set ?_ GE216.out)|exact HB.out)⟩⟩
            ·rw [if_neg c19] at H
             have c19b0 : (((rd_T36 y211 x15_1).f1) == a1) = false := beq_eq_false_iff_ne.mpr c19
             have c19b1 : (((rd_T36 y211 x15_1).f1) != a1) = true := bne_iff_ne.mpr c19
             have H' := Aside0.mk H
             clear H
             have hcz21_0 : wc.cell? ⟨gb216, 0, none⟩ = some (.int .i64 ((rd_T36 y211 x15_1).f0)) := (blk_cell BK216.out 0).trans rfl
             have hcz21_1 : wc.cell? ⟨gb216, 1, none⟩ = some (.int .i64 ((rd_T36 y211 x15_1).f1)) := (blk_cell BK216.out 1).trans rfl
             have hcz21_2 : wc.cell? ⟨gb216, 2, none⟩ = some (.int .i64 ((rd_T36 y211 x15_1).f2)) := (blk_cell BK216.out 2).trans rfl
             have hcz21_3 : wc.cell? ⟨gb216, 3, none⟩ = some (.int .i64 ((rd_T36 y211 x15_1).f3)) := (blk_cell BK216.out 3).trans rfl
             have hcz21_4 : wc.cell? ⟨gb216, 4, none⟩ = some (.int .i64 ((rd_T36 y211 x15_1).f4)) := (blk_cell BK216.out 4).trans rfl
             have hfz21_0 := blk_frozen BK216.out 0
             have hfz21_1 := blk_frozen BK216.out 1
             have hfz21_2 := blk_frozen BK216.out 2
             have hfz21_3 := blk_frozen BK216.out 3
             have hfz21_4 := blk_frozen BK216.out 4
             go_wp2
             go_roundg kj10
             case measure => have := HK1.out;have := HJ10.out;omega
             case rel => exact ⟨(wrap64 (x7_1 + 1)), (x8_1), (wrap64 (x15_1 + 1)), (by first|rfl|(simp;done)|(simp [*];done)), (by first|rfl|(simp;done)|(simp [*];done)), (by first|rfl|(simp;done)|(simp [*];done)), H', ⟨by have := HK1.out;have := HJ10.out;omega⟩, ⟨by repeat (first|(with_reducible first|exact HB.out|apply xa|apply xb|apply xc|refine below_set ?_ GE216.out)|exact HB.out)⟩⟩
           ·rw [if_neg c18] at H
            have c18b0 : (((rd_T36 y211 x15_1).f0) == 3) = false := beq_eq_false_iff_ne.mpr c18
            have c18b1 : (((rd_T36 y211 x15_1).f0) != 3) = true := bne_iff_ne.mpr c18
            have H' := Aside0.mk H
            clear H
            have hcz22_0 : wc.cell? ⟨gb216, 0, none⟩ = some (.int .i64 ((rd_T36 y211 x15_1).f0)) := (blk_cell BK216.out 0).trans rfl
            have hcz22_1 : wc.cell? ⟨gb216, 1, none⟩ = some (.int .i64 ((rd_T36 y211 x15_1).f1)) := (blk_cell BK216.out 1).trans rfl
            have hcz22_2 : wc.cell? ⟨gb216, 2, none⟩ = some (.int .i64 ((rd_T36 y211 x15_1).f2)) := (blk_cell BK216.out 2).trans rfl
            have hcz22_3 : wc.cell? ⟨gb216, 3, none⟩ = some (.int .i64 ((rd_T36 y211 x15_1).f3)) := (blk_cell BK216.out 3).trans rfl
            have hcz22_4 : wc.cell? ⟨gb216, 4, none⟩ = some (.int .i64 ((rd_T36 y211 x15_1).f4)) := (blk_cell BK216.out 4).trans rfl
            have hfz22_0 := blk_frozen BK216.out 0
            have hfz22_1 := blk_frozen BK216.out 1
            have hfz22_2 := blk_frozen BK216.out 2
            have hfz22_3 := blk_frozen BK216.out 3
            have hfz22_4 := blk_frozen BK216.out 4
            go_wp2
            go_roundg kj10
            case measure => have := HK1.out;have := HJ10.out;omega
            case rel => exact ⟨(wrap64 (x7_1 + 1)), (x8_1), (wrap64 (x15_1 + 1)), (by first|rfl|(simp;done)|(simp [*];done)), (by first|rfl|(simp;done)|(simp [*];done)), (by first|rfl|(simp;done)|(simp [*];done)), H', ⟨by have := HK1.out;have := HJ10.out;omega⟩, ⟨by repeat (first|(with_reducible first|exact HB.out|apply xa|apply xb|apply xc|refine below_set ?_ GE216.out)|exact HB.out)⟩⟩
          ·replace c17 := Bool.eq_false_iff.mpr c17
           subst c17
           have H1 : (if ((rd_T36 y211 x15_1).f0) = 3 then (if ((rd_T36 y211 x15_1).f1) = a1 then (pinfoldlaw30_GanttCounts.l0 kj10 y211 a1 a2 x7_1 (wrap64 (x8_1 + 1)) y211 (y211.length : Int) (wrap64 (x15_1 + 1))) else (pinfoldlaw30_GanttCounts.l0 kj10 y211 a1 a2 x7_1 x8_1 y211 (y211.length : Int) (wrap64 (x15_1 + 1)))) else (pinfoldlaw30_GanttCounts.l0 kj10 y211 a1 a2 x7_1 x8_1 y211 (y211.length : Int) (wrap64 (x15_1 + 1)))) = some r := by rw [if_neg (show ¬ (false = true) by decide)] at H;exact H
           clear H
           have H := H1
           clear H1
           by_cases c23 : ((rd_T36 y211 x15_1).f0) = 3
           ·rw [if_pos c23] at H
            have c23b0 : (((rd_T36 y211 x15_1).f0) == 3) = true := beq_iff_eq.mpr c23
            have c23b1 : (((rd_T36 y211 x15_1).f0) != 3) = false := bne_eq_false_iff_eq.mpr c23
            clear c23
            by_cases c24 : ((rd_T36 y211 x15_1).f1) = a1
            ·rw [if_pos c24] at H
             have c24b0 : (((rd_T36 y211 x15_1).f1) == a1) = true := beq_iff_eq.mpr c24
             have c24b1 : (((rd_T36 y211 x15_1).f1) != a1) = false := bne_eq_false_iff_eq.mpr c24
             clear c24
             have H' := Aside0.mk H
             clear H
             have hcz25_0 : wc.cell? ⟨gb216, 0, none⟩ = some (.int .i64 ((rd_T36 y211 x15_1).f0)) := (blk_cell BK216.out 0).trans rfl
             have hcz25_1 : wc.cell? ⟨gb216, 1, none⟩ = some (.int .i64 ((rd_T36 y211 x15_1).f1)) := (blk_cell BK216.out 1).trans rfl
             have hcz25_2 : wc.cell? ⟨gb216, 2, none⟩ = some (.int .i64 ((rd_T36 y211 x15_1).f2)) := (blk_cell BK216.out 2).trans rfl
             have hcz25_3 : wc.cell? ⟨gb216, 3, none⟩ = some (.int .i64 ((rd_T36 y211 x15_1).f3)) := (blk_cell BK216.out 3).trans rfl
             have hcz25_4 : wc.cell? ⟨gb216, 4, none⟩ = some (.int .i64 ((rd_T36 y211 x15_1).f4)) := (blk_cell BK216.out 4).trans rfl
             have hfz25_0 := blk_frozen BK216.out 0
             have hfz25_1 := blk_frozen BK216.out 1
             have hfz25_2 := blk_frozen BK216.out 2
             have hfz25_3 := blk_frozen BK216.out 3
             have hfz25_4 := blk_frozen BK216.out 4
             go_wp2
             go_roundg kj10
             case measure => have := HK1.out;have := HJ10.out;omega
             case rel => exact ⟨(x7_1), (wrap64 (x8_1 + 1)), (wrap64 (x15_1 + 1)), (by first|rfl|(simp;done)|(simp [*];done)), (by first|rfl|(simp;done)|(simp [*];done)), (by first|rfl|(simp;done)|(simp [*];done)), H', ⟨by have := HK1.out;have := HJ10.out;omega⟩, ⟨by repeat (first|(with_reducible first|exact HB.out|apply xa|apply xb|apply xc|refine below_set ?_ GE216.out)|exact HB.out)⟩⟩
            ·rw [if_neg c24] at H
             have c24b0 : (((rd_T36 y211 x15_1).f1) == a1) = false := beq_eq_false_iff_ne.mpr c24
             have c24b1 : (((rd_T36 y211 x15_1).f1) != a1) = true := bne_iff_ne.mpr c24
             have H' := Aside0.mk H
             clear H
             have hcz26_0 : wc.cell? ⟨gb216, 0, none⟩ = some (.int .i64 ((rd_T36 y211 x15_1).f0)) := (blk_cell BK216.out 0).trans rfl
             have hcz26_1 : wc.cell? ⟨gb216, 1, none⟩ = some (.int .i64 ((rd_T36 y211 x15_1).f1)) := (blk_cell BK216.out 1).trans rfl
             have hcz26_2 : wc.cell? ⟨gb216, 2, none⟩ = some (.int .i64 ((rd_T36 y211 x15_1).f2)) := (blk_cell BK216.out 2).trans rfl
             have hcz26_3 : wc.cell? ⟨gb216, 3, none⟩ = some (.int .i64 ((rd_T36 y211 x15_1).f3)) := (blk_cell BK216.out 3).trans rfl
             have hcz26_4 : wc.cell? ⟨gb216, 4, none⟩ = some (.int .i64 ((rd_T36 y211 x15_1).f4)) := (blk_cell BK216.out 4).trans rfl
             have hfz26_0 := blk_frozen BK216.out 0
             have hfz26_1 := blk_frozen BK216.out 1
             have hfz26_2 := blk_frozen BK216.out 2
             have hfz26_3 := blk_frozen BK216.out 3
             have hfz26_4 := blk_frozen BK216.out 4
             go_wp2
             go_roundg kj10
             case measure => have := HK1.out;have := HJ10.out;omega
             case rel => exact ⟨(x7_1), (x8_1), (wrap64 (x15_1 + 1)), (by first|rfl|(simp;done)|(simp [*];done)), (by first|rfl|(simp;done)|(simp [*];done)), (by first|rfl|(simp;done)|(simp [*];done)), H', ⟨by have := HK1.out;have := HJ10.out;omega⟩, ⟨by repeat (first|(with_reducible first|exact HB.out|apply xa|apply xb|apply xc|refine below_set ?_ GE216.out)|exact HB.out)⟩⟩
           ·rw [if_neg c23] at H
            have c23b0 : (((rd_T36 y211 x15_1).f0) == 3) = false := beq_eq_false_iff_ne.mpr c23
            have c23b1 : (((rd_T36 y211 x15_1).f0) != 3) = true := bne_iff_ne.mpr c23
            have H' := Aside0.mk H
            clear H
            have hcz27_0 : wc.cell? ⟨gb216, 0, none⟩ = some (.int .i64 ((rd_T36 y211 x15_1).f0)) := (blk_cell BK216.out 0).trans rfl
            have hcz27_1 : wc.cell? ⟨gb216, 1, none⟩ = some (.int .i64 ((rd_T36 y211 x15_1).f1)) := (blk_cell BK216.out 1).trans rfl
            have hcz27_2 : wc.cell? ⟨gb216, 2, none⟩ = some (.int .i64 ((rd_T36 y211 x15_1).f2)) := (blk_cell BK216.out 2).trans rfl
            have hcz27_3 : wc.cell? ⟨gb216, 3, none⟩ = some (.int .i64 ((rd_T36 y211 x15_1).f3)) := (blk_cell BK216.out 3).trans rfl
            have hcz27_4 : wc.cell? ⟨gb216, 4, none⟩ = some (.int .i64 ((rd_T36 y211 x15_1).f4)) := (blk_cell BK216.out 4).trans rfl
            have hfz27_0 := blk_frozen BK216.out 0
            have hfz27_1 := blk_frozen BK216.out 1
            have hfz27_2 := blk_frozen BK216.out 2
            have hfz27_3 := blk_frozen BK216.out 3
            have hfz27_4 := blk_frozen BK216.out 4
            go_wp2
            go_roundg kj10
            case measure => have := HK1.out;have := HJ10.out;omega
            case rel => exact ⟨(x7_1), (x8_1), (wrap64 (x15_1 + 1)), (by first|rfl|(simp;done)|(simp [*];done)), (by first|rfl|(simp;done)|(simp [*];done)), (by first|rfl|(simp;done)|(simp [*];done)), H', ⟨by have := HK1.out;have := HJ10.out;omega⟩, ⟨by repeat (first|(with_reducible first|exact HB.out|apply xa|apply xb|apply xc|refine below_set ?_ GE216.out)|exact HB.out)⟩⟩
       ·rw [if_neg c10] at H
        exact absurd H (by simp)
      ·rw [if_neg c9] at H
       exact absurd H (by simp)
     ·rw [if_neg c8] at H
      have c8b0 : decide (x15_1 < (y211.length : Int)) = false := decide_eq_false c8
      clear c8
      replace H := Option.bind_eq_some_iff.mp H
      obtain ⟨t217, A280, H⟩ := H
      replace H : (if t217 = x7_1 then ((gantt_Ran.f k1 y211 a1).bind fun t218 => (if t218 = x8_1 then ((gantt_Went.f k1 y211 a1).bind fun t219 => ((pinfoldref30_Went.f k1 y211 a1).bind fun t222 => ((pinfoldref04_Same.f k1 t219 t222).bind fun t225 => (if t225 = true then ((gantt_Waited.f k1 y211 a1).bind fun t226 => ((pinfoldref30_Waited.f k1 y211 a1).bind fun t227 => (if t226 = t227 then ((pinfoldlaw30_lives.f).bind fun t228 => (some t228)) else (some false)))) else (some false))))) else (some false))) else (some false)) = some r := H
      have A28 := Aside0.mk A280
      clear A280
      by_cases c29 : t217 = x7_1
      ·rw [if_pos c29] at H
       have c29b0 : (t217 == x7_1) = true := beq_iff_eq.mpr c29
       have c29b1 : (t217 != x7_1) = false := bne_eq_false_iff_eq.mpr c29
       clear c29
       replace H := Option.bind_eq_some_iff.mp H
       obtain ⟨t218, A300, H⟩ := H
       replace H : (if t218 = x8_1 then ((gantt_Went.f k1 y211 a1).bind fun t219 => ((pinfoldref30_Went.f k1 y211 a1).bind fun t222 => ((pinfoldref04_Same.f k1 t219 t222).bind fun t225 => (if t225 = true then ((gantt_Waited.f k1 y211 a1).bind fun t226 => ((pinfoldref30_Waited.f k1 y211 a1).bind fun t227 => (if t226 = t227 then ((pinfoldlaw30_lives.f).bind fun t228 => (some t228)) else (some false)))) else (some false))))) else (some false)) = some r := H
       have A30 := Aside0.mk A300
       clear A300
       by_cases c31 : t218 = x8_1
       ·rw [if_pos c31] at H
        have c31b0 : (t218 == x8_1) = true := beq_iff_eq.mpr c31
        have c31b1 : (t218 != x8_1) = false := bne_eq_false_iff_eq.mpr c31
        clear c31
        replace H := Option.bind_eq_some_iff.mp H
        obtain ⟨t219, A320, H⟩ := H
        replace H : ((pinfoldref30_Went.f k1 y211 a1).bind fun t222 => ((pinfoldref04_Same.f k1 t219 t222).bind fun t225 => (if t225 = true then ((gantt_Waited.f k1 y211 a1).bind fun t226 => ((pinfoldref30_Waited.f k1 y211 a1).bind fun t227 => (if t226 = t227 then ((pinfoldlaw30_lives.f).bind fun t228 => (some t228)) else (some false)))) else (some false)))) = some r := H
        have A32 := Aside0.mk A320
        clear A320
        replace H := Option.bind_eq_some_iff.mp H
        obtain ⟨t222, A330, H⟩ := H
        replace H : ((pinfoldref04_Same.f k1 t219 t222).bind fun t225 => (if t225 = true then ((gantt_Waited.f k1 y211 a1).bind fun t226 => ((pinfoldref30_Waited.f k1 y211 a1).bind fun t227 => (if t226 = t227 then ((pinfoldlaw30_lives.f).bind fun t228 => (some t228)) else (some false)))) else (some false))) = some r := H
        have A33 := Aside0.mk A330
        clear A330
        replace H := Option.bind_eq_some_iff.mp H
        obtain ⟨t225, A340, H⟩ := H
        replace H : (if t225 = true then ((gantt_Waited.f k1 y211 a1).bind fun t226 => ((pinfoldref30_Waited.f k1 y211 a1).bind fun t227 => (if t226 = t227 then ((pinfoldlaw30_lives.f).bind fun t228 => (some t228)) else (some false)))) else (some false)) = some r := H
        have A34 := Aside0.mk A340
        clear A340
        by_cases c35 : t225 = true
        ·subst c35
         have H1 : ((gantt_Waited.f k1 y211 a1).bind fun t226 => ((pinfoldref30_Waited.f k1 y211 a1).bind fun t227 => (if t226 = t227 then ((pinfoldlaw30_lives.f).bind fun t228 => (some t228)) else (some false)))) = some r := by rw [if_pos rfl] at H;exact H
         clear H
         have H := H1
         clear H1
         replace H := Option.bind_eq_some_iff.mp H
         obtain ⟨t226, A360, H⟩ := H
         replace H : ((pinfoldref30_Waited.f k1 y211 a1).bind fun t227 => (if t226 = t227 then ((pinfoldlaw30_lives.f).bind fun t228 => (some t228)) else (some false))) = some r := H
         have A36 := Aside0.mk A360
         clear A360
         replace H := Option.bind_eq_some_iff.mp H
         obtain ⟨t227, A370, H⟩ := H
         replace H : (if t226 = t227 then ((pinfoldlaw30_lives.f).bind fun t228 => (some t228)) else (some false)) = some r := H
         have A37 := Aside0.mk A370
         clear A370
         by_cases c38 : t226 = t227
         ·rw [if_pos c38] at H
          have c38b0 : (t226 == t227) = true := beq_iff_eq.mpr c38
          have c38b1 : (t226 != t227) = false := bne_eq_false_iff_eq.mpr c38
          clear c38
          replace H := Option.bind_eq_some_iff.mp H
          obtain ⟨t228, A390, H⟩ := H
          replace H : (some t228) = some r := H
          have A39 := Aside0.mk A390
          clear A390
          obtain rfl := Option.some.inj H
          go_wp2_with (first|(go_at_call 20;(with_reducible refine (gantt_Busy.calls k1 _ _ y211 a2 t217 _ ?side1 ?side2 A28.out).mono ?_);(case side1 => repeat (first|exact (Kd.C_below HR214.out HB.out)|(with_reducible refine Kd.C_alloc ?_ _)|(with_reducible refine Kd.C_drewN ?_ _)|(with_reducible refine Kd.C_drew ?_)));(case side2 => exact HC214.out);rintro e w40 ⟨rfl, hb⟩;have n0_ := Aside0.mk (below_step (by repeat (with_reducible first|exact HB.out|apply xa|apply xb|apply xc)) hb);clear HB;have HB := n0_;clear n0_;(try clear hb);(try clear hb2);(try clear hk);(try clear hi))|(go_at_call 21;(with_reducible refine (gantt_Ran.calls k1 _ _ y211 a1 t218 _ ?side1 ?side2 A30.out).mono ?_);(case side1 => repeat (first|exact (Kd.C_below HR214.out HB.out)|(with_reducible refine Kd.C_alloc ?_ _)|(with_reducible refine Kd.C_drewN ?_ _)|(with_reducible refine Kd.C_drew ?_)));(case side2 => exact HC214.out);rintro e w41 ⟨rfl, hb⟩;have n0_ := Aside0.mk (below_step (by repeat (with_reducible first|exact HB.out|apply xa|apply xb|apply xc)) hb);clear HB;have HB := n0_;clear n0_;(try clear hb);(try clear hb2);(try clear hk);(try clear hi))|(go_at_call 23;(with_reducible refine (gantt_Went.calls k1 _ _ y211 a1 t219 _ ?side1 ?side2 A32.out).mono ?_);(case side1 => repeat (first|exact (Kd.C_below HR214.out HB.out)|(with_reducible refine Kd.C_alloc ?_ _)|(with_reducible refine Kd.C_drewN ?_ _)|(with_reducible refine Kd.C_drew ?_)));(case side2 => exact HC214.out);rintro e w42 ⟨v220, rfl, ho0, hb⟩;have n0_ := Aside0.mk (Kd.R_lower ho0 (below_size (by repeat (with_reducible first|exact HB.out|apply xa|apply xb|apply xc))));have n1_ := Aside0.mk (below_step (by repeat (with_reducible first|exact HB.out|apply xa|apply xb|apply xc)) hb);clear HB;have HO221 := n0_;have HB := n1_;clear n0_ n1_;(try clear hb);(try clear hb2);(try clear hk);(try clear hi);(try clear ho0))|(go_at_call 24;(with_reducible refine (pinfoldref30_Went.calls k1 _ _ y211 a1 t222 _ ?side1 ?side2 A33.out).mono ?_);(case side1 => repeat (first|exact (Kd.C_below HR214.out HB.out)|(with_reducible refine Kd.C_alloc ?_ _)|(with_reducible refine Kd.C_drewN ?_ _)|(with_reducible refine Kd.C_drew ?_)));(case side2 => exact HC214.out);rintro e w43 ⟨v223, rfl, ho0, hb⟩;have n0_ := Aside0.mk (Kd.R_elder' (by (with_reducible repeat (first|apply Kd.R_alloc|apply Kd.R_drewN|apply Kd.R_drew));exact HO221.out) (Kd.R_base ho0) hb);have n1_ := Aside0.mk (Kd.R_lower (Kd.R_new' ho0 (Kd.R_lt (by (with_reducible repeat (first|apply Kd.R_alloc|apply Kd.R_drewN|apply Kd.R_drew));exact HO221.out))) (below_size (by repeat (with_reducible first|exact HB.out|apply xa|apply xb|apply xc))));have n2_ := Aside0.mk (below_step (by repeat (with_reducible first|exact HB.out|apply xa|apply xb|apply xc)) hb);clear HO221;clear HB;have HO221 := n0_;have HO224 := n1_;have HB := n2_;clear n0_ n1_ n2_;(try clear hb);(try clear hb2);(try clear hk);(try clear hi);(try clear ho0);obtain ⟨Ao44, co44, eo44⟩ := Kd.R_slice HO221.out;subst eo44;obtain ⟨Ao45, co45, eo45⟩ := Kd.R_slice HO224.out;subst eo45)|(go_at_call 22;(with_reducible refine (pinfoldref04_Same.calls k1 _ _ t219 _ _ t222 true _ ?side1 ?side2 ?side3 ?side4 A34.out).mono ?_);(case side1 => repeat (first|exact (Kd.R_reads' HO221.out).2.2|(with_reducible refine Kd.C_alloc ?_ _)|(with_reducible refine Kd.C_drewN ?_ _)|(with_reducible refine Kd.C_drew ?_)));(case side2 => exact (Kd.R_reads' HO221.out).2.1);(case side3 => repeat (first|exact (Kd.R_reads' HO224.out).2.2|(with_reducible refine Kd.C_alloc ?_ _)|(with_reducible refine Kd.C_drewN ?_ _)|(with_reducible refine Kd.C_drew ?_)));(case side4 => exact (Kd.R_reads' HO224.out).2.1);rintro e w' ⟨rfl, ⟨nd, rfl⟩⟩)|(go_at_call 25;(with_reducible refine (gantt_Waited.calls k1 _ _ y211 a1 t226 _ ?side1 ?side2 A36.out).mono ?_);(case side1 => repeat (first|exact (Kd.C_below HR214.out (by repeat (with_reducible first|exact HB.out|apply xa|apply xb|apply xc)))|(with_reducible refine Kd.C_alloc ?_ _)|(with_reducible refine Kd.C_drewN ?_ _)|(with_reducible refine Kd.C_drew ?_)));(case side2 => exact HC214.out);rintro e w46 ⟨rfl, hb⟩;have n0_ := Aside0.mk (Kd.R_below (by (with_reducible repeat (first|apply Kd.R_alloc|apply Kd.R_drewN|apply Kd.R_drew));exact HO221.out) hb);have n1_ := Aside0.mk (Kd.R_below (by (with_reducible repeat (first|apply Kd.R_alloc|apply Kd.R_drewN|apply Kd.R_drew));exact HO224.out) hb);have n2_ := Aside0.mk (below_step (by repeat (with_reducible first|exact HB.out|apply xa|apply xb|apply xc)) hb);clear HO221;clear HO224;clear HB;have HO221 := n0_;have HO224 := n1_;have HB := n2_;clear n0_ n1_ n2_;(try clear hb);(try clear hb2);(try clear hk);(try clear hi))|(go_at_call 26;(with_reducible refine (pinfoldref30_Waited.calls k1 _ _ y211 a1 t227 _ ?side1 ?side2 A37.out).mono ?_);(case side1 => repeat (first|exact (Kd.C_below HR214.out HB.out)|(with_reducible refine Kd.C_alloc ?_ _)|(with_reducible refine Kd.C_drewN ?_ _)|(with_reducible refine Kd.C_drew ?_)));(case side2 => exact HC214.out);rintro e w47 ⟨rfl, hb⟩;have n0_ := Aside0.mk (Kd.R_below (by (with_reducible repeat (first|apply Kd.R_alloc|apply Kd.R_drewN|apply Kd.R_drew));exact HO221.out) hb);have n1_ := Aside0.mk (Kd.R_below (by (with_reducible repeat (first|apply Kd.R_alloc|apply Kd.R_drewN|apply Kd.R_drew));exact HO224.out) hb);have n2_ := Aside0.mk (below_step (by repeat (with_reducible first|exact HB.out|apply xa|apply xb|apply xc)) hb);clear HO221;clear HO224;clear HB;have HO221 := n0_;have HO224 := n1_;have HB := n2_;clear n0_ n1_ n2_;(try clear hb);(try clear hb2);(try clear hk);(try clear hi))|(go_at_call 17;(with_reducible refine (pinfoldlaw30_lives.calls  t228 _ A39.out).mono ?_);rintro e w48 ⟨rfl, hb⟩;have n0_ := Aside0.mk (Kd.R_below (by (with_reducible repeat (first|apply Kd.R_alloc|apply Kd.R_drewN|apply Kd.R_drew));exact HO221.out) hb);have n1_ := Aside0.mk (Kd.R_below (by (with_reducible repeat (first|apply Kd.R_alloc|apply Kd.R_drewN|apply Kd.R_drew));exact HO224.out) hb);have n2_ := Aside0.mk (below_step (by repeat (with_reducible first|exact HB.out|apply xa|apply xb|apply xc)) hb);clear HO221;clear HO224;clear HB;have HO221 := n0_;have HO224 := n1_;have HB := n2_;clear n0_ n1_ n2_;(try clear hb);(try clear hb2);(try clear hk);(try clear hi)))
          go_ret
          exact ⟨by first|rfl|(simp [errW_none, errW_some] <;> rfl)|(simp only [← hji4];first|rfl|(simp [errW_none, errW_some] <;> rfl))|(simp [*, errW_none, errW_some] <;> rfl), by repeat (with_reducible first|exact HB.out|apply xa|apply xb|apply xc)⟩
         ·rw [if_neg c38] at H
          have c38b0 : (t226 == t227) = false := beq_eq_false_iff_ne.mpr c38
          have c38b1 : (t226 != t227) = true := bne_iff_ne.mpr c38
          obtain rfl := Option.some.inj H
          go_wp2_with (first|(go_at_call 20;(with_reducible refine (gantt_Busy.calls k1 _ _ y211 a2 t217 _ ?side1 ?side2 A28.out).mono ?_);(case side1 => repeat (first|exact (Kd.C_below HR214.out HB.out)|(with_reducible refine Kd.C_alloc ?_ _)|(with_reducible refine Kd.C_drewN ?_ _)|(with_reducible refine Kd.C_drew ?_)));(case side2 => exact HC214.out);rintro e w49 ⟨rfl, hb⟩;have n0_ := Aside0.mk (below_step (by repeat (with_reducible first|exact HB.out|apply xa|apply xb|apply xc)) hb);clear HB;have HB := n0_;clear n0_;(try clear hb);(try clear hb2);(try clear hk);(try clear hi))|(go_at_call 21;(with_reducible refine (gantt_Ran.calls k1 _ _ y211 a1 t218 _ ?side1 ?side2 A30.out).mono ?_);(case side1 => repeat (first|exact (Kd.C_below HR214.out HB.out)|(with_reducible refine Kd.C_alloc ?_ _)|(with_reducible refine Kd.C_drewN ?_ _)|(with_reducible refine Kd.C_drew ?_)));(case side2 => exact HC214.out);rintro e w50 ⟨rfl, hb⟩;have n0_ := Aside0.mk (below_step (by repeat (with_reducible first|exact HB.out|apply xa|apply xb|apply xc)) hb);clear HB;have HB := n0_;clear n0_;(try clear hb);(try clear hb2);(try clear hk);(try clear hi))|(go_at_call 23;(with_reducible refine (gantt_Went.calls k1 _ _ y211 a1 t219 _ ?side1 ?side2 A32.out).mono ?_);(case side1 => repeat (first|exact (Kd.C_below HR214.out HB.out)|(with_reducible refine Kd.C_alloc ?_ _)|(with_reducible refine Kd.C_drewN ?_ _)|(with_reducible refine Kd.C_drew ?_)));(case side2 => exact HC214.out);rintro e w51 ⟨v220, rfl, ho0, hb⟩;have n0_ := Aside0.mk (Kd.R_lower ho0 (below_size (by repeat (with_reducible first|exact HB.out|apply xa|apply xb|apply xc))));have n1_ := Aside0.mk (below_step (by repeat (with_reducible first|exact HB.out|apply xa|apply xb|apply xc)) hb);clear HB;have HO221 := n0_;have HB := n1_;clear n0_ n1_;(try clear hb);(try clear hb2);(try clear hk);(try clear hi);(try clear ho0))|(go_at_call 24;(with_reducible refine (pinfoldref30_Went.calls k1 _ _ y211 a1 t222 _ ?side1 ?side2 A33.out).mono ?_);(case side1 => repeat (first|exact (Kd.C_below HR214.out HB.out)|(with_reducible refine Kd.C_alloc ?_ _)|(with_reducible refine Kd.C_drewN ?_ _)|(with_reducible refine Kd.C_drew ?_)));(case side2 => exact HC214.out);rintro e w52 ⟨v223, rfl, ho0, hb⟩;have n0_ := Aside0.mk (Kd.R_elder' (by (with_reducible repeat (first|apply Kd.R_alloc|apply Kd.R_drewN|apply Kd.R_drew));exact HO221.out) (Kd.R_base ho0) hb);have n1_ := Aside0.mk (Kd.R_lower (Kd.R_new' ho0 (Kd.R_lt (by (with_reducible repeat (first|apply Kd.R_alloc|apply Kd.R_drewN|apply Kd.R_drew));exact HO221.out))) (below_size (by repeat (with_reducible first|exact HB.out|apply xa|apply xb|apply xc))));have n2_ := Aside0.mk (below_step (by repeat (with_reducible first|exact HB.out|apply xa|apply xb|apply xc)) hb);clear HO221;clear HB;have HO221 := n0_;have HO224 := n1_;have HB := n2_;clear n0_ n1_ n2_;(try clear hb);(try clear hb2);(try clear hk);(try clear hi);(try clear ho0);obtain ⟨Ao53, co53, eo53⟩ := Kd.R_slice HO221.out;subst eo53;obtain ⟨Ao54, co54, eo54⟩ := Kd.R_slice HO224.out;subst eo54)|(go_at_call 22;(with_reducible refine (pinfoldref04_Same.calls k1 _ _ t219 _ _ t222 true _ ?side1 ?side2 ?side3 ?side4 A34.out).mono ?_);(case side1 => repeat (first|exact (Kd.R_reads' HO221.out).2.2|(with_reducible refine Kd.C_alloc ?_ _)|(with_reducible refine Kd.C_drewN ?_ _)|(with_reducible refine Kd.C_drew ?_)));(case side2 => exact (Kd.R_reads' HO221.out).2.1);(case side3 => repeat (first|exact (Kd.R_reads' HO224.out).2.2|(with_reducible refine Kd.C_alloc ?_ _)|(with_reducible refine Kd.C_drewN ?_ _)|(with_reducible refine Kd.C_drew ?_)));(case side4 => exact (Kd.R_reads' HO224.out).2.1);rintro e w' ⟨rfl, ⟨nd, rfl⟩⟩)|(go_at_call 25;(with_reducible refine (gantt_Waited.calls k1 _ _ y211 a1 t226 _ ?side1 ?side2 A36.out).mono ?_);(case side1 => repeat (first|exact (Kd.C_below HR214.out (by repeat (with_reducible first|exact HB.out|apply xa|apply xb|apply xc)))|(with_reducible refine Kd.C_alloc ?_ _)|(with_reducible refine Kd.C_drewN ?_ _)|(with_reducible refine Kd.C_drew ?_)));(case side2 => exact HC214.out);rintro e w55 ⟨rfl, hb⟩;have n0_ := Aside0.mk (Kd.R_below (by (with_reducible repeat (first|apply Kd.R_alloc|apply Kd.R_drewN|apply Kd.R_drew));exact HO221.out) hb);have n1_ := Aside0.mk (Kd.R_below (by (with_reducible repeat (first|apply Kd.R_alloc|apply Kd.R_drewN|apply Kd.R_drew));exact HO224.out) hb);have n2_ := Aside0.mk (below_step (by repeat (with_reducible first|exact HB.out|apply xa|apply xb|apply xc)) hb);clear HO221;clear HO224;clear HB;have HO221 := n0_;have HO224 := n1_;have HB := n2_;clear n0_ n1_ n2_;(try clear hb);(try clear hb2);(try clear hk);(try clear hi))|(go_at_call 26;(with_reducible refine (pinfoldref30_Waited.calls k1 _ _ y211 a1 t227 _ ?side1 ?side2 A37.out).mono ?_);(case side1 => repeat (first|exact (Kd.C_below HR214.out HB.out)|(with_reducible refine Kd.C_alloc ?_ _)|(with_reducible refine Kd.C_drewN ?_ _)|(with_reducible refine Kd.C_drew ?_)));(case side2 => exact HC214.out);rintro e w56 ⟨rfl, hb⟩;have n0_ := Aside0.mk (Kd.R_below (by (with_reducible repeat (first|apply Kd.R_alloc|apply Kd.R_drewN|apply Kd.R_drew));exact HO221.out) hb);have n1_ := Aside0.mk (Kd.R_below (by (with_reducible repeat (first|apply Kd.R_alloc|apply Kd.R_drewN|apply Kd.R_drew));exact HO224.out) hb);have n2_ := Aside0.mk (below_step (by repeat (with_reducible first|exact HB.out|apply xa|apply xb|apply xc)) hb);clear HO221;clear HO224;clear HB;have HO221 := n0_;have HO224 := n1_;have HB := n2_;clear n0_ n1_ n2_;(try clear hb);(try clear hb2);(try clear hk);(try clear hi)))
          go_ret
          exact ⟨by first|rfl|(simp [errW_none, errW_some] <;> rfl)|(simp only [← hji4];first|rfl|(simp [errW_none, errW_some] <;> rfl))|(simp [*, errW_none, errW_some] <;> rfl), by repeat (with_reducible first|exact HB.out|apply xa|apply xb|apply xc)⟩
        ·replace c35 := Bool.eq_false_iff.mpr c35
         subst c35
         have H1 : (some false) = some r := by rw [if_neg (show ¬ (false = true) by decide)] at H;exact H
         clear H
         have H := H1
         clear H1
         obtain rfl := Option.some.inj H
         go_wp2_with (first|(go_at_call 20;(with_reducible refine (gantt_Busy.calls k1 _ _ y211 a2 t217 _ ?side1 ?side2 A28.out).mono ?_);(case side1 => repeat (first|exact (Kd.C_below HR214.out HB.out)|(with_reducible refine Kd.C_alloc ?_ _)|(with_reducible refine Kd.C_drewN ?_ _)|(with_reducible refine Kd.C_drew ?_)));(case side2 => exact HC214.out);rintro e w57 ⟨rfl, hb⟩;have n0_ := Aside0.mk (below_step (by repeat (with_reducible first|exact HB.out|apply xa|apply xb|apply xc)) hb);clear HB;have HB := n0_;clear n0_;(try clear hb);(try clear hb2);(try clear hk);(try clear hi))|(go_at_call 21;(with_reducible refine (gantt_Ran.calls k1 _ _ y211 a1 t218 _ ?side1 ?side2 A30.out).mono ?_);(case side1 => repeat (first|exact (Kd.C_below HR214.out HB.out)|(with_reducible refine Kd.C_alloc ?_ _)|(with_reducible refine Kd.C_drewN ?_ _)|(with_reducible refine Kd.C_drew ?_)));(case side2 => exact HC214.out);rintro e w58 ⟨rfl, hb⟩;have n0_ := Aside0.mk (below_step (by repeat (with_reducible first|exact HB.out|apply xa|apply xb|apply xc)) hb);clear HB;have HB := n0_;clear n0_;(try clear hb);(try clear hb2);(try clear hk);(try clear hi))|(go_at_call 23;(with_reducible refine (gantt_Went.calls k1 _ _ y211 a1 t219 _ ?side1 ?side2 A32.out).mono ?_);(case side1 => repeat (first|exact (Kd.C_below HR214.out HB.out)|(with_reducible refine Kd.C_alloc ?_ _)|(with_reducible refine Kd.C_drewN ?_ _)|(with_reducible refine Kd.C_drew ?_)));(case side2 => exact HC214.out);rintro e w59 ⟨v220, rfl, ho0, hb⟩;have n0_ := Aside0.mk (Kd.R_lower ho0 (below_size (by repeat (with_reducible first|exact HB.out|apply xa|apply xb|apply xc))));have n1_ := Aside0.mk (below_step (by repeat (with_reducible first|exact HB.out|apply xa|apply xb|apply xc)) hb);clear HB;have HO221 := n0_;have HB := n1_;clear n0_ n1_;(try clear hb);(try clear hb2);(try clear hk);(try clear hi);(try clear ho0))|(go_at_call 24;(with_reducible refine (pinfoldref30_Went.calls k1 _ _ y211 a1 t222 _ ?side1 ?side2 A33.out).mono ?_);(case side1 => repeat (first|exact (Kd.C_below HR214.out HB.out)|(with_reducible refine Kd.C_alloc ?_ _)|(with_reducible refine Kd.C_drewN ?_ _)|(with_reducible refine Kd.C_drew ?_)));(case side2 => exact HC214.out);rintro e w60 ⟨v223, rfl, ho0, hb⟩;have n0_ := Aside0.mk (Kd.R_elder' (by (with_reducible repeat (first|apply Kd.R_alloc|apply Kd.R_drewN|apply Kd.R_drew));exact HO221.out) (Kd.R_base ho0) hb);have n1_ := Aside0.mk (Kd.R_lower (Kd.R_new' ho0 (Kd.R_lt (by (with_reducible repeat (first|apply Kd.R_alloc|apply Kd.R_drewN|apply Kd.R_drew));exact HO221.out))) (below_size (by repeat (with_reducible first|exact HB.out|apply xa|apply xb|apply xc))));have n2_ := Aside0.mk (below_step (by repeat (with_reducible first|exact HB.out|apply xa|apply xb|apply xc)) hb);clear HO221;clear HB;have HO221 := n0_;have HO224 := n1_;have HB := n2_;clear n0_ n1_ n2_;(try clear hb);(try clear hb2);(try clear hk);(try clear hi);(try clear ho0);obtain ⟨Ao61, co61, eo61⟩ := Kd.R_slice HO221.out;subst eo61;obtain ⟨Ao62, co62, eo62⟩ := Kd.R_slice HO224.out;subst eo62)|(go_at_call 22;(with_reducible refine (pinfoldref04_Same.calls k1 _ _ t219 _ _ t222 false _ ?side1 ?side2 ?side3 ?side4 A34.out).mono ?_);(case side1 => repeat (first|exact (Kd.R_reads' HO221.out).2.2|(with_reducible refine Kd.C_alloc ?_ _)|(with_reducible refine Kd.C_drewN ?_ _)|(with_reducible refine Kd.C_drew ?_)));(case side2 => exact (Kd.R_reads' HO221.out).2.1);(case side3 => repeat (first|exact (Kd.R_reads' HO224.out).2.2|(with_reducible refine Kd.C_alloc ?_ _)|(with_reducible refine Kd.C_drewN ?_ _)|(with_reducible refine Kd.C_drew ?_)));(case side4 => exact (Kd.R_reads' HO224.out).2.1);rintro e w' ⟨rfl, ⟨nd, rfl⟩⟩))
         go_ret
         exact ⟨by first|rfl|(simp [errW_none, errW_some] <;> rfl)|(simp only [← hji4];first|rfl|(simp [errW_none, errW_some] <;> rfl))|(simp [*, errW_none, errW_some] <;> rfl), by repeat (with_reducible first|exact HB.out|apply xa|apply xb|apply xc)⟩
       ·rw [if_neg c31] at H
        have c31b0 : (t218 == x8_1) = false := beq_eq_false_iff_ne.mpr c31
        have c31b1 : (t218 != x8_1) = true := bne_iff_ne.mpr c31
        obtain rfl := Option.some.inj H
        go_wp2_with (first|(go_at_call 20;(with_reducible refine (gantt_Busy.calls k1 _ _ y211 a2 t217 _ ?side1 ?side2 A28.out).mono ?_);(case side1 => repeat (first|exact (Kd.C_below HR214.out HB.out)|(with_reducible refine Kd.C_alloc ?_ _)|(with_reducible refine Kd.C_drewN ?_ _)|(with_reducible refine Kd.C_drew ?_)));(case side2 => exact HC214.out);rintro e w63 ⟨rfl, hb⟩;have n0_ := Aside0.mk (below_step (by repeat (with_reducible first|exact HB.out|apply xa|apply xb|apply xc)) hb);clear HB;have HB := n0_;clear n0_;(try clear hb);(try clear hb2);(try clear hk);(try clear hi))|(go_at_call 21;(with_reducible refine (gantt_Ran.calls k1 _ _ y211 a1 t218 _ ?side1 ?side2 A30.out).mono ?_);(case side1 => repeat (first|exact (Kd.C_below HR214.out HB.out)|(with_reducible refine Kd.C_alloc ?_ _)|(with_reducible refine Kd.C_drewN ?_ _)|(with_reducible refine Kd.C_drew ?_)));(case side2 => exact HC214.out);rintro e w64 ⟨rfl, hb⟩;have n0_ := Aside0.mk (below_step (by repeat (with_reducible first|exact HB.out|apply xa|apply xb|apply xc)) hb);clear HB;have HB := n0_;clear n0_;(try clear hb);(try clear hb2);(try clear hk);(try clear hi)))
        go_ret
        exact ⟨by first|rfl|(simp [errW_none, errW_some] <;> rfl)|(simp only [← hji4];first|rfl|(simp [errW_none, errW_some] <;> rfl))|(simp [*, errW_none, errW_some] <;> rfl), by repeat (with_reducible first|exact HB.out|apply xa|apply xb|apply xc)⟩
      ·rw [if_neg c29] at H
       have c29b0 : (t217 == x7_1) = false := beq_eq_false_iff_ne.mpr c29
       have c29b1 : (t217 != x7_1) = true := bne_iff_ne.mpr c29
       obtain rfl := Option.some.inj H
       go_wp2_with (first|(go_at_call 20;(with_reducible refine (gantt_Busy.calls k1 _ _ y211 a2 t217 _ ?side1 ?side2 A28.out).mono ?_);(case side1 => repeat (first|exact (Kd.C_below HR214.out HB.out)|(with_reducible refine Kd.C_alloc ?_ _)|(with_reducible refine Kd.C_drewN ?_ _)|(with_reducible refine Kd.C_drew ?_)));(case side2 => exact HC214.out);rintro e w65 ⟨rfl, hb⟩;have n0_ := Aside0.mk (below_step (by repeat (with_reducible first|exact HB.out|apply xa|apply xb|apply xc)) hb);clear HB;have HB := n0_;clear n0_;(try clear hb);(try clear hb2);(try clear hk);(try clear hi)))
       go_ret
       exact ⟨by first|rfl|(simp [errW_none, errW_some] <;> rfl)|(simp only [← hji4];first|rfl|(simp [errW_none, errW_some] <;> rfl))|(simp [*, errW_none, errW_some] <;> rfl), by repeat (with_reducible first|exact HB.out|apply xa|apply xb|apply xc)⟩
  ·rw [if_neg c6] at H
   exact absurd H (by simp)
 ·rw [if_neg c5] at H
  exact absurd H (by simp)

end Go.Proofs.Ytkegdcnnankokaa.PGan
