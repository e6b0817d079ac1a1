/- Functions of the program as Lean functions, and proofs that the code comes to their answers: printed by this session's program. -/
import Derived.Test.YtkegdcnnankokaaPGanx0
import Derived.Test.YtkegdcnnankokaaPGanx4
namespace Go.Proofs.Ytkegdcnnankokaa.PGan
open Go.RowKit Go.Proofs.YtkegdcnnankokaaW.PrintWords Go.Proofs.YtkegdcnnankokaaW.PrintLast Go.Proofs.YtkegdcnnankokaaW.PrintMore
attribute [local go_sem] max2_int min2_int max_two min_two max_three min_three max_four min_four   -- for this text's walks alone
set_option linter.unusedVariables false
set_option linter.unusedSimpArgs false

/-! ### pinfoldref30_Sign: function 54 -/
mutual
def pinfoldref30_Sign.l0 : Nat → List (S36) → Int → Int → Int → List (S36) → Int → Int → Option (ByteArray)
 | 0, _, _, _, _, _, _, _ => none
 | k + 1, x0, x1, x5, x6, x13, x14, x15 => if x15 < x14 then (if 0 ≤ x15 then (if x15 < (x13.length : Int) then (pinfoldref30_Sign.l1 k x0 x1 x5 x6 0 x13 x14 x15 x0 (x0.length : Int) 0 ((rd_T36 x13 x15).f0) ((rd_T36 x13 x15).f1) ((rd_T36 x13 x15).f2) ((rd_T36 x13 x15).f3) ((rd_T36 x13 x15).f4)) else (none)) else (none)) else (if x6 = 0 then (some (⟨#[46]⟩ : ByteArray)) else ((pinfoldref09_Dec.f k x5).bind fun t148 => (if 0 ≤ (wrap64 ((t148.size : Int) - 1)) then (if (wrap64 ((t148.size : Int) - 1)) ≤ (t148.size : Int) then (some (t148.extract ((wrap64 ((t148.size : Int) - 1)) : Int).toNat t148.size)) else (none)) else (none))))
def pinfoldref30_Sign.l1 : Nat → List (S36) → Int → Int → Int → Int → List (S36) → Int → Int → List (S36) → Int → Int → Int → Int → Int → Int → Int → Option (ByteArray)
 | 0, _, _, _, _, _, _, _, _, _, _, _, _, _, _, _, _ => none
 | k + 1, x0, x1, x5, x6, x9, x13, x14, x15, x19, x20, x21, x151000, x151001, x151002, x151003, x151004 => if x21 < x20 then (if 0 ≤ x21 then (if x21 < (x19.length : Int) then (if ((rd_T36 x19 x21).f0) = 3 then (if ((rd_T36 x19 x21).f2) = x1 then (if ((rd_T36 x19 x21).f1) = x151001 then (pinfoldref30_Sign.l1 k x0 x1 x5 x6 (wrap64 (x9 + 1)) x13 x14 x15 x19 x20 (wrap64 (x21 + 1)) x151000 x151001 x151002 x151003 x151004) else (pinfoldref30_Sign.l1 k x0 x1 x5 x6 x9 x13 x14 x15 x19 x20 (wrap64 (x21 + 1)) x151000 x151001 x151002 x151003 x151004)) else (pinfoldref30_Sign.l1 k x0 x1 x5 x6 x9 x13 x14 x15 x19 x20 (wrap64 (x21 + 1)) x151000 x151001 x151002 x151003 x151004)) else (pinfoldref30_Sign.l1 k x0 x1 x5 x6 x9 x13 x14 x15 x19 x20 (wrap64 (x21 + 1)) x151000 x151001 x151002 x151003 x151004)) else (none)) else (none)) else (if x9 > x6 then (pinfoldref30_Sign.l0 k x0 x1 x151001 x9 x13 x14 (wrap64 (x15 + 1))) else (if x9 = x6 then (if x9 > 0 then (if x151001 < x5 then (pinfoldref30_Sign.l0 k x0 x1 x151001 x9 x13 x14 (wrap64 (x15 + 1))) else (pinfoldref30_Sign.l0 k x0 x1 x5 x6 x13 x14 (wrap64 (x15 + 1)))) else (pinfoldref30_Sign.l0 k x0 x1 x5 x6 x13 x14 (wrap64 (x15 + 1)))) else (pinfoldref30_Sign.l0 k x0 x1 x5 x6 x13 x14 (wrap64 (x15 + 1)))))
end
def pinfoldref30_Sign.f (k : Nat) (l0 : List (S36)) (a1 : Int) : Option (ByteArray) := pinfoldref30_Sign.l0 k l0 a1 0 0 l0 (l0.length : Int) 0
theorem pinfoldref30_Sign.mono_l : ∀ k, (∀ y0 y1 y2 y3 y4 y5 y6, LeO (pinfoldref30_Sign.l0 k y0 y1 y2 y3 y4 y5 y6) (pinfoldref30_Sign.l0 (k + 1) y0 y1 y2 y3 y4 y5 y6)) ∧ (∀ y0 y1 y2 y3 y4 y5 y6 y7 y8 y9 y10 y11 y12 y13 y14 y15, LeO (pinfoldref30_Sign.l1 k y0 y1 y2 y3 y4 y5 y6 y7 y8 y9 y10 y11 y12 y13 y14 y15) (pinfoldref30_Sign.l1 (k + 1) y0 y1 y2 y3 y4 y5 y6 y7 y8 y9 y10 y11 y12 y13 y14 y15))
 | 0 => ⟨fun _ _ _ _ _ _ _ r h => by simp [pinfoldref30_Sign.l0] at h, fun _ _ _ _ _ _ _ _ _ _ _ _ _ _ _ _ r h => by simp [pinfoldref30_Sign.l1] at h⟩
 | k + 1 => by
  obtain ⟨ih0, ih1⟩ := pinfoldref30_Sign.mono_l k
  refine ⟨?_, ?_⟩
  ·intro y0 y1 y2 y3 y4 y5 y6
   unfold pinfoldref30_Sign.l0
   repeat' first
   | (with_reducible exact ih0 _ _ _ _ _ _ _)
   | (with_reducible exact ih1 _ _ _ _ _ _ _ _ _ _ _ _ _ _ _ _)
   | (with_reducible exact pinfoldref09_Dec.mono _ _)
   | (with_reducible exact LeO.refl _)
   | (with_reducible exact LeO.none _)
   | (with_reducible refine LeO.ite ?_ ?_)
   | (with_reducible refine LeO.bind ?_ (fun _ => ?_))
   | exact ih0 _ _ _ _ _ _ _
   | exact ih1 _ _ _ _ _ _ _ _ _ _ _ _ _ _ _ _
   | exact pinfoldref09_Dec.mono _ _
   | exact LeO.none _
   | refine LeO.ite ?_ ?_
   | refine LeO.bind ?_ (fun _ => ?_)
  ·intro y0 y1 y2 y3 y4 y5 y6 y7 y8 y9 y10 y11 y12 y13 y14 y15
   unfold pinfoldref30_Sign.l1
   repeat' first
   | (with_reducible exact ih0 _ _ _ _ _ _ _)
   | (with_reducible exact ih1 _ _ _ _ _ _ _ _ _ _ _ _ _ _ _ _)
   | (with_reducible exact pinfoldref09_Dec.mono _ _)
   | (with_reducible exact LeO.refl _)
   | (with_reducible exact LeO.none _)
   | (with_reducible refine LeO.ite ?_ ?_)
   | (with_reducible refine LeO.bind ?_ (fun _ => ?_))
   | exact ih0 _ _ _ _ _ _ _
   | exact ih1 _ _ _ _ _ _ _ _ _ _ _ _ _ _ _ _
   | exact pinfoldref09_Dec.mono _ _
   | exact LeO.none _
   | refine LeO.ite ?_ ?_
   | refine LeO.bind ?_ (fun _ => ?_)
theorem pinfoldref30_Sign.mono : ∀ a0 a1 k, LeO (pinfoldref30_Sign.f k a0 a1) (pinfoldref30_Sign.f (k + 1) a0 a1) := by
 intro a0 a1 k
 obtain ⟨ih0, ih1⟩ := pinfoldref30_Sign.mono_l k
 unfold pinfoldref30_Sign.f
 repeat' first
   | (with_reducible exact ih0 _ _ _ _ _ _ _)
   | (with_reducible exact ih1 _ _ _ _ _ _ _ _ _ _ _ _ _ _ _ _)
   | (with_reducible exact pinfoldref09_Dec.mono _ _)
   | (with_reducible exact LeO.refl _)
   | (with_reducible exact LeO.none _)
   | (with_reducible refine LeO.ite ?_ ?_)
   | (with_reducible refine LeO.bind ?_ (fun _ => ?_))
   | exact ih0 _ _ _ _ _ _ _
   | exact ih1 _ _ _ _ _ _ _ _ _ _ _ _ _ _ _ _
   | exact pinfoldref09_Dec.mono _ _
   | exact LeO.none _
   | refine LeO.ite ?_ ?_
   | refine LeO.bind ?_ (fun _ => ?_)
set_option maxHeartbeats 8000000 in
set_option maxRecDepth 100000 in
theorem pinfoldref30_Sign.calls (k : Nat) (A0 : Option Addr) (c0 : Nat) (l0 : List (S36)) (a1 : Int) (r : ByteArray) (w : World) (hr0 : Kd.C k36 w A0 l0.length l0) (hc0 : l0.length ≤ c0) (h : pinfoldref30_Sign.f k l0 a1 = some r) :
  Calls Try.prog 54 #[.slice A0 l0.length c0, .int .i64 a1] w fun e w' => e = .returned (.string r) ∧ Below w.heap.size w w' := by
 have hu36 := Try.underlying36
 have HR0 := Aside0.mk hr0
 have HC0 := Aside0.mk hc0
 clear hr0 hc0
 have HB := Aside0.mk (Below.refl w.heap.size w)
 have H : (pinfoldref30_Sign.l0 k l0 a1 0 0 l0 (l0.length : Int) 0) = some r := h
 clear h
 have H' := Aside0.mk H
 clear H
 go_enter Try.func54, Try.ntmps54
 go_wp2
 go_loopg [5, 6, 15] k (fun kq v5 v6 v15 w' => ∃ (x5_1 : Int) (x6_1 : Int) (x15_1 : Int), v5 = .int .i64 x5_1 ∧ v6 = .int .i64 x6_1 ∧ v15 = .int .i64 x15_1 ∧ Aside0 (pinfoldref30_Sign.l0 kq l0 a1 x5_1 x6_1 l0 (l0.length : Int) x15_1 = some r) ∧ Aside0 (kq ≤ k) ∧ Aside0 (Below w.heap.size w w'))
 case atStart => exact ⟨(0), (0), (0), (by first|rfl|(simp;done)|(simp [*];done)), (by first|rfl|(simp;done)|(simp [*];done)), (by first|rfl|(simp;done)|(simp [*];done)), H', ⟨Nat.le_refl _⟩, ⟨by repeat (with_reducible first|exact HB.out|apply xa|apply xb|apply xc)⟩⟩
 case round =>
  clear H'
  try clear p2
  obtain ⟨x5_1, x6_1, x15_1, rfl, rfl, rfl, HA, HK1, HB⟩ := hrel
  cases gk with
  | zero => exact absurd HA.out (by simp [pinfoldref30_Sign.l0])
  | succ k1 =>
   have H := HA.out
   clear HA
   simp only [pinfoldref30_Sign.l0] at H
   by_cases c3 : x15_1 < (l0.length : Int)
   ·rw [if_pos c3] at H
    have c3b0 : decide (x15_1 < (l0.length : Int)) = true := decide_eq_true c3
    clear c3
    by_cases c4 : 0 ≤ x15_1
    ·rw [if_pos c4] at H
     have c4b0 : decide (0 ≤ x15_1) = true := decide_eq_true c4
     clear c4
     by_cases c5 : x15_1 < (l0.length : Int)
     ·rw [if_pos c5] at H
      have c5b0 : decide (x15_1 < (l0.length : Int)) = true := decide_eq_true c5
      clear c5
      have H' := Aside0.mk H
      clear H
      have p149 : 0 ≤ (x15_1 : Int) := of_decide_eq_true (by assumption)
      have q149 : x15_1 < (l0.length : Int) := of_decide_eq_true (by assumption)
      obtain ⟨ad149, e149, hx149_0, hx149_1, hx149_2, hx149_3, hx149_4⟩ := at_T36 HR0.out x15_1 p149 q149
      cases e149
      replace hx149_0 := (HB.out.cell (World.block_lt_of_cell? w _ hx149_0)).trans hx149_0
      replace hx149_1 := (HB.out.cell (World.block_lt_of_cell? w _ hx149_1)).trans hx149_1
      replace hx149_2 := (HB.out.cell (World.block_lt_of_cell? w _ hx149_2)).trans hx149_2
      replace hx149_3 := (HB.out.cell (World.block_lt_of_cell? w _ hx149_3)).trans hx149_3
      replace hx149_4 := (HB.out.cell (World.block_lt_of_cell? w _ hx149_4)).trans hx149_4
      replace p149 := eq_true p149
      replace q149 := eq_true q149
      go_wp2_with (first|((with_reducible refine gate_dst (N := 8) rfl ?_);refine box_event ?hg (N := 8) ?hd (cs := #[.int .i64 0, .int .i64 0, .int .i64 0, .int .i64 0, .int .i64 0]) (t := 36) ?hr ?_;(case hd => rfl);(case hg => rfl);(case hr => first|(go_simp;done)|(go_simp;rfl));intro gb150 hg w6 hbox hb;have n0_ := Aside0.mk (below_step (by repeat (with_reducible first|exact HB.out|apply xa|apply xb|apply xc)) hb);have n1_ := Aside0.mk (hbox);have n2_ := Aside0.mk ((by rw [hg];exact (below_size (by repeat (with_reducible first|exact HB.out|apply xa|apply xb|apply xc))) : w.heap.size ≤ gb150));have n3_ := Aside0.mk ((by rw [hg];exact (below_size (by repeat (with_reducible first|exact HB.out|apply xa|apply xb|apply xc))) : w.heap.size ≤ gb150));clear HB;have HB := n0_;have BK150 := n1_;have GW150 := n2_;have GE150 := n3_;clear n0_ n1_ n2_ n3_;clear hb hbox hg;have hcz7_0 : w6.cell? ⟨gb150, 0, none⟩ = some (.int .i64 0) := (blk_cell BK150.out 0).trans rfl;have hcz7_1 : w6.cell? ⟨gb150, 1, none⟩ = some (.int .i64 0) := (blk_cell BK150.out 1).trans rfl;have hcz7_2 : w6.cell? ⟨gb150, 2, none⟩ = some (.int .i64 0) := (blk_cell BK150.out 2).trans rfl;have hcz7_3 : w6.cell? ⟨gb150, 3, none⟩ = some (.int .i64 0) := (blk_cell BK150.out 3).trans rfl;have hcz7_4 : w6.cell? ⟨gb150, 4, none⟩ = some (.int .i64 0) := (blk_cell BK150.out 4).trans rfl;have hfz7_0 := blk_frozen BK150.out 0;have hfz7_1 := blk_frozen BK150.out 1;have hfz7_2 := blk_frozen BK150.out 2;have hfz7_3 := blk_frozen BK150.out 3;have hfz7_4 := blk_frozen BK150.out 4))
      go_loopg [9, 21] k1 (fun kq v9 v21 w' => ∃ (x9_2 : Int) (x21_2 : Int), v9 = .int .i64 x9_2 ∧ v21 = .int .i64 x21_2 ∧ Aside0 (pinfoldref30_Sign.l1 kq l0 a1 x5_1 x6_1 x9_2 l0 (l0.length : Int) x15_1 l0 (l0.length : Int) x21_2 ((rd_T36 l0 x15_1).f0) ((rd_T36 l0 x15_1).f1) ((rd_T36 l0 x15_1).f2) ((rd_T36 l0 x15_1).f3) ((rd_T36 l0 x15_1).f4) = some r) ∧ Aside0 (kq ≤ k1) ∧ Aside0 (w'.heap[gb150]? = some (.cells #[.int .i64 ((rd_T36 l0 x15_1).f0), .int .i64 ((rd_T36 l0 x15_1).f1), .int .i64 ((rd_T36 l0 x15_1).f2), .int .i64 ((rd_T36 l0 x15_1).f3), .int .i64 ((rd_T36 l0 x15_1).f4)] 36 (0, 0))) ∧ Aside0 (Below w.heap.size w w'))
      case atStart => exact ⟨(0), (0), (by first|rfl|(simp;done)|(simp [*];done)), (by first|rfl|(simp;done)|(simp [*];done)), H', ⟨Nat.le_refl _⟩, ⟨by (with_reducible repeat (first|apply blk_drewN|apply blk_drew|apply blk_alloc));refine blk_put (cs := #[.int .i64 ((rd_T36 l0 x15_1).f0), .int .i64 ((rd_T36 l0 x15_1).f1), .int .i64 ((rd_T36 l0 x15_1).f2), .int .i64 ((rd_T36 l0 x15_1).f3), .int .i64 0]) ?_ 4 _ rfl;(with_reducible repeat (first|apply blk_drewN|apply blk_drew|apply blk_alloc));refine blk_put (cs := #[.int .i64 ((rd_T36 l0 x15_1).f0), .int .i64 ((rd_T36 l0 x15_1).f1), .int .i64 ((rd_T36 l0 x15_1).f2), .int .i64 0, .int .i64 0]) ?_ 3 _ rfl;(with_reducible repeat (first|apply blk_drewN|apply blk_drew|apply blk_alloc));refine blk_put (cs := #[.int .i64 ((rd_T36 l0 x15_1).f0), .int .i64 ((rd_T36 l0 x15_1).f1), .int .i64 0, .int .i64 0, .int .i64 0]) ?_ 2 _ rfl;(with_reducible repeat (first|apply blk_drewN|apply blk_drew|apply blk_alloc));refine blk_put (cs := #[.int .i64 ((rd_T36 l0 x15_1).f0), .int .i64 0, .int .i64 0, .int .i64 0, .int .i64 0]) ?_ 1 _ rfl;(with_reducible repeat (first|apply blk_drewN|apply blk_drew|apply blk_alloc));refine blk_put (cs := #[.int .i64 0, .int .i64 0, .int .i64 0, .int .i64 0, .int .i64 0]) ?_ 0 _ rfl;(with_reducible repeat (first|apply blk_drewN|apply blk_drew|apply blk_alloc));exact BK150.out⟩, ⟨by repeat (first|(with_reducible first|exact HB.out|apply xa|apply xb|apply xc|refine below_set ?_ GE150.out)|exact HB.out)⟩⟩
      case round =>
       clear H'
       try clear p1
       try clear q1
       try clear hx1
       try clear p2
       try clear c3
       try clear c3b0
       try clear c4
       try clear c4b0
       try clear c5
       try clear c5b0
       try clear hcz7_0
       try clear hcz7_1
       try clear hcz7_2
       try clear hcz7_3
       try clear hcz7_4
       try clear hfz7_0
       try clear hfz7_1
       try clear hfz7_2
       try clear hfz7_3
       try clear hfz7_4
       try clear hx149_0
       try clear hx149_1
       try clear hx149_2
       try clear hx149_3
       try clear hx149_4
       try clear p149
       try clear p2
       try clear q149
       obtain ⟨x9_2, x21_2, rfl, rfl, HA, HK2, BK150, HB⟩ := hrel
       cases gk with
       | zero => exact absurd HA.out (by simp [pinfoldref30_Sign.l1])
       | succ k2 =>
        have H := HA.out
        clear HA
        simp only [pinfoldref30_Sign.l1] at H
        by_cases c8 : x21_2 < (l0.length : Int)
        ·rw [if_pos c8] at H
         have c8b0 : decide (x21_2 < (l0.length : Int)) = true := decide_eq_true c8
         clear c8
         by_cases c9 : 0 ≤ x21_2
         ·rw [if_pos c9] at H
          have c9b0 : decide (0 ≤ x21_2) = true := decide_eq_true c9
          clear c9
          by_cases c10 : x21_2 < (l0.length : Int)
          ·rw [if_pos c10] at H
           have c10b0 : decide (x21_2 < (l0.length : Int)) = true := decide_eq_true c10
           clear c10
           by_cases c11 : ((rd_T36 l0 x21_2).f0) = 3
           ·rw [if_pos c11] at H
            have c11b0 : (((rd_T36 l0 x21_2).f0) == 3) = true := beq_iff_eq.mpr c11
            have c11b1 : (((rd_T36 l0 x21_2).f0) != 3) = false := bne_eq_false_iff_eq.mpr c11
            clear c11
            by_cases c12 : ((rd_T36 l0 x21_2).f2) = a1
            ·rw [if_pos c12] at H
             have c12b0 : (((rd_T36 l0 x21_2).f2) == a1) = true := beq_iff_eq.mpr c12
             have c12b1 : (((rd_T36 l0 x21_2).f2) != a1) = false := bne_eq_false_iff_eq.mpr c12
             clear c12
             by_cases c13 : ((rd_T36 l0 x21_2).f1) = ((rd_T36 l0 x15_1).f1)
             ·rw [if_pos c13] at H
              have c13b0 : (((rd_T36 l0 x21_2).f1) == ((rd_T36 l0 x15_1).f1)) = true := beq_iff_eq.mpr c13
              have c13b1 : (((rd_T36 l0 x21_2).f1) != ((rd_T36 l0 x15_1).f1)) = false := bne_eq_false_iff_eq.mpr c13
              clear c13
              have H' := Aside0.mk H
              clear H
              have p151 : 0 ≤ (x21_2 : Int) := of_decide_eq_true (by assumption)
              have q151 : x21_2 < (l0.length : Int) := of_decide_eq_true (by assumption)
              obtain ⟨ad151, e151, hx151_0, hx151_1, hx151_2, hx151_3, hx151_4⟩ := at_T36 HR0.out x21_2 p151 q151
              obtain rfl : ad149 = ad151 := (by injection e151)
              replace hx151_0 := (HB.out.cell (World.block_lt_of_cell? w _ hx151_0)).trans hx151_0
              replace hx151_1 := (HB.out.cell (World.block_lt_of_cell? w _ hx151_1)).trans hx151_1
              replace hx151_2 := (HB.out.cell (World.block_lt_of_cell? w _ hx151_2)).trans hx151_2
              replace hx151_3 := (HB.out.cell (World.block_lt_of_cell? w _ hx151_3)).trans hx151_3
              replace hx151_4 := (HB.out.cell (World.block_lt_of_cell? w _ hx151_4)).trans hx151_4
              replace p151 := eq_true p151
              replace q151 := eq_true q151
              go_wp2_with (first|((with_reducible refine gate_dst (N := 11) rfl ?_);refine box_event ?hg (N := 11) ?hd (cs := #[.int .i64 0, .int .i64 0, .int .i64 0, .int .i64 0, .int .i64 0]) (t := 36) ?hr ?_;(case hd => rfl);(case hg => rfl);(case hr => first|(go_simp;done)|(go_simp;rfl));intro gb152 hg w14 hbox hb;have n0_ := Aside0.mk (blk_below (g := gb150) (o := .cells #[.int .i64 ((rd_T36 l0 x15_1).f0), .int .i64 ((rd_T36 l0 x15_1).f1), .int .i64 ((rd_T36 l0 x15_1).f2), .int .i64 ((rd_T36 l0 x15_1).f3), .int .i64 ((rd_T36 l0 x15_1).f4)] 36 (0, 0)) (by (with_reducible repeat (first|apply blk_drewN|apply blk_drew|apply blk_alloc));exact BK150.out) hb);have n1_ := Aside0.mk (below_step (by repeat (first|(with_reducible first|exact HB.out|apply xa|apply xb|apply xc|refine below_set ?_ GE150.out)|exact HB.out)) hb);have n2_ := Aside0.mk (hbox);have n3_ := Aside0.mk ((by rw [hg];exact (below_size (by repeat (first|(with_reducible first|exact HB.out|apply xa|apply xb|apply xc|refine below_set ?_ GE150.out)|exact HB.out))) : w.heap.size ≤ gb152));have n4_ := Aside0.mk ((by rw [hg];exact (below_size (by repeat (first|(with_reducible first|exact HB.out|apply xa|apply xb|apply xc|refine below_set ?_ GE150.out)|exact HB.out))) : w.heap.size ≤ gb152));have n5_ := Aside0.mk ((by rw [hg];exact Nat.ne_of_lt (blk_lt (g := gb150) (o := .cells #[.int .i64 ((rd_T36 l0 x15_1).f0), .int .i64 ((rd_T36 l0 x15_1).f1), .int .i64 ((rd_T36 l0 x15_1).f2), .int .i64 ((rd_T36 l0 x15_1).f3), .int .i64 ((rd_T36 l0 x15_1).f4)] 36 (0, 0)) (by (with_reducible repeat (first|apply blk_drewN|apply blk_drew|apply blk_alloc));exact BK150.out)) : gb150 ≠ gb152));have n6_ := Aside0.mk ((by rw [hg];exact Nat.ne_of_gt (blk_lt (g := gb150) (o := .cells #[.int .i64 ((rd_T36 l0 x15_1).f0), .int .i64 ((rd_T36 l0 x15_1).f1), .int .i64 ((rd_T36 l0 x15_1).f2), .int .i64 ((rd_T36 l0 x15_1).f3), .int .i64 ((rd_T36 l0 x15_1).f4)] 36 (0, 0)) (by (with_reducible repeat (first|apply blk_drewN|apply blk_drew|apply blk_alloc));exact BK150.out)) : gb152 ≠ gb150));clear BK150;clear HB;have BK150 := n0_;have HB := n1_;have BK152 := n2_;have GW152 := n3_;have GE152 := n4_;have NB150_152 := n5_;have NB152_150 := n6_;clear n0_ n1_ n2_ n3_ n4_ n5_ n6_;clear hb hbox hg;have hnb15 := NB152_150.out;have hnc15 := NB150_152.out;have hcz16_0 : w14.cell? ⟨gb152, 0, none⟩ = some (.int .i64 0) := (blk_cell BK152.out 0).trans rfl;have hcz16_1 : w14.cell? ⟨gb152, 1, none⟩ = some (.int .i64 0) := (blk_cell BK152.out 1).trans rfl;have hcz16_2 : w14.cell? ⟨gb152, 2, none⟩ = some (.int .i64 0) := (blk_cell BK152.out 2).trans rfl;have hcz16_3 : w14.cell? ⟨gb152, 3, none⟩ = some (.int .i64 0) := (blk_cell BK152.out 3).trans rfl;have hcz16_4 : w14.cell? ⟨gb152, 4, none⟩ = some (.int .i64 0) := (blk_cell BK152.out 4).trans rfl;have hfz16_0 := blk_frozen BK152.out 0;have hfz16_1 := blk_frozen BK152.out 1;have hfz16_2 := blk_frozen BK152.out 2;have hfz16_3 := blk_frozen BK152.out 3;have hfz16_4 := blk_frozen BK152.out 4;have hcz17_0 : w14.cell? ⟨gb150, 0, none⟩ = some (.int .i64 ((rd_T36 l0 x15_1).f0)) := (blk_cell BK150.out 0).trans rfl;have hcz17_1 : w14.cell? ⟨gb150, 1, none⟩ = some (.int .i64 ((rd_T36 l0 x15_1).f1)) := (blk_cell BK150.out 1).trans rfl;have hcz17_2 : w14.cell? ⟨gb150, 2, none⟩ = some (.int .i64 ((rd_T36 l0 x15_1).f2)) := (blk_cell BK150.out 2).trans rfl;have hcz17_3 : w14.cell? ⟨gb150, 3, none⟩ = some (.int .i64 ((rd_T36 l0 x15_1).f3)) := (blk_cell BK150.out 3).trans rfl;have hcz17_4 : w14.cell? ⟨gb150, 4, none⟩ = some (.int .i64 ((rd_T36 l0 x15_1).f4)) := (blk_cell BK150.out 4).trans rfl;have hfz17_0 := blk_frozen BK150.out 0;have hfz17_1 := blk_frozen BK150.out 1;have hfz17_2 := blk_frozen BK150.out 2;have hfz17_3 := blk_frozen BK150.out 3;have hfz17_4 := blk_frozen BK150.out 4))
              (try simp only [px_add0] at *)
              go_roundg k2
              case measure => have := HK1.out;have := HK2.out;omega
              case rel => exact ⟨(wrap64 (x9_2 + 1)), (wrap64 (x21_2 + 1)), (by first|rfl|(simp;done)|(simp [*];done)), (by first|rfl|(simp;done)|(simp [*];done)), H', ⟨by have := HK1.out;have := HK2.out;omega⟩, ⟨by (with_reducible repeat (first|apply blk_drewN|apply blk_drew|apply blk_alloc));refine blk_far ?_ NB150_152.out _;(with_reducible repeat (first|apply blk_drewN|apply blk_drew|apply blk_alloc));refine blk_far ?_ NB150_152.out _;(with_reducible repeat (first|apply blk_drewN|apply blk_drew|apply blk_alloc));refine blk_far ?_ NB150_152.out _;(with_reducible repeat (first|apply blk_drewN|apply blk_drew|apply blk_alloc));refine blk_far ?_ NB150_152.out _;(with_reducible repeat (first|apply blk_drewN|apply blk_drew|apply blk_alloc));refine blk_far ?_ NB150_152.out _;(with_reducible repeat (first|apply blk_drewN|apply blk_drew|apply blk_alloc));exact BK150.out⟩, ⟨by repeat (first|(with_reducible first|exact HB.out|apply xa|apply xb|apply xc|refine below_set ?_ GE150.out|refine below_set ?_ GE152.out)|exact HB.out)⟩⟩
             ·rw [if_neg c13] at H
              have c13b0 : (((rd_T36 l0 x21_2).f1) == ((rd_T36 l0 x15_1).f1)) = false := beq_eq_false_iff_ne.mpr c13
              have c13b1 : (((rd_T36 l0 x21_2).f1) != ((rd_T36 l0 x15_1).f1)) = true := bne_iff_ne.mpr c13
              have H' := Aside0.mk H
              clear H
              have p151 : 0 ≤ (x21_2 : Int) := of_decide_eq_true (by assumption)
              have q151 : x21_2 < (l0.length : Int) := of_decide_eq_true (by assumption)
              obtain ⟨ad151, e151, hx151_0, hx151_1, hx151_2, hx151_3, hx151_4⟩ := at_T36 HR0.out x21_2 p151 q151
              obtain rfl : ad149 = ad151 := (by injection e151)
              replace hx151_0 := (HB.out.cell (World.block_lt_of_cell? w _ hx151_0)).trans hx151_0
              replace hx151_1 := (HB.out.cell (World.block_lt_of_cell? w _ hx151_1)).trans hx151_1
              replace hx151_2 := (HB.out.cell (World.block_lt_of_cell? w _ hx151_2)).trans hx151_2
              replace hx151_3 := (HB.out.cell (World.block_lt_of_cell? w _ hx151_3)).trans hx151_3
              replace hx151_4 := (HB.out.cell (World.block_lt_of_cell? w _ hx151_4)).trans hx151_4
              replace p151 := eq_true p151
              replace q151 := eq_true q151
              go_wp2_with (first|((with_reducible refine gate_dst (N := 11) rfl ?_);refine box_event ?hg (N := 11) ?hd (cs := #[.int .i64 0, .int .i64 0, .int .i64 0, .int .i64 0, .int .i64 0]) (t := 36) ?hr ?_;(case hd => rfl);(case hg => rfl);(case hr => first|(go_simp;done)|(go_simp;rfl));intro gb152 hg w18 hbox hb;have n0_ := Aside0.mk (blk_below (g := gb150) (o := .cells #[.int .i64 ((rd_T36 l0 x15_1).f0), .int .i64 ((rd_T36 l0 x15_1).f1), .int .i64 ((rd_T36 l0 x15_1).f2), .int .i64 ((rd_T36 l0 x15_1).f3), .int .i64 ((rd_T36 l0 x15_1).f4)] 36 (0, 0)) (by (with_reducible repeat (first|apply blk_drewN|apply blk_drew|apply blk_alloc));exact BK150.out) hb);have n1_ := Aside0.mk (below_step (by repeat (first|(with_reducible first|exact HB.out|apply xa|apply xb|apply xc|refine below_set ?_ GE150.out)|exact HB.out)) hb);have n2_ := Aside0.mk (hbox);have n3_ := Aside0.mk ((by rw [hg];exact (below_size (by repeat (first|(with_reducible first|exact HB.out|apply xa|apply xb|apply xc|refine below_set ?_ GE150.out)|exact HB.out))) : w.heap.size ≤ gb152));have n4_ := Aside0.mk ((by rw [hg];exact (below_size (by repeat (first|(with_reducible first|exact HB.out|apply xa|apply xb|apply xc|refine below_set ?_ GE150.out)|exact HB.out))) : w.heap.size ≤ gb152));have n5_ := Aside0.mk ((by rw [hg];exact Nat.ne_of_lt (blk_lt (g := gb150) (o := .cells #[.int .i64 ((rd_T36 l0 x15_1).f0), .int .i64 ((rd_T36 l0 x15_1).f1), .int .i64 ((rd_T36 l0 x15_1).f2), .int .i64 ((rd_T36 l0 x15_1).f3), .int .i64 ((rd_T36 l0 x15_1).f4)] 36 (0, 0)) (by (with_reducible repeat (first|apply blk_drewN|apply blk_drew|apply blk_alloc));exact BK150.out)) : gb150 ≠ gb152));have n6_ := Aside0.mk ((by rw [hg];exact Nat.ne_of_gt (blk_lt (g := gb150) (o := .cells #[.int .i64 ((rd_T36 l0 x15_1).f0), .int .i64 ((rd_T36 l0 x15_1).f1), .int .i64 ((rd_T36 l0 x15_1).f2), .int .i64 ((rd_T36 l0 x15_1).f3), .int .i64 ((rd_T36 l0 x15_1).f4)] 36 (0, 0)) (by (with_reducible repeat (first|apply blk_drewN|apply blk_drew|apply blk_alloc));exact BK150.out)) : gb152 ≠ gb150));clear BK150;clear HB;have BK150 := n0_;have HB := n1_;have BK152 := n2_;have GW152 := n3_;have GE152 := n4_;have NB150_152 := n5_;have NB152_150 := n6_;clear n0_ n1_ n2_ n3_ n4_ n5_ n6_;clear hb hbox hg;have hnb19 := NB152_150.out;have hnc19 := NB150_152.out;have hcz20_0 : w18.cell? ⟨gb152, 0, none⟩ = some (.int .i64 0) := (blk_cell BK152.out 0).trans rfl;have hcz20_1 : w18.cell? ⟨gb152, 1, none⟩ = some (.int .i64 0) := (blk_cell BK152.out 1).trans rfl;have hcz20_2 : w18.cell? ⟨gb152, 2, none⟩ = some (.int .i64 0) := (blk_cell BK152.out 2).trans rfl;have hcz20_3 : w18.cell? ⟨gb152, 3, none⟩ = some (.int .i64 0) := (blk_cell BK152.out 3).trans rfl;have hcz20_4 : w18.cell? ⟨gb152, 4, none⟩ = some (.int .i64 0) := (blk_cell BK152.out 4).trans rfl;have hfz20_0 := blk_frozen BK152.out 0;have hfz20_1 := blk_frozen BK152.out 1;have hfz20_2 := blk_frozen BK152.out 2;have hfz20_3 := blk_frozen BK152.out 3;have hfz20_4 := blk_frozen BK152.out 4;have hcz21_0 : w18.cell? ⟨gb150, 0, none⟩ = some (.int .i64 ((rd_T36 l0 x15_1).f0)) := (blk_cell BK150.out 0).trans rfl;have hcz21_1 : w18.cell? ⟨gb150, 1, none⟩ = some (.int .i64 ((rd_T36 l0 x15_1).f1)) := (blk_cell BK150.out 1).trans rfl;have hcz21_2 : w18.cell? ⟨gb150, 2, none⟩ = some (.int .i64 ((rd_T36 l0 x15_1).f2)) := (blk_cell BK150.out 2).trans rfl;have hcz21_3 : w18.cell? ⟨gb150, 3, none⟩ = some (.int .i64 ((rd_T36 l0 x15_1).f3)) := (blk_cell BK150.out 3).trans rfl;have hcz21_4 : w18.cell? ⟨gb150, 4, none⟩ = some (.int .i64 ((rd_T36 l0 x15_1).f4)) := (blk_cell BK150.out 4).trans rfl;have hfz21_0 := blk_frozen BK150.out 0;have hfz21_1 := blk_frozen BK150.out 1;have hfz21_2 := blk_frozen BK150.out 2;have hfz21_3 := blk_frozen BK150.out 3;have hfz21_4 := blk_frozen BK150.out 4))
              (try simp only [px_add0] at *)
              go_roundg k2
              case measure => have := HK1.out;have := HK2.out;omega
              case rel => exact ⟨(x9_2), (wrap64 (x21_2 + 1)), (by first|rfl|(simp;done)|(simp [*];done)), (by first|rfl|(simp;done)|(simp [*];done)), H', ⟨by have := HK1.out;have := HK2.out;omega⟩, ⟨by (with_reducible repeat (first|apply blk_drewN|apply blk_drew|apply blk_alloc));refine blk_far ?_ NB150_152.out _;(with_reducible repeat (first|apply blk_drewN|apply blk_drew|apply blk_alloc));refine blk_far ?_ NB150_152.out _;(with_reducible repeat (first|apply blk_drewN|apply blk_drew|apply blk_alloc));refine blk_far ?_ NB150_152.out _;(with_reducible repeat (first|apply blk_drewN|apply blk_drew|apply blk_alloc));refine blk_far ?_ NB150_152.out _;(with_reducible repeat (first|apply blk_drewN|apply blk_drew|apply blk_alloc));refine blk_far ?_ NB150_152.out _;(with_reducible repeat (first|apply blk_drewN|apply blk_drew|apply blk_alloc));exact BK150.out⟩, ⟨by repeat (first|(with_reducible first|exact HB.out|apply xa|apply xb|apply xc|refine below_set ?_ GE150.out|refine below_set ?_ GE152.out)|exact HB.out)⟩⟩
            ·rw [if_neg c12] at H
             have c12b0 : (((rd_T36 l0 x21_2).f2) == a1) = false := beq_eq_false_iff_ne.mpr c12
             have c12b1 : (((rd_T36 l0 x21_2).f2) != a1) = true := bne_iff_ne.mpr c12
             have H' := Aside0.mk H
             clear H
             have p151 : 0 ≤ (x21_2 : Int) := of_decide_eq_true (by assumption)
             have q151 : x21_2 < (l0.length : Int) := of_decide_eq_true (by assumption)
             obtain ⟨ad151, e151, hx151_0, hx151_1, hx151_2, hx151_3, hx151_4⟩ := at_T36 HR0.out x21_2 p151 q151
             obtain rfl : ad149 = ad151 := (by injection e151)
             replace hx151_0 := (HB.out.cell (World.block_lt_of_cell? w _ hx151_0)).trans hx151_0
             replace hx151_1 := (HB.out.cell (World.block_lt_of_cell? w _ hx151_1)).trans hx151_1
             replace hx151_2 := (HB.out.cell (World.block_lt_of_cell? w _ hx151_2)).trans hx151_2
             replace hx151_3 := (HB.out.cell (World.block_lt_of_cell? w _ hx151_3)).trans hx151_3
             replace hx151_4 := (HB.out.cell (World.block_lt_of_cell? w _ hx151_4)).trans hx151_4
             replace p151 := eq_true p151
             replace q151 := eq_true q151
             go_wp2_with (first|((with_reducible refine gate_dst (N := 11) rfl ?_);refine box_event ?hg (N := 11) ?hd (cs := #[.int .i64 0, .int .i64 0, .int .i64 0, .int .i64 0, .int .i64 0]) (t := 36) ?hr ?_;(case hd => rfl);(case hg => rfl);(case hr => first|(go_simp;done)|(go_simp;rfl));intro gb152 hg w22 hbox hb;have n0_ := Aside0.mk (blk_below (g := gb150) (o := .cells #[.int .i64 ((rd_T36 l0 x15_1).f0), .int .i64 ((rd_T36 l0 x15_1).f1), .int .i64 ((rd_T36 l0 x15_1).f2), .int .i64 ((rd_T36 l0 x15_1).f3), .int .i64 ((rd_T36 l0 x15_1).f4)] 36 (0, 0)) (by (with_reducible repeat (first|apply blk_drewN|apply blk_drew|apply blk_alloc));exact BK150.out) hb);have n1_ := Aside0.mk (below_step (by repeat (first|(with_reducible first|exact HB.out|apply xa|apply xb|apply xc|refine below_set ?_ GE150.out)|exact HB.out)) hb);have n2_ := Aside0.mk (hbox);have n3_ := Aside0.mk ((by rw [hg];exact (below_size (by repeat (first|(with_reducible first|exact HB.out|apply xa|apply xb|apply xc|refine below_set ?_ GE150.out)|exact HB.out))) : w.heap.size ≤ gb152));have n4_ := Aside0.mk ((by rw [hg];exact (below_size (by repeat (first|(with_reducible first|exact HB.out|apply xa|apply xb|apply xc|refine below_set ?_ GE150.out)|exact HB.out))) : w.heap.size ≤ gb152));have n5_ := Aside0.mk ((by rw [hg];exact Nat.ne_of_lt (blk_lt (g := gb150) (o := .cells #[.int .i64 ((rd_T36 l0 x15_1).f0), .int .i64 ((rd_T36 l0 x15_1).f1), .int .i64 ((rd_T36 l0 x15_1).f2), .int .i64 ((rd_T36 l0 x15_1).f3), .int .i64 ((rd_T36 l0 x15_1).f4)] 36 (0, 0)) (by (with_reducible repeat (first|apply blk_drewN|apply blk_drew|apply blk_alloc));exact BK150.out)) : gb150 ≠ gb152));have n6_ := Aside0.mk ((by rw [hg];exact Nat.ne_of_gt (blk_lt (g := gb150) (o := .cells #[.int .i64 ((rd_T36 l0 x15_1).f0), .int .i64 ((rd_T36 l0 x15_1).f1), .int .i64 ((rd_T36 l0 x15_1).f2), .int .i64 ((rd_T36 l0 x15_1).f3), .int .i64 ((rd_T36 l0 x15_1).f4)] 36 (0, 0)) (by (with_reducible repeat (first|apply blk_drewN|apply blk_drew|apply blk_alloc));exact BK150.out)) : gb152 ≠ gb150));clear BK150;clear HB;have BK150 := n0_;have HB := n1_;have BK152 := n2_;have GW152 := n3_;have GE152 := n4_;have NB150_152 := n5_;have NB152_150 := n6_;clear n0_ n1_ n2_ n3_ n4_ n5_ n6_;clear hb hbox hg;have hnb23 := NB152_150.out;have hnc23 := NB150_152.out;have hcz24_0 : w22.cell? ⟨gb152, 0, none⟩ = some (.int .i64 0) := (blk_cell BK152.out 0).trans rfl;have hcz24_1 : w22.cell? ⟨gb152, 1, none⟩ = some (.int .i64 0) := (blk_cell BK152.out 1).trans rfl;have hcz24_2 : w22.cell? ⟨gb152, 2, none⟩ = some (.int .i64 0) := (blk_cell BK152.out 2).trans rfl;have hcz24_3 : w22.cell? ⟨gb152, 3, none⟩ = some (.int .i64 0) := (blk_cell BK152.out 3).trans rfl;have hcz24_4 : w22.cell? ⟨gb152, 4, none⟩ = some (.int .i64 0) := (blk_cell BK152.out 4).trans rfl;have hfz24_0 := blk_frozen BK152.out 0;have hfz24_1 := blk_frozen BK152.out 1;have hfz24_2 := blk_frozen BK152.out 2;have hfz24_3 := blk_frozen BK152.out 3;have hfz24_4 := blk_frozen BK152.out 4))
             (try simp only [px_add0] at *)
             go_roundg k2
             case measure => have := HK1.out;have := HK2.out;omega
             case rel => exact ⟨(x9_2), (wrap64 (x21_2 + 1)), (by first|rfl|(simp;done)|(simp [*];done)), (by first|rfl|(simp;done)|(simp [*];done)), H', ⟨by have := HK1.out;have := HK2.out;omega⟩, ⟨by (with_reducible repeat (first|apply blk_drewN|apply blk_drew|apply blk_alloc));refine blk_far ?_ NB150_152.out _;(with_reducible repeat (first|apply blk_drewN|apply blk_drew|apply blk_alloc));refine blk_far ?_ NB150_152.out _;(with_reducible repeat (first|apply blk_drewN|apply blk_drew|apply blk_alloc));refine blk_far ?_ NB150_152.out _;(with_reducible repeat (first|apply blk_drewN|apply blk_drew|apply blk_alloc));refine blk_far ?_ NB150_152.out _;(with_reducible repeat (first|apply blk_drewN|apply blk_drew|apply blk_alloc));refine blk_far ?_ NB150_152.out _;(with_reducible repeat (first|apply blk_drewN|apply blk_drew|apply blk_alloc));exact BK150.out⟩, ⟨by repeat (first|(with_reducible first|exact HB.out|apply xa|apply xb|apply xc|refine below_set ?_ GE150.out|refine below_set ?_ GE152.out)|exact HB.out)⟩⟩
           ·rw [if_neg c11] at H
            have c11b0 : (((rd_T36 l0 x21_2).f0) == 3) = false := beq_eq_false_iff_ne.mpr c11
            have c11b1 : (((rd_T36 l0 x21_2).f0) != 3) = true := bne_iff_ne.mpr c11
            have H' := Aside0.mk H
            clear H
            have p151 : 0 ≤ (x21_2 : Int) := of_decide_eq_true (by assumption)
            have q151 : x21_2 < (l0.length : Int) := of_decide_eq_true (by assumption)
            obtain ⟨ad151, e151, hx151_0, hx151_1, hx151_2, hx151_3, hx151_4⟩ := at_T36 HR0.out x21_2 p151 q151
            obtain rfl : ad149 = ad151 := (by injection e151)
            replace hx151_0 := (HB.out.cell (World.block_lt_of_cell? w _ hx151_0)).trans hx151_0
            replace hx151_1 := (HB.out.cell (World.block_lt_of_cell? w _ hx151_1)).trans hx151_1
            replace hx151_2 := (HB.out.cell (World.block_lt_of_cell? w _ hx151_2)).trans hx151_2
            replace hx151_3 := (HB.out.cell (World.block_lt_of_cell? w _ hx151_3)).trans hx151_3
            replace hx151_4 := (HB.out.cell (World.block_lt_of_cell? w _ hx151_4)).trans hx151_4
            replace p151 := eq_true p151
            replace q151 := eq_true q151
            go_wp2_with (first|((with_reducible refine gate_dst (N := 11) rfl ?_);refine box_event ?hg (N := 11) ?hd (cs := #[.int .i64 0, .int .i64 0, .int .i64 0, .int .i64 0, .int .i64 0]) (t := 36) ?hr ?_;(case hd => rfl);(case hg => rfl);(case hr => first|(go_simp;done)|(go_simp;rfl));intro gb152 hg w25 hbox hb;have n0_ := Aside0.mk (blk_below (g := gb150) (o := .cells #[.int .i64 ((rd_T36 l0 x15_1).f0), .int .i64 ((rd_T36 l0 x15_1).f1), .int .i64 ((rd_T36 l0 x15_1).f2), .int .i64 ((rd_T36 l0 x15_1).f3), .int .i64 ((rd_T36 l0 x15_1).f4)] 36 (0, 0)) (by (with_reducible repeat (first|apply blk_drewN|apply blk_drew|apply blk_alloc));exact BK150.out) hb);have n1_ := Aside0.mk (below_step (by repeat (first|(with_reducible first|exact HB.out|apply xa|apply xb|apply xc|refine below_set ?_ GE150.out)|exact HB.out)) hb);have n2_ := Aside0.mk (hbox);have n3_ := Aside0.mk ((by rw [hg];exact (below_size (by repeat (first|(with_reducible first|exact HB.out|apply xa|apply xb|apply xc|refine below_set ?_ GE150.out)|exact HB.out))) : w.heap.size ≤ gb152));have n4_ := Aside0.mk ((by rw [hg];exact (below_size (by repeat (first|(with_reducible first|exact HB.out|apply xa|apply xb|apply xc|refine below_set ?_ GE150.out)|exact HB.out))) : w.heap.size ≤ gb152));have n5_ := Aside0.mk ((by rw [hg];exact Nat.ne_of_lt (blk_lt (g := gb150) (o := .cells #[.int .i64 ((rd_T36 l0 x15_1).f0), .int .i64 ((rd_T36 l0 x15_1).f1), .int .i64 ((rd_T36 l0 x15_1).f2), .int .i64 ((rd_T36 l0 x15_1).f3), .int .i64 ((rd_T36 l0 x15_1).f4)] 36 (0, 0)) (by (with_reducible repeat (first|apply blk_drewN|apply blk_drew|apply blk_alloc));exact BK150.out)) : gb150 ≠ gb152));have n6_ := Aside0.mk ((by rw [hg];exact Nat.ne_of_gt (blk_lt (g := gb150) (o := .cells #[.int .i64 ((rd_T36 l0 x15_1).f0), .int .i64 ((rd_T36 l0 x15_1).f1), .int .i64 ((rd_T36 l0 x15_1).f2), .int .i64 ((rd_T36 l0 x15_1).f3), .int .i64 ((rd_T36 l0 x15_1).f4)] 36 (0, 0)) (by (with_reducible repeat (first|apply blk_drewN|apply blk_drew|apply blk_alloc));exact BK150.out)) : gb152 ≠ gb150));clear BK150;clear HB;have BK150 := n0_;have HB := n1_;have BK152 := n2_;have GW152 := n3_;have GE152 := n4_;have NB150_152 := n5_;have NB152_150 := n6_;clear n0_ n1_ n2_ n3_ n4_ n5_ n6_;clear hb hbox hg;have hnb26 := NB152_150.out;have hnc26 := NB150_152.out;have hcz27_0 : w25.cell? ⟨gb152, 0, none⟩ = some (.int .i64 0) := (blk_cell BK152.out 0).trans rfl;have hcz27_1 : w25.cell? ⟨gb152, 1, none⟩ = some (.int .i64 0) := (blk_cell BK152.out 1).trans rfl;have hcz27_2 : w25.cell? ⟨gb152, 2, none⟩ = some (.int .i64 0) := (blk_cell BK152.out 2).trans rfl;have hcz27_3 : w25.cell? ⟨gb152, 3, none⟩ = some (.int .i64 0) := (blk_cell BK152.out 3).trans rfl;have hcz27_4 : w25.cell? ⟨gb152, 4, none⟩ = some (.int .i64 0) := (blk_cell BK152.out 4).trans rfl;have hfz27_0 := blk_frozen BK152.out 0;have hfz27_1 := blk_frozen BK152.out 1;have hfz27_2 := blk_frozen BK152.out 2;have hfz27_3 := blk_frozen BK152.out 3;have hfz27_4 := blk_frozen BK152.out 4))
            (try simp only [px_add0] at *)
            go_roundg k2
            case measure => have := HK1.out;have := HK2.out;omega
            case rel => exact ⟨(x9_2), (wrap64 (x21_2 + 1)), (by first|rfl|(simp;done)|(simp [*];done)), (by first|rfl|(simp;done)|(simp [*];done)), H', ⟨by have := HK1.out;have := HK2.out;omega⟩, ⟨by (with_reducible repeat (first|apply blk_drewN|apply blk_drew|apply blk_alloc));refine blk_far ?_ NB150_152.out _;(with_reducible repeat (first|apply blk_drewN|apply blk_drew|apply blk_alloc));refine blk_far ?_ NB150_152.out _;(with_reducible repeat (first|apply blk_drewN|apply blk_drew|apply blk_alloc));refine blk_far ?_ NB150_152.out _;(with_reducible repeat (first|apply blk_drewN|apply blk_drew|apply blk_alloc));refine blk_far ?_ NB150_152.out _;(with_reducible repeat (first|apply blk_drewN|apply blk_drew|apply blk_alloc));refine blk_far ?_ NB150_152.out _;(with_reducible repeat (first|apply blk_drewN|apply blk_drew|apply blk_alloc));exact BK150.out⟩, ⟨by repeat (first|(with_reducible first|exact HB.out|apply xa|apply xb|apply xc|refine below_set ?_ GE150.out|refine below_set ?_ GE152.out)|exact HB.out)⟩⟩
          ·rw [if_neg c10] at H
           exact absurd H (by simp)
         ·rw [if_neg c9] at H
          exact absurd H (by simp)
        ·rw [if_neg c8] at H
         have c8b0 : decide (x21_2 < (l0.length : Int)) = false := decide_eq_false c8
         clear c8
         by_cases c28 : x9_2 > x6_1
         ·rw [if_pos c28] at H
          have c28b0 : decide (x6_1 < x9_2) = true := decide_eq_true c28
          clear c28
          have H' := Aside0.mk H
          clear H
          have hcz29_0 : wr.cell? ⟨gb150, 0, none⟩ = some (.int .i64 ((rd_T36 l0 x15_1).f0)) := (blk_cell BK150.out 0).trans rfl
          have hcz29_1 : wr.cell? ⟨gb150, 1, none⟩ = some (.int .i64 ((rd_T36 l0 x15_1).f1)) := (blk_cell BK150.out 1).trans rfl
          have hcz29_2 : wr.cell? ⟨gb150, 2, none⟩ = some (.int .i64 ((rd_T36 l0 x15_1).f2)) := (blk_cell BK150.out 2).trans rfl
          have hcz29_3 : wr.cell? ⟨gb150, 3, none⟩ = some (.int .i64 ((rd_T36 l0 x15_1).f3)) := (blk_cell BK150.out 3).trans rfl
          have hcz29_4 : wr.cell? ⟨gb150, 4, none⟩ = some (.int .i64 ((rd_T36 l0 x15_1).f4)) := (blk_cell BK150.out 4).trans rfl
          have hfz29_0 := blk_frozen BK150.out 0
          have hfz29_1 := blk_frozen BK150.out 1
          have hfz29_2 := blk_frozen BK150.out 2
          have hfz29_3 := blk_frozen BK150.out 3
          have hfz29_4 := blk_frozen BK150.out 4
          go_wp2
          (try simp only [px_add0] at *)
          go_roundg k2
          case measure => have := HK1.out;have := HK2.out;omega
          case rel => exact ⟨(((rd_T36 l0 x15_1).f1)), (x9_2), (wrap64 (x15_1 + 1)), (by first|rfl|(simp;done)|(simp [*];done)), (by first|rfl|(simp;done)|(simp [*];done)), (by first|rfl|(simp;done)|(simp [*];done)), H', ⟨by have := HK1.out;have := HK2.out;omega⟩, ⟨by repeat (first|(with_reducible first|exact HB.out|apply xa|apply xb|apply xc|refine below_set ?_ GE150.out)|exact HB.out)⟩⟩
         ·rw [if_neg c28] at H
          have c28b0 : decide (x6_1 < x9_2) = false := decide_eq_false c28
          clear c28
          by_cases c30 : x9_2 = x6_1
          ·rw [if_pos c30] at H
           have c30b0 : (x9_2 == x6_1) = true := beq_iff_eq.mpr c30
           have c30b1 : (x9_2 != x6_1) = false := bne_eq_false_iff_eq.mpr c30
           clear c30
           by_cases c31 : x9_2 > 0
           ·rw [if_pos c31] at H
            have c31b0 : decide (0 < x9_2) = true := decide_eq_true c31
            clear c31
            by_cases c32 : ((rd_T36 l0 x15_1).f1) < x5_1
            ·rw [if_pos c32] at H
             have c32b0 : decide (((rd_T36 l0 x15_1).f1) < x5_1) = true := decide_eq_true c32
             clear c32
             have H' := Aside0.mk H
             clear H
             have hcz33_0 : wr.cell? ⟨gb150, 0, none⟩ = some (.int .i64 ((rd_T36 l0 x15_1).f0)) := (blk_cell BK150.out 0).trans rfl
             have hcz33_1 : wr.cell? ⟨gb150, 1, none⟩ = some (.int .i64 ((rd_T36 l0 x15_1).f1)) := (blk_cell BK150.out 1).trans rfl
             have hcz33_2 : wr.cell? ⟨gb150, 2, none⟩ = some (.int .i64 ((rd_T36 l0 x15_1).f2)) := (blk_cell BK150.out 2).trans rfl
             have hcz33_3 : wr.cell? ⟨gb150, 3, none⟩ = some (.int .i64 ((rd_T36 l0 x15_1).f3)) := (blk_cell BK150.out 3).trans rfl
             have hcz33_4 : wr.cell? ⟨gb150, 4, none⟩ = some (.int .i64 ((rd_T36 l0 x15_1).f4)) := (blk_cell BK150.out 4).trans rfl
             have hfz33_0 := blk_frozen BK150.out 0
             have hfz33_1 := blk_frozen BK150.out 1
             have hfz33_2 := blk_frozen BK150.out 2
             have hfz33_3 := blk_frozen BK150.out 3
             have hfz33_4 := blk_frozen BK150.out 4
             go_wp2
             (try simp only [px_add0] at *)
             go_roundg k2
             case measure => have := HK1.out;have := HK2.out;omega
             case rel => exact ⟨(((rd_T36 l0 x15_1).f1)), (x9_2), (wrap64 (x15_1 + 1)), (by first|rfl|(simp;done)|(simp [*];done)), (by first|rfl|(simp;done)|(simp [*];done)), (by first|rfl|(simp;done)|(simp [*];done)), H', ⟨by have := HK1.out;have := HK2.out;omega⟩, ⟨by repeat (first|(with_reducible first|exact HB.out|apply xa|apply xb|apply xc|refine below_set ?_ GE150.out)|exact HB.out)⟩⟩
            ·rw [if_neg c32] at H
             have c32b0 : decide (((rd_T36 l0 x15_1).f1) < x5_1) = false := decide_eq_false c32
             clear c32
             have H' := Aside0.mk H
             clear H
             have hcz34_0 : wr.cell? ⟨gb150, 0, none⟩ = some (.int .i64 ((rd_T36 l0 x15_1).f0)) := (blk_cell BK150.out 0).trans rfl
             have hcz34_1 : wr.cell? ⟨gb150, 1, none⟩ = some (.int .i64 ((rd_T36 l0 x15_1).f1)) := (blk_cell BK150.out 1).trans rfl
             have hcz34_2 : wr.cell? ⟨gb150, 2, none⟩ = some (.int .i64 ((rd_T36 l0 x15_1).f2)) := (blk_cell BK150.out 2).trans rfl
             have hcz34_3 : wr.cell? ⟨gb150, 3, none⟩ = some (.int .i64 ((rd_T36 l0 x15_1).f3)) := (blk_cell BK150.out 3).trans rfl
             have hcz34_4 : wr.cell? ⟨gb150, 4, none⟩ = some (.int .i64 ((rd_T36 l0 x15_1).f4)) := (blk_cell BK150.out 4).trans rfl
             have hfz34_0 := blk_frozen BK150.out 0
             have hfz34_1 := blk_frozen BK150.out 1
             have hfz34_2 := blk_frozen BK150.out 2
             have hfz34_3 := blk_frozen BK150.out 3
             have hfz34_4 := blk_frozen BK150.out 4
             go_wp2
             (try simp only [px_add0] at *)
             go_roundg k2
             case measure => have := HK1.out;have := HK2.out;omega
             case rel => exact ⟨(x5_1), (x6_1), (wrap64 (x15_1 + 1)), (by first|rfl|(simp;done)|(simp [*];done)), (by first|rfl|(simp;done)|(simp [*];done)), (by first|rfl|(simp;done)|(simp [*];done)), H', ⟨by have := HK1.out;have := HK2.out;omega⟩, ⟨by repeat (first|(with_reducible first|exact HB.out|apply xa|apply xb|apply xc|refine below_set ?_ GE150.out)|exact HB.out)⟩⟩
           ·rw [if_neg c31] at H
            have c31b0 : decide (0 < x9_2) = false := decide_eq_false c31
            clear c31
            have H' := Aside0.mk H
            clear H
            go_wp2
            (try simp only [px_add0] at *)
            go_roundg k2
            case measure => have := HK1.out;have := HK2.out;omega
            case rel => exact ⟨(x5_1), (x6_1), (wrap64 (x15_1 + 1)), (by first|rfl|(simp;done)|(simp [*];done)), (by first|rfl|(simp;done)|(simp [*];done)), (by first|rfl|(simp;done)|(simp [*];done)), H', ⟨by have := HK1.out;have := HK2.out;omega⟩, ⟨by repeat (first|(with_reducible first|exact HB.out|apply xa|apply xb|apply xc|refine below_set ?_ GE150.out)|exact HB.out)⟩⟩
          ·rw [if_neg c30] at H
           have c30b0 : (x9_2 == x6_1) = false := beq_eq_false_iff_ne.mpr c30
           have c30b1 : (x9_2 != x6_1) = true := bne_iff_ne.mpr c30
           have H' := Aside0.mk H
           clear H
           go_wp2
           (try simp only [px_add0] at *)
           go_roundg k2
           case measure => have := HK1.out;have := HK2.out;omega
           case rel => exact ⟨(x5_1), (x6_1), (wrap64 (x15_1 + 1)), (by first|rfl|(simp;done)|(simp [*];done)), (by first|rfl|(simp;done)|(simp [*];done)), (by first|rfl|(simp;done)|(simp [*];done)), H', ⟨by have := HK1.out;have := HK2.out;omega⟩, ⟨by repeat (first|(with_reducible first|exact HB.out|apply xa|apply xb|apply xc|refine below_set ?_ GE150.out)|exact HB.out)⟩⟩
     ·rw [if_neg c5] at H
      exact absurd H (by simp)
    ·rw [if_neg c4] at H
     exact absurd H (by simp)
   ·rw [if_neg c3] at H
    have c3b0 : decide (x15_1 < (l0.length : Int)) = false := decide_eq_false c3
    clear c3
    by_cases c35 : x6_1 = 0
    ·rw [if_pos c35] at H
     have c35b0 : (x6_1 == 0) = true := beq_iff_eq.mpr c35
     have c35b1 : (x6_1 != 0) = false := bne_eq_false_iff_eq.mpr c35
     clear c35
     obtain rfl := Option.some.inj H
     go_wp2
     go_ret
     exact ⟨by first|rfl|(simp [errW_none, errW_some] <;> rfl)|(simp [*, errW_none, errW_some] <;> rfl), by repeat (with_reducible first|exact HB.out|apply xa|apply xb|apply xc)⟩
    ·rw [if_neg c35] at H
     have c35b0 : (x6_1 == 0) = false := beq_eq_false_iff_ne.mpr c35
     have c35b1 : (x6_1 != 0) = true := bne_iff_ne.mpr c35
     replace H := Option.bind_eq_some_iff.mp H
     obtain ⟨t148, A360, H⟩ := H
     replace H : (if 0 ≤ (wrap64 ((t148.size : Int) - 1)) then (if (wrap64 ((t148.size : Int) - 1)) ≤ (t148.size : Int) then (some (t148.extract ((wrap64 ((t148.size : Int) - 1)) : Int).toNat t148.size)) else (none)) else (none)) = some r := H
     have A36 := Aside0.mk A360
     clear A360
     obtain ⟨ji37, hji37⟩ : ∃ j_ : Int, (wrap64 ((t148.size : Int) - 1)) = j_ := ⟨_, rfl⟩
     replace H : (if 0 ≤ (ji37) then (if (ji37) ≤ (t148.size : Int) then (some (t148.extract ((ji37) : Int).toNat t148.size)) else (none)) else (none)) = some r := by first|(rw [hji37] at H;exact H)|(simp only [hji37] at H ⊢;exact H)
     (try rw [hji37] at A36)
     have hji37w : (IntKind.i64.wrap ((t148.size : Int) - 1)) = ji37 := (i64_w _).trans hji37
     by_cases c38 : 0 ≤ (ji37)
     ·rw [if_pos c38] at H
      have c38b0 := eq_true c38
      have c38b1 : decide (0 ≤ (ji37)) = true := decide_eq_true c38
      clear c38
      by_cases c39 : (ji37) ≤ (t148.size : Int)
      ·rw [if_pos c39] at H
       have c39b0 := eq_true c39
       have c39b1 : decide ((ji37) ≤ (t148.size : Int)) = true := decide_eq_true c39
       clear c39
       obtain rfl := Option.some.inj H
       go_wp2_with (first|((with_reducible refine gate_callee (f := 53) rfl ?_);refine goesL_ (some 69) rfl rfl Try.func53 (by kernel_rfl) rfl #[.int .i64 x5_1] rfl (by (try simp only [List.map_toArray, List.map_cons, List.map_nil]);first|done|rfl|(simp only [List.length_drop, List.length_take];rfl)) ?_;(with_reducible refine (pinfoldref09_Dec.calls k1 x5_1 t148 _ A36.out).mono ?_);rintro e w40 ⟨rfl, hb⟩;refine ⟨_, rfl, ?_⟩;have n0_ := Aside0.mk (below_step (by repeat (with_reducible first|exact HB.out|apply xa|apply xb|apply xc)) hb);clear HB;have HB := n0_;clear n0_;(try clear hb);(try clear hb2);(try clear hk);(try clear hi)))
       go_ret
       exact ⟨by first|rfl|(simp [errW_none, errW_some] <;> rfl)|(simp only [← hji37];first|rfl|(simp [errW_none, errW_some] <;> rfl))|(simp [*, errW_none, errW_some] <;> rfl), by repeat (with_reducible first|exact HB.out|apply xa|apply xb|apply xc)⟩
      ·rw [if_neg c39] at H
       exact absurd H (by simp)
     ·rw [if_neg c38] at H
      exact absurd H (by simp)

/-! ### pinfoldref30_Line: function 19 -/
mutual
def pinfoldref30_Line.j0 : Nat → List (S36) → Int → Int → Option (ByteArray)
 | 0, _, _, _ => none
 | k + 1, x0, x1, x2 => if x2 > 200 then (pinfoldref30_Line.j1 k x0 x1 200) else (pinfoldref30_Line.j1 k x0 x1 x2)
def pinfoldref30_Line.j1 : Nat → List (S36) → Int → Int → Option (ByteArray)
 | 0, _, _, _ => none
 | k + 1, x0, x1, x2 => (pinfoldref09_Dec.f k x1).bind fun t153 => (if t153.size + 1 ≤ 9223372036854775807 then (pinfoldref30_Line.l0 k x0 x1 x2 (t153 ++ (⟨#[32]⟩ : ByteArray)) 0) else (none))
def pinfoldref30_Line.l0 : Nat → List (S36) → Int → Int → ByteArray → Int → Option (ByteArray)
 | 0, _, _, _, _, _ => none
 | k + 1, x0, x1, x2, x7, x8 => if x8 < x2 then (if x2 = 0 then (none) else (if 0 ≤ (wrap64 (Int.tdiv (wrap64 (x8 * (x0.length : Int))) x2)) then (if (wrap64 (Int.tdiv (wrap64 (x8 * (x0.length : Int))) x2)) ≤ (wrap64 (Int.tdiv (wrap64 ((wrap64 (x8 + 1)) * (x0.length : Int))) x2)) then (if (wrap64 (Int.tdiv (wrap64 ((wrap64 (x8 + 1)) * (x0.length : Int))) x2)) ≤ (x0.length : Int) then ((pinfoldref30_Sign.f k ((x0.take ((wrap64 (Int.tdiv (wrap64 ((wrap64 (x8 + 1)) * (x0.length : Int))) x2)) : Int).toNat).drop ((wrap64 (Int.tdiv (wrap64 (x8 * (x0.length : Int))) x2)) : Int).toNat) x1).bind fun t158 => (if x7.size + t158.size ≤ 9223372036854775807 then (pinfoldref30_Line.l0 k x0 x1 x2 (x7 ++ t158) (wrap64 (x8 + 1))) else (none))) else (none)) else (none)) else (none))) else (some x7)
end
def pinfoldref30_Line.f (k : Nat) (l0 : List (S36)) (a1 : Int) (a2 : Int) : Option (ByteArray) := if a2 < 1 then (pinfoldref30_Line.j0 k l0 a1 1) else (pinfoldref30_Line.j0 k l0 a1 a2)
theorem pinfoldref30_Line.mono_l : ∀ k, (∀ y0 y1 y2, LeO (pinfoldref30_Line.j0 k y0 y1 y2) (pinfoldref30_Line.j0 (k + 1) y0 y1 y2)) ∧ (∀ y0 y1 y2, LeO (pinfoldref30_Line.j1 k y0 y1 y2) (pinfoldref30_Line.j1 (k + 1) y0 y1 y2)) ∧ (∀ y0 y1 y2 y3 y4, LeO (pinfoldref30_Line.l0 k y0 y1 y2 y3 y4) (pinfoldref30_Line.l0 (k + 1) y0 y1 y2 y3 y4))
 | 0 => ⟨fun _ _ _ r h => by simp [pinfoldref30_Line.j0] at h, fun _ _ _ r h => by simp [pinfoldref30_Line.j1] at h, fun _ _ _ _ _ r h => by simp [pinfoldref30_Line.l0] at h⟩
 | k + 1 => by
  obtain ⟨ih0, ih1, ih2⟩ := pinfoldref30_Line.mono_l k
  refine ⟨?_, ?_, ?_⟩
  ·intro y0 y1 y2
   unfold pinfoldref30_Line.j0
   repeat' first
   | (with_reducible exact ih0 _ _ _)
   | (with_reducible exact ih1 _ _ _)
   | (with_reducible exact ih2 _ _ _ _ _)
   | (with_reducible exact pinfoldref09_Dec.mono _ _)
   | (with_reducible exact pinfoldref30_Sign.mono _ _ _)
   | (with_reducible exact LeO.refl _)
   | (with_reducible exact LeO.none _)
   | (with_reducible refine LeO.ite ?_ ?_)
   | (with_reducible refine LeO.bind ?_ (fun _ => ?_))
   | exact ih0 _ _ _
   | exact ih1 _ _ _
   | exact ih2 _ _ _ _ _
   | exact pinfoldref09_Dec.mono _ _
   | exact pinfoldref30_Sign.mono _ _ _
   | exact LeO.none _
   | refine LeO.ite ?_ ?_
   | refine LeO.bind ?_ (fun _ => ?_)
  ·intro y0 y1 y2
   unfold pinfoldref30_Line.j1
   repeat' first
   | (with_reducible exact ih0 _ _ _)
   | (with_reducible exact ih1 _ _ _)
   | (with_reducible exact ih2 _ _ _ _ _)
   | (with_reducible exact pinfoldref09_Dec.mono _ _)
   | (with_reducible exact pinfoldref30_Sign.mono _ _ _)
   | (with_reducible exact LeO.refl _)
   | (with_reducible exact LeO.none _)
   | (with_reducible refine LeO.ite ?_ ?_)
   | (with_reducible refine LeO.bind ?_ (fun _ => ?_))
   | exact ih0 _ _ _
   | exact ih1 _ _ _
   | exact ih2 _ _ _ _ _
   | exact pinfoldref09_Dec.mono _ _
   | exact pinfoldref30_Sign.mono _ _ _
   | exact LeO.none _
   | refine LeO.ite ?_ ?_
   | refine LeO.bind ?_ (fun _ => ?_)
  ·intro y0 y1 y2 y3 y4
   unfold pinfoldref30_Line.l0
   repeat' first
   | (with_reducible exact ih0 _ _ _)
   | (with_reducible exact ih1 _ _ _)
   | (with_reducible exact ih2 _ _ _ _ _)
   | (with_reducible exact pinfoldref09_Dec.mono _ _)
   | (with_reducible exact pinfoldref30_Sign.mono _ _ _)
   | (with_reducible exact LeO.refl _)
   | (with_reducible exact LeO.none _)
   | (with_reducible refine LeO.ite ?_ ?_)
   | (with_reducible refine LeO.bind ?_ (fun _ => ?_))
   | exact ih0 _ _ _
   | exact ih1 _ _ _
   | exact ih2 _ _ _ _ _
   | exact pinfoldref09_Dec.mono _ _
   | exact pinfoldref30_Sign.mono _ _ _
   | exact LeO.none _
   | refine LeO.ite ?_ ?_
   | refine LeO.bind ?_ (fun _ => ?_)
theorem pinfoldref30_Line.mono : ∀ a0 a1 a2 k, LeO (pinfoldref30_Line.f k a0 a1 a2) (pinfoldref30_Line.f (k + 1) a0 a1 a2) := by
 intro a0 a1 a2 k
 obtain ⟨ih0, ih1, ih2⟩ := pinfoldref30_Line.mono_l k
 unfold pinfoldref30_Line.f
 repeat' first
   | (with_reducible exact ih0 _ _ _)
   | (with_reducible exact ih1 _ _ _)
   | (with_reducible exact ih2 _ _ _ _ _)
   | (with_reducible exact pinfoldref09_Dec.mono _ _)
   | (with_reducible exact pinfoldref30_Sign.mono _ _ _)
   | (with_reducible exact LeO.refl _)
   | (with_reducible exact LeO.none _)
   | (with_reducible refine LeO.ite ?_ ?_)
   | (with_reducible refine LeO.bind ?_ (fun _ => ?_))
   | exact ih0 _ _ _
   | exact ih1 _ _ _
   | exact ih2 _ _ _ _ _
   | exact pinfoldref09_Dec.mono _ _
   | exact pinfoldref30_Sign.mono _ _ _
   | exact LeO.none _
   | refine LeO.ite ?_ ?_
   | refine LeO.bind ?_ (fun _ => ?_)
def pinfoldref30_Line.T9 : Bool × List (List Nat × List Nat) := (true, [([], []), ([], []), ([], []), ([], []), ([3], [3]), ([2, 4], [2, 4]), ([], []), ([5, 6], [5, 6]), ([], []), ([8], [8]), ([], []), ([10], [10]), ([9, 11], [9, 11]), ([], []), ([12, 13], [12, 13]), ([1, 7, 14], [1, 7, 14]), ([], []), ([15, 16], [15, 16]), ([0, 17], [0, 17]), ([18, 17, 0, 1, 2, 3, 4, 5, 6, 7, 8, 9, 10, 11, 12, 13, 14, 15, 16, 17, 18], [0, 18])])
def pinfoldref30_Line.B9 : List Nat := [0, 0, 0, 0, 8, 28, 0, 124, 0, 256, 0, 1024, 3840, 0, 16128, 32766, 0, 131070, 262143, 524287]
theorem pinfoldref30_Line.tab9 : rtab .any (opsOf Try.f19 9) = pinfoldref30_Line.T9 := by kernel_rfl
theorem pinfoldref30_Line.bits9 : waitsOk pinfoldref30_Line.T9.2 pinfoldref30_Line.B9 = true := by kernel_rfl
set_option maxHeartbeats 8000000 in
set_option maxRecDepth 100000 in
theorem pinfoldref30_Line.calls (k : Nat) (A0 : Option Addr) (c0 : Nat) (l0 : List (S36)) (a1 : Int) (a2 : Int) (r : ByteArray) (w : World) (hr0 : Kd.C k36 w A0 l0.length l0) (hc0 : l0.length ≤ c0) (h : pinfoldref30_Line.f k l0 a1 a2 = some r) :
  Calls Try.prog 19 #[.slice A0 l0.length c0, .int .i64 a1, .int .i64 a2] w fun e w' => e = .returned (.string r) ∧ Below w.heap.size w w' := by
 have HR0 := Aside0.mk hr0
 have HC0 := Aside0.mk hc0
 clear hr0 hc0
 have HB := Aside0.mk (Below.refl w.heap.size w)
 have H : (if a2 < 1 then (pinfoldref30_Line.j0 k l0 a1 1) else (pinfoldref30_Line.j0 k l0 a1 a2)) = some r := h
 clear h
 have HC4 := Aside0.mk H
 clear H
 go_enter Try.func19, Try.ntmps19
 go_upto_if 10 with (fail)
 go_cut [2] (fun v2 wc => ∃ (kq : Nat) (x2_3 : Int), v2 = .int .i64 x2_3 ∧ Aside0 (pinfoldref30_Line.j0 kq l0 a1 x2_3 = some r) ∧ Aside0 (kq ≤ k) ∧ Aside0 (Below w.heap.size w wc))
 case first =>
  have H := HC4.out
  clear HC4
  by_cases c5 : a2 < 1
  ·rw [if_pos c5] at H
   have c5b0 : decide (a2 < 1) = true := decide_eq_true c5
   clear c5
   (first|rw [c5b0]|(simp only [i64_w, i32_w];rw [c5b0])|skip)
   have H' := Aside0.mk H
   clear H
   go_wp2
   go_meet
   case rel => exact ⟨_, (1), (by first|rfl|(simp;done)|(simp [*];done)), H', ⟨by first|omega|exact Nat.le_refl _⟩, ⟨by repeat (with_reducible first|exact HB.out|apply xa|apply xb|apply xc)⟩⟩
  ·rw [if_neg c5] at H
   have c5b0 : decide (a2 < 1) = false := decide_eq_false c5
   clear c5
   (first|rw [c5b0]|(simp only [i64_w, i32_w];rw [c5b0])|skip)
   have H' := Aside0.mk H
   clear H
   go_wp2
   go_meet
   case rel => exact ⟨_, (a2), (by first|rfl|(simp;done)|(simp [*];done)), H', ⟨by first|omega|exact Nat.le_refl _⟩, ⟨by repeat (with_reducible first|exact HB.out|apply xa|apply xb|apply xc)⟩⟩
 case rest =>
  clear HC4
  try clear c1
  try clear p2
  try clear c5
  try clear c5b0
  obtain ⟨kq, x2_3, rfl, HA, HJ3, HB⟩ := hcut
  cases kq with
  | zero => exact absurd HA.out (by simp [pinfoldref30_Line.j0])
  | succ kj3 =>
   have H := HA.out
   clear HA
   simp only [pinfoldref30_Line.j0] at H
   have HC6 := Aside0.mk H
   clear H
   go_upto_if 12 with (fail)
   go_cut [2] (fun v2 wc => ∃ (kq : Nat) (x2_5 : Int), v2 = .int .i64 x2_5 ∧ Aside0 (pinfoldref30_Line.j1 kq l0 a1 x2_5 = some r) ∧ Aside0 (kq ≤ kj3) ∧ Aside0 (Below w.heap.size w wc))
   case first =>
    have H := HC6.out
    clear HC6
    by_cases c7 : x2_3 > 200
    ·rw [if_pos c7] at H
     have c7b0 : decide (200 < x2_3) = true := decide_eq_true c7
     clear c7
     (first|rw [c7b0]|(simp only [i64_w, i32_w];rw [c7b0])|skip)
     have H' := Aside0.mk H
     clear H
     go_wp2
     go_meet
     case rel => exact ⟨_, (200), (by first|rfl|(simp;done)|(simp [*];done)), H', ⟨by have := HJ3.out;first|omega|exact Nat.le_refl _⟩, ⟨by repeat (with_reducible first|exact HB.out|apply xa|apply xb|apply xc)⟩⟩
    ·rw [if_neg c7] at H
     have c7b0 : decide (200 < x2_3) = false := decide_eq_false c7
     clear c7
     (first|rw [c7b0]|(simp only [i64_w, i32_w];rw [c7b0])|skip)
     have H' := Aside0.mk H
     clear H
     go_wp2
     go_meet
     case rel => exact ⟨_, (x2_3), (by first|rfl|(simp;done)|(simp [*];done)), H', ⟨by have := HJ3.out;first|omega|exact Nat.le_refl _⟩, ⟨by repeat (with_reducible first|exact HB.out|apply xa|apply xb|apply xc)⟩⟩
   case rest =>
    clear HC6
    try clear c1
    try clear p2
    try clear c5
    try clear c5b0
    try clear c7
    try clear c7b0
    try clear p2
    obtain ⟨kq, x2_5, rfl, HA, HJ5, HB⟩ := hcut
    cases kq with
    | zero => exact absurd HA.out (by simp [pinfoldref30_Line.j1])
    | succ kj5 =>
     have H := HA.out
     clear HA
     simp only [pinfoldref30_Line.j1] at H
     replace H := Option.bind_eq_some_iff.mp H
     obtain ⟨t153, A80, H⟩ := H
     replace H : (if t153.size + 1 ≤ 9223372036854775807 then (pinfoldref30_Line.l0 kj5 l0 a1 x2_5 (t153 ++ (⟨#[32]⟩ : ByteArray)) 0) else (none)) = some r := H
     have A8 := Aside0.mk A80
     clear A80
     by_cases c9 : t153.size + 1 ≤ 9223372036854775807
     ·rw [if_pos c9] at H
      have c9b0 := eq_true c9
      have c9b1 : decide (t153.size + 1 ≤ 9223372036854775807) = true := decide_eq_true c9
      try have c9b2 : (9223372036854775807 < t153.size + 1) = False := eq_false (Nat.not_lt.2 c9)
      have H' := Aside0.mk H
      clear H
      go_wp2_with (first|((with_reducible refine gate_callee (f := 53) rfl ?_);refine goesL_ (some 14) rfl rfl Try.func53 (by kernel_rfl) rfl #[.int .i64 a1] rfl (by (try simp only [List.map_toArray, List.map_cons, List.map_nil]);first|done|rfl|(simp only [List.length_drop, List.length_take];rfl)) ?_;(with_reducible refine (pinfoldref09_Dec.calls kj5 a1 t153 _ A8.out).mono ?_);rintro e w10 ⟨rfl, hb⟩;refine ⟨_, rfl, ?_⟩;have n0_ := Aside0.mk (below_step (by repeat (with_reducible first|exact HB.out|apply xa|apply xb|apply xc)) hb);clear HB;have HB := n0_;clear n0_;(try clear hb);(try clear hb2);(try clear hk);(try clear hi)))
      go_loopg [7, 8] kj5 (fun kq v7 v8 w' => ∃ (x7_3 : ByteArray) (x8_3 : Int), v7 = .string x7_3 ∧ v8 = .int .i64 x8_3 ∧ Aside0 (pinfoldref30_Line.l0 kq l0 a1 x2_5 x7_3 x8_3 = some r) ∧ Aside0 (kq ≤ kj5) ∧ Aside0 (Below w.heap.size w w'))
      case atStart => exact ⟨(t153 ++ (⟨#[32]⟩ : ByteArray)), (0), (by first|rfl|(simp;done)|(simp [*];done)), (by first|rfl|(simp;done)|(simp [*];done)), H', ⟨Nat.le_refl _⟩, ⟨by repeat (with_reducible first|exact HB.out|apply xa|apply xb|apply xc)⟩⟩
      case round =>
       clear H'
       try clear c1
       try clear p2
       try clear c5
       try clear c5b0
       try clear c7
       try clear c7b0
       try clear c9
       try clear c9b0
       try clear c9b1
       try clear c9b2
       try clear p2
       obtain ⟨x7_3, x8_3, rfl, rfl, HA, HK3, HB⟩ := hrel
       cases gk with
       | zero => exact absurd HA.out (by simp [pinfoldref30_Line.l0])
       | succ k3 =>
        have H := HA.out
        clear HA
        simp only [pinfoldref30_Line.l0] at H
        by_cases c11 : x8_3 < x2_5
        ·rw [if_pos c11] at H
         have c11b0 : decide (x8_3 < x2_5) = true := decide_eq_true c11
         clear c11
         by_cases c12 : x2_5 = 0
         ·rw [if_pos c12] at H
          exact absurd H (by simp)
         ·rw [if_neg c12] at H
          have c12b0 : (x2_5 == 0) = false := beq_eq_false_iff_ne.mpr c12
          have c12b1 : (x2_5 != 0) = true := bne_iff_ne.mpr c12
          obtain ⟨ji13, hji13⟩ : ∃ j_ : Int, (wrap64 (Int.tdiv (wrap64 (x8_3 * (l0.length : Int))) x2_5)) = j_ := ⟨_, rfl⟩
          replace H : (if 0 ≤ (ji13) then (if (ji13) ≤ (wrap64 (Int.tdiv (wrap64 ((wrap64 (x8_3 + 1)) * (l0.length : Int))) x2_5)) then (if (wrap64 (Int.tdiv (wrap64 ((wrap64 (x8_3 + 1)) * (l0.length : Int))) x2_5)) ≤ (l0.length : Int) then ((pinfoldref30_Sign.f k3 ((l0.take ((wrap64 (Int.tdiv (wrap64 ((wrap64 (x8_3 + 1)) * (l0.length : Int))) x2_5)) : Int).toNat).drop ((ji13) : Int).toNat) a1).bind fun t158 => (if x7_3.size + t158.size ≤ 9223372036854775807 then (pinfoldref30_Line.l0 k3 l0 a1 x2_5 (x7_3 ++ t158) (wrap64 (x8_3 + 1))) else (none))) else (none)) else (none)) else (none)) = some r := by first|(rw [hji13] at H;exact H)|(simp only [hji13] at H ⊢;exact H)
          have hji13w : (IntKind.i64.wrap (Int.tdiv (wrap64 (x8_3 * (l0.length : Int))) x2_5)) = ji13 := (i64_w _).trans hji13
          by_cases c14 : 0 ≤ (ji13)
          ·rw [if_pos c14] at H
           have c14b0 := eq_true c14
           have c14b1 : decide (0 ≤ (ji13)) = true := decide_eq_true c14
           clear c14
           by_cases c15 : (ji13) ≤ (wrap64 (Int.tdiv (wrap64 ((wrap64 (x8_3 + 1)) * (l0.length : Int))) x2_5))
           ·rw [if_pos c15] at H
            have c15b0 := eq_true c15
            have c15b1 : decide ((ji13) ≤ (wrap64 (Int.tdiv (wrap64 ((wrap64 (x8_3 + 1)) * (l0.length : Int))) x2_5))) = true := decide_eq_true c15
            by_cases c16 : (wrap64 (Int.tdiv (wrap64 ((wrap64 (x8_3 + 1)) * (l0.length : Int))) x2_5)) ≤ (l0.length : Int)
            ·rw [if_pos c16] at H
             have c16b0 := eq_true c16
             have c16b1 : decide ((wrap64 (Int.tdiv (wrap64 ((wrap64 (x8_3 + 1)) * (l0.length : Int))) x2_5)) ≤ (l0.length : Int)) = true := decide_eq_true c16
             obtain ⟨y154, hy154⟩ : ∃ y_ : List (S36), y_ = ((l0.take ((wrap64 (Int.tdiv (wrap64 ((wrap64 (x8_3 + 1)) * (l0.length : Int))) x2_5)) : Int).toNat).drop ((ji13) : Int).toNat) := ⟨_, rfl⟩
             replace H : ((pinfoldref30_Sign.f k3 y154 a1).bind fun t158 => (if x7_3.size + t158.size ≤ 9223372036854775807 then (pinfoldref30_Line.l0 k3 l0 a1 x2_5 (x7_3 ++ t158) (wrap64 (x8_3 + 1))) else (none))) = some r := by first|(rw [hy154];with_reducible exact H)|(have H2_ := (Option.bind_some _ _).symm.trans H;rw [hy154];with_reducible exact H2_)|(have H2_ := (Option.bind_some _ _).symm.trans H;with_reducible exact H2_)|with_reducible exact H|(rw [hy154];exact H)|exact H
             have Ny154 := Aside0.mk hy154
             clear hy154
             replace H := Option.bind_eq_some_iff.mp H
             obtain ⟨t158, A170, H⟩ := H
             replace H : (if x7_3.size + t158.size ≤ 9223372036854775807 then (pinfoldref30_Line.l0 k3 l0 a1 x2_5 (x7_3 ++ t158) (wrap64 (x8_3 + 1))) else (none)) = some r := H
             have A17 := Aside0.mk A170
             clear A170
             by_cases c18 : x7_3.size + t158.size ≤ 9223372036854775807
             ·rw [if_pos c18] at H
              have c18b0 := eq_true c18
              have c18b1 : decide (x7_3.size + t158.size ≤ 9223372036854775807) = true := decide_eq_true c18
              try have c18b2 : (9223372036854775807 < x7_3.size + t158.size) = False := eq_false (Nat.not_lt.2 c18)
              have H' := Aside0.mk H
              clear H
              try go_wp2
              have n0_ := Aside0.mk (below_drew1 HB.out)
              clear HB
              have HB := n0_
              clear n0_
              have q20 : ((wrap64 (Int.tdiv (wrap64 ((wrap64 (x8_3 + 1)) * (l0.length : Int))) x2_5)) : Int) ≤ ((l0.length : Int) : Int) := of_decide_eq_true (by assumption)
              obtain ⟨i020, hi020, _, hsz20, _⟩ := info_parts info36
              have hroom20 : l0.length ≤ c0 := HC0.out
              have hC20 : Kd.C k36 _ A0 l0.length l0 := HR0.out
              have ql20 : ((ji13) : Int) ≤ ((wrap64 (Int.tdiv (wrap64 ((wrap64 (x8_3 + 1)) * (l0.length : Int))) x2_5)) : Int) := of_decide_eq_true (by assumption)
              have q020 : (0 : Int) ≤ ((ji13) : Int) := of_decide_eq_true (by assumption)
              have hcut20 := cut_mid (P := Try.prog) 22 36 .i64 .i64 Try.underlying22 hi020 5 hsz20 A0 l0.length c0 (ji13) (wrap64 (Int.tdiv (wrap64 ((wrap64 (x8_3 + 1)) * (l0.length : Int))) x2_5)) q020 ql20 q20 hroom20
              have hr20 := Kd.C_mid (lo := ((ji13) : Int).toNat) (hi := ((wrap64 (Int.tdiv (wrap64 ((wrap64 (x8_3 + 1)) * (l0.length : Int))) x2_5)) : Int).toNat) (c := c0) hC20 (by omega) (by omega) hroom20
              obtain ⟨A20, hA20⟩ : ∃ A1, A1 = (if c0 = ((ji13) : Int).toNat then A0 else (A0 : Option Addr).map (·.add (((ji13) : Int).toNat * 5))) := ⟨_, rfl⟩
              obtain ⟨c20, hc20⟩ : ∃ c1, c1 = c0 - ((ji13) : Int).toNat := ⟨_, rfl⟩
              have hy20 : y154.length = ((wrap64 (Int.tdiv (wrap64 ((wrap64 (x8_3 + 1)) * (l0.length : Int))) x2_5)) : Int).toNat - ((ji13) : Int).toNat := (by rw [Ny154.out, List.length_drop, List.length_take] <;> omega)
              rw [show ((l0).take ((wrap64 (Int.tdiv (wrap64 ((wrap64 (x8_3 + 1)) * (l0.length : Int))) x2_5)) : Int).toNat).drop ((ji13) : Int).toNat = y154 from Ny154.out.symm] at hr20
              replace hr20 : Kd.C k36 _ A20 y154.length y154 := (by rw [hA20];exact hr20)
              rw [← hy20, ← hA20, ← hc20] at hcut20
              have HR157 := Aside0.mk hr20
              have HC157 := Aside0.mk (show y154.length ≤ c20 from by rw [hy20, hc20];exact Nat.sub_le_sub_right (Nat.le_trans (by omega) hroom20) _)
              clear hr20 hC20 hroom20 hi020 hsz20 hc20
              have KY20 := Aside0.mk hy20
              have KA20 := Aside0.mk hA20
              clear hy20 hA20
              replace q20 := eq_true q20
              refine start_ (n := 20) (S := fun w' => True) (ds := []) #[false, false, false, false, false, false, false, false, false, false, false, false, false, false, false, false, false, false, false, false] (by kernel_rfl) rfl rfl trivial (fun hHeld => ?_);refine with_tabW pinfoldref30_Line.tab9 pinfoldref30_Line.bits9 (fun HT_ HW_ => ?_)
              generalize wr.drew = w19 at HB HR157 hHeld ⊢
              refine pure_ (i := 0) (N := some 21) (v := ?_) (a' := ?_) #[true, false, false, false, false, false, false, false, false, false, false, false, false, false, false, false, false, false, false, false] rfl rfl (any_of HT_.out (by kernel_rfl)) (fun _ _ _ h => h) (Or.inl ⟨by rfl, ?_⟩) ?_ ?_
              rotate_left
              ·intro w'
               go_simp
               with_reducible rfl
              rotate_left
              ·simp only [Act.put, List.setIfInBounds_toArray, List.set_cons_zero, List.set_cons_succ, i64_w, i32_w]
               rfl
              refine pure_ (i := 1) (N := some 22) (v := ?_) (a' := ?_) #[true, true, false, false, false, false, false, false, false, false, false, false, false, false, false, false, false, false, false, false] rfl rfl (any_of HT_.out (by kernel_rfl)) (fun _ _ _ h => h) (Or.inl ⟨by rfl, ?_⟩) ?_ ?_
              rotate_left
              ·intro w'
               go_simp
               with_reducible rfl
              rotate_left
              ·simp only [Act.put, List.setIfInBounds_toArray, List.set_cons_zero, List.set_cons_succ, i64_w, i32_w]
               rfl
              refine pure_ (i := 2) (N := some 23) (v := ?_) (a' := ?_) #[true, true, true, false, false, false, false, false, false, false, false, false, false, false, false, false, false, false, false, false] rfl rfl (any_of HT_.out (by kernel_rfl)) (fun _ _ _ h => h) (Or.inl ⟨by rfl, ?_⟩) ?_ ?_
              rotate_left
              ·intro w'
               go_simp
               with_reducible rfl
              rotate_left
              ·simp only [Act.put, List.setIfInBounds_toArray, List.set_cons_zero, List.set_cons_succ, i64_w, i32_w]
               rfl
              refine pure_ (i := 3) (N := some 24) (v := ?_) (a' := ?_) #[true, true, true, true, false, false, false, false, false, false, false, false, false, false, false, false, false, false, false, false] rfl rfl (any_of HT_.out (by kernel_rfl)) (fun _ _ _ h => h) (Or.inl ⟨by rfl, ?_⟩) ?_ ?_
              rotate_left
              ·intro w'
               go_simp
               with_reducible rfl
              rotate_left
              ·simp only [Act.put, List.setIfInBounds_toArray, List.set_cons_zero, List.set_cons_succ, i64_w, i32_w]
               rfl
              refine pure_ (i := 4) (N := some 25) (v := ?_) (a' := ?_) #[true, true, true, true, true, false, false, false, false, false, false, false, false, false, false, false, false, false, false, false] rfl rfl (any_of HT_.out (by kernel_rfl)) (fun _ _ _ h => h) (Or.inl ⟨by rfl, ?_⟩) ?_ ?_
              rotate_left
              ·intro w'
               go_simp
               with_reducible rfl
              rotate_left
              ·simp only [Act.put, List.setIfInBounds_toArray, List.set_cons_zero, List.set_cons_succ, i64_w, i32_w]
               rfl
              refine pure_ (i := 5) (N := some 26) (v := ?_) (a' := ?_) #[true, true, true, true, true, true, false, false, false, false, false, false, false, false, false, false, false, false, false, false] rfl rfl (any_of HT_.out (by kernel_rfl)) (fun _ _ _ h => h) (Or.inl ⟨by rfl, ?_⟩) ?_ ?_
              rotate_left
              ·intro w'
               go_simp
               with_reducible rfl
              rotate_left
              ·simp only [Act.put, List.setIfInBounds_toArray, List.set_cons_zero, List.set_cons_succ, i64_w, i32_w]
               rfl
              refine pure_ (i := 6) (N := some 27) (v := ?_) (a' := ?_) #[true, true, true, true, true, true, true, false, false, false, false, false, false, false, false, false, false, false, false, false] rfl rfl (any_of HT_.out (by kernel_rfl)) (fun _ _ _ h => h) (Or.inl ⟨by rfl, ?_⟩) ?_ ?_
              rotate_left
              ·intro w'
               go_simp
               with_reducible rfl
              rotate_left
              ·simp only [Act.put, List.setIfInBounds_toArray, List.set_cons_zero, List.set_cons_succ, i64_w, i32_w]
               rfl
              refine pure_ (i := 7) (N := some 28) (v := ?_) (a' := ?_) #[true, true, true, true, true, true, true, true, false, false, false, false, false, false, false, false, false, false, false, false] rfl rfl (any_of HT_.out (by kernel_rfl)) (fun _ _ _ h => h) (Or.inl ⟨by rfl, ?_⟩) ?_ ?_
              rotate_left
              ·intro w'
               go_simp
               with_reducible rfl
              rotate_left
              ·simp only [Act.put, List.setIfInBounds_toArray, List.set_cons_zero, List.set_cons_succ, i64_w, i32_w]
               rfl
              refine pure_ (i := 8) (N := some 29) (v := ?_) (a' := ?_) #[true, true, true, true, true, true, true, true, true, false, false, false, false, false, false, false, false, false, false, false] rfl rfl (any_of HT_.out (by kernel_rfl)) (fun _ _ _ h => h) (Or.inl ⟨by rfl, ?_⟩) ?_ ?_
              rotate_left
              ·intro w'
               go_simp
               with_reducible rfl
              rotate_left
              ·simp only [Act.put, List.setIfInBounds_toArray, List.set_cons_zero, List.set_cons_succ, i64_w, i32_w]
               rfl
              refine pure_ (i := 9) (N := some 30) (v := ?_) (a' := ?_) #[true, true, true, true, true, true, true, true, true, true, false, false, false, false, false, false, false, false, false, false] rfl rfl (any_of HT_.out (by kernel_rfl)) (fun _ _ _ h => h) (Or.inl ⟨by rfl, ?_⟩) ?_ ?_
              rotate_left
              ·intro w'
               go_simp
               with_reducible rfl
              rotate_left
              ·simp only [Act.put, List.setIfInBounds_toArray, List.set_cons_zero, List.set_cons_succ, i64_w, i32_w]
               rfl
              refine pure_ (i := 10) (N := some 31) (v := ?_) (a' := ?_) #[true, true, true, true, true, true, true, true, true, true, true, false, false, false, false, false, false, false, false, false] rfl rfl (any_of HT_.out (by kernel_rfl)) (fun _ _ _ h => h) (Or.inl ⟨by rfl, ?_⟩) ?_ ?_
              rotate_left
              ·intro w'
               go_simp
               with_reducible rfl
              rotate_left
              ·simp only [Act.put, List.setIfInBounds_toArray, List.set_cons_zero, List.set_cons_succ, i64_w, i32_w]
               rfl
              refine pure_ (i := 11) (N := some 32) (v := ?_) (a' := ?_) #[true, true, true, true, true, true, true, true, true, true, true, true, false, false, false, false, false, false, false, false] rfl rfl (any_of HT_.out (by kernel_rfl)) (fun _ _ _ h => h) (Or.inl ⟨by rfl, ?_⟩) ?_ ?_
              rotate_left
              ·intro w'
               go_simp
               with_reducible rfl
              rotate_left
              ·simp only [Act.put, List.setIfInBounds_toArray, List.set_cons_zero, List.set_cons_succ, i64_w, i32_w]
               rfl
              refine pure_ (i := 12) (N := some 33) (v := ?_) (a' := ?_) #[true, true, true, true, true, true, true, true, true, true, true, true, true, false, false, false, false, false, false, false] rfl rfl (any_of HT_.out (by kernel_rfl)) (fun _ _ _ h => h) (Or.inl ⟨by rfl, ?_⟩) ?_ ?_
              rotate_left
              ·intro w'
               go_simp
               with_reducible rfl
              rotate_left
              ·simp only [Act.put, List.setIfInBounds_toArray, List.set_cons_zero, List.set_cons_succ, i64_w, i32_w]
               rfl
              refine pure_ (i := 13) (N := some 34) (v := ?_) (a' := ?_) #[true, true, true, true, true, true, true, true, true, true, true, true, true, true, false, false, false, false, false, false] rfl rfl (any_of HT_.out (by kernel_rfl)) (fun _ _ _ h => h) (Or.inl ⟨by rfl, ?_⟩) ?_ ?_
              rotate_left
              ·intro w'
               go_simp
               with_reducible rfl
              rotate_left
              ·simp only [Act.put, List.setIfInBounds_toArray, List.set_cons_zero, List.set_cons_succ, i64_w, i32_w]
               rfl
              refine pure_ (i := 14) (N := some 35) (v := ?_) (a' := ?_) #[true, true, true, true, true, true, true, true, true, true, true, true, true, true, true, false, false, false, false, false] rfl rfl (any_of HT_.out (by kernel_rfl)) (fun _ _ _ h => h) (Or.inl ⟨by rfl, ?_⟩) ?_ ?_
              rotate_left
              ·intro w'
               go_simp
               with_reducible rfl
              rotate_left
              ·simp only [Act.put, List.setIfInBounds_toArray, List.set_cons_zero, List.set_cons_succ, i64_w, i32_w]
               rfl
              refine pure_ (i := 15) (N := some 36) (v := ?_) (a' := ?_) #[true, true, true, true, true, true, true, true, true, true, true, true, true, true, true, true, false, false, false, false] rfl rfl (any_of HT_.out (by kernel_rfl)) (fun _ _ _ h => h) (Or.inl ⟨by rfl, ?_⟩) ?_ ?_
              rotate_left
              ·intro w'
               go_simp
               with_reducible rfl
              rotate_left
              ·simp only [Act.put, List.setIfInBounds_toArray, List.set_cons_zero, List.set_cons_succ, i64_w, i32_w]
               rfl
              refine pure_ (i := 16) (N := some 37) (v := ?_) (a' := ?_) #[true, true, true, true, true, true, true, true, true, true, true, true, true, true, true, true, true, false, false, false] rfl rfl (any_of HT_.out (by kernel_rfl)) (fun _ _ _ h => h) (Or.inl ⟨by rfl, ?_⟩) ?_ ?_
              rotate_left
              ·intro w'
               go_simp
               with_reducible rfl
              rotate_left
              ·simp only [Act.put, List.setIfInBounds_toArray, List.set_cons_zero, List.set_cons_succ, i64_w, i32_w]
               rfl
              refine one_ (i := 17) (N := some 38) #[true, true, true, true, true, true, true, true, true, true, true, true, true, true, true, true, true, true, false, false] rfl rfl (one_of HT_.out (by kernel_rfl)) (by decide) (fun K hK => ?_)
              refine goes_ Try.func54 (by kernel_rfl) rfl #[.slice A20 y154.length c20, .int .i64 a1] (by rfl) rfl rfl (by (try simp only [List.map_toArray, List.map_cons, List.map_nil]);first|done|rfl|(simp only [List.length_drop, List.length_take];rfl)) ?_
              with_reducible refine (pinfoldref30_Sign.calls k3 _ _ y154 a1 t158 _ ?side1 ?side2 A17.out).mono ?_
              (case side1 => repeat (first|exact (Kd.C_below HR157.out HB.out)|(with_reducible refine Kd.C_alloc ?_ _)|(with_reducible refine Kd.C_drewN ?_ _)|(with_reducible refine Kd.C_drew ?_)))
              (case side2 => exact HC157.out)
              rintro e w21 ⟨rfl, hb⟩
              refine ⟨_, rfl, ?_⟩
              have n0_ := Aside0.mk (below_step (by repeat (with_reducible first|exact HB.out|apply xa|apply xb|apply xc)) hb)
              clear HB
              have HB := n0_
              clear n0_
              (try clear hb)
              (try clear hb2)
              (try clear hk)
              (try clear hi)
              refine hK.out _ _ trivial (fun hHeld => ?_)
              clear hK K
              refine norm_ (a' := ?_) ?_ ?_
              rotate_left
              ·show Act.put _ (some 38) _ = _
               simp only [Act.put, List.setIfInBounds_toArray, List.set_cons_zero, List.set_cons_succ, i64_w, i32_w]
               rfl
              refine pure_ (i := 18) (N := some 39) (v := ?_) (a' := ?_) #[true, true, true, true, true, true, true, true, true, true, true, true, true, true, true, true, true, true, true, false] rfl rfl (any_of HT_.out (by kernel_rfl)) (fun _ _ _ h => h) (Or.inl ⟨by rfl, ?_⟩) ?_ ?_
              rotate_left
              ·intro w'
               go_simp
               with_reducible rfl
              rotate_left
              ·simp only [Act.put, List.setIfInBounds_toArray, List.set_cons_zero, List.set_cons_succ, i64_w, i32_w]
               rfl
              refine pure_ (i := 19) (N := some 7) (v := ?_) (a' := ?_) #[true, true, true, true, true, true, true, true, true, true, true, true, true, true, true, true, true, true, true, true] rfl rfl (any_of HT_.out (by kernel_rfl)) (fun _ _ _ h => h) (Or.inl ⟨by rfl, ?_⟩) ?_ ?_
              rotate_left
              ·intro w'
               go_simp
               with_reducible rfl
              rotate_left
              ·simp only [Act.put, List.setIfInBounds_toArray, List.set_cons_zero, List.set_cons_succ, i64_w, i32_w]
               rfl
              refine done_ (done_of HT_.out (by kernel_rfl)) ?_
              try go_wp2
              (try simp only [px_add0] at *)
              go_roundg k3
              case measure => have := HJ3.out;have := HJ5.out;have := HK3.out;omega
              case rel => exact ⟨(x7_3 ++ t158), (wrap64 (x8_3 + 1)), (by first|rfl|(simp;done)|(simp [*];done)), (by first|rfl|(simp;done)|(simp [*];done)), H', ⟨by have := HJ3.out;have := HJ5.out;have := HK3.out;omega⟩, ⟨by repeat (with_reducible first|exact HB.out|apply xa|apply xb|apply xc)⟩⟩
             ·rw [if_neg c18] at H
              exact absurd H (by simp)
            ·rw [if_neg c16] at H
             exact absurd H (by simp)
           ·rw [if_neg c15] at H
            exact absurd H (by simp)
          ·rw [if_neg c14] at H
           exact absurd H (by simp)
        ·rw [if_neg c11] at H
         have c11b0 : decide (x8_3 < x2_5) = false := decide_eq_false c11
         clear c11
         obtain rfl := Option.some.inj H
         go_wp2
         go_ret
         exact ⟨by first|rfl|(simp [errW_none, errW_some] <;> rfl)|(simp [*, errW_none, errW_some] <;> rfl), by repeat (with_reducible first|exact HB.out|apply xa|apply xb|apply xc)⟩
     ·rw [if_neg c9] at H
      exact absurd H (by simp)

end Go.Proofs.Ytkegdcnnankokaa.PGan
