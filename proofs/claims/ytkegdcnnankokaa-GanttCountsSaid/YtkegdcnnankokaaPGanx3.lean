/- Functions of the program as Lean functions, and proofs that the code comes to their answers: printed by this session's program. -/
import Derived.Test.YtkegdcnnankokaaPGanx0
namespace Go.Proofs.Ytkegdcnnankokaa.PGan
open Go.RowKit Go.Proofs.YtkegdcnnankokaaW.PrintWords Go.Proofs.YtkegdcnnankokaaW.PrintLast Go.Proofs.YtkegdcnnankokaaW.PrintMore
attribute [local go_sem] max2_int min2_int max_two min_two max_three min_three max_four min_four   -- for this text's walks alone
set_option linter.unusedVariables false
set_option linter.unusedSimpArgs false

/-! ### pinfoldref30_Spans: function 16 -/
mutual
def pinfoldref30_Spans.l0 : Nat → List (S36) → List (S27) → List (S36) → Int → Int → Option ((List (S27)))
 | 0, _, _, _, _, _ => none
 | k + 1, x0, x3, x9, x10, x11 => if x11 < x10 then (if 0 ≤ x11 then (if x11 < (x9.length : Int) then (if ((rd_T36 x9 x11).f0) = 2 then (pinfoldref30_Spans.l1 k x0 x3 (wrap64 (x11 + 1)) x9 x10 x11 ((rd_T36 x9 x11).f0) ((rd_T36 x9 x11).f1) ((rd_T36 x9 x11).f2) ((rd_T36 x9 x11).f3) ((rd_T36 x9 x11).f4) ((rd_T36 x9 x11).f1) ((rd_T36 x9 x11).f2) x11 (x0.length : Int) 0) else (pinfoldref30_Spans.l0 k x0 x3 x9 x10 (wrap64 (x11 + 1)))) else (none)) else (none)) else (some x3)
def pinfoldref30_Spans.l1 : Nat → List (S36) → List (S27) → Int → List (S36) → Int → Int → Int → Int → Int → Int → Int → Int → Int → Int → Int → Int → Option ((List (S27)))
 | 0, _, _, _, _, _, _, _, _, _, _, _, _, _, _, _, _ => none
 | k + 1, x0, x3, x7, x9, x10, x11, x106000, x106001, x106002, x106003, x106004, x107000, x107001, x107002, x107003, x107004 => if x7 < (x0.length : Int) then (pinfoldref30_Spans.j2 k x0 x3 x7 x9 x10 x11 (x107003 == (x0.length : Int)) x106000 x106001 x106002 x106003 x106004 x107000 x107001 x107002 x107003 x107004) else (pinfoldref30_Spans.j2 k x0 x3 x7 x9 x10 x11 false x106000 x106001 x106002 x106003 x106004 x107000 x107001 x107002 x107003 x107004)
def pinfoldref30_Spans.j2 : Nat → List (S36) → List (S27) → Int → List (S36) → Int → Int → Bool → Int → Int → Int → Int → Int → Int → Int → Int → Int → Int → Option ((List (S27)))
 | 0, _, _, _, _, _, _, _, _, _, _, _, _, _, _, _, _, _ => none
 | k + 1, x0, x3, x7, x9, x10, x11, x39, x106000, x106001, x106002, x106003, x106004, x107000, x107001, x107002, x107003, x107004 => if x39 = true then (if 0 ≤ x7 then (if x7 < (x0.length : Int) then (if ((rd_T36 x0 x7).f1) = x106001 then (if ((rd_T36 x0 x7).f2) = x106002 then (pinfoldref30_Spans.j3 k x0 x3 x7 x9 x10 x11 (((rd_T36 x0 x7).f0) == 4) x106000 x106001 x106002 x106003 x106004 x107000 x107001 x107002 x107003 x107004 ((rd_T36 x0 x7).f0) ((rd_T36 x0 x7).f1) ((rd_T36 x0 x7).f2) ((rd_T36 x0 x7).f3) ((rd_T36 x0 x7).f4)) else (pinfoldref30_Spans.j3 k x0 x3 x7 x9 x10 x11 false x106000 x106001 x106002 x106003 x106004 x107000 x107001 x107002 x107003 x107004 ((rd_T36 x0 x7).f0) ((rd_T36 x0 x7).f1) ((rd_T36 x0 x7).f2) ((rd_T36 x0 x7).f3) ((rd_T36 x0 x7).f4))) else (pinfoldref30_Spans.j3 k x0 x3 x7 x9 x10 x11 false x106000 x106001 x106002 x106003 x106004 x107000 x107001 x107002 x107003 x107004 ((rd_T36 x0 x7).f0) ((rd_T36 x0 x7).f1) ((rd_T36 x0 x7).f2) ((rd_T36 x0 x7).f3) ((rd_T36 x0 x7).f4))) else (none)) else (none)) else (if x3.length < 3518437208883 then (pinfoldref30_Spans.l0 k x0 (x3 ++ [(⟨x107000, x107001, x107002, x107003, x107004⟩ : S27)]) x9 x10 (wrap64 (x11 + 1))) else (none))
def pinfoldref30_Spans.j3 : Nat → List (S36) → List (S27) → Int → List (S36) → Int → Int → Bool → Int → Int → Int → Int → Int → Int → Int → Int → Int → Int → Int → Int → Int → Int → Int → Option ((List (S27)))
 | 0, _, _, _, _, _, _, _, _, _, _, _, _, _, _, _, _, _, _, _, _, _, _ => none
 | k + 1, x0, x3, x7, x9, x10, x11, x62, x106000, x106001, x106002, x106003, x106004, x107000, x107001, x107002, x107003, x107004, x112000, x112001, x112002, x112003, x112004 => if x62 = true then (if x112001 = x106001 then (if x112002 = x106002 then (if x112000 = 3 then (pinfoldref30_Spans.l1 k x0 x3 (wrap64 (x7 + 1)) x9 x10 x11 x106000 x106001 x106002 x106003 x106004 x107000 x107001 x107002 x7 (wrap64 (x107004 + 1))) else (pinfoldref30_Spans.l1 k x0 x3 (wrap64 (x7 + 1)) x9 x10 x11 x106000 x106001 x106002 x106003 x106004 x107000 x107001 x107002 x7 x107004)) else (pinfoldref30_Spans.l1 k x0 x3 (wrap64 (x7 + 1)) x9 x10 x11 x106000 x106001 x106002 x106003 x106004 x107000 x107001 x107002 x7 x107004)) else (pinfoldref30_Spans.l1 k x0 x3 (wrap64 (x7 + 1)) x9 x10 x11 x106000 x106001 x106002 x106003 x106004 x107000 x107001 x107002 x7 x107004)) else (if x112001 = x106001 then (if x112002 = x106002 then (if x112000 = 3 then (pinfoldref30_Spans.l1 k x0 x3 (wrap64 (x7 + 1)) x9 x10 x11 x106000 x106001 x106002 x106003 x106004 x107000 x107001 x107002 x107003 (wrap64 (x107004 + 1))) else (pinfoldref30_Spans.l1 k x0 x3 (wrap64 (x7 + 1)) x9 x10 x11 x106000 x106001 x106002 x106003 x106004 x107000 x107001 x107002 x107003 x107004)) else (pinfoldref30_Spans.l1 k x0 x3 (wrap64 (x7 + 1)) x9 x10 x11 x106000 x106001 x106002 x106003 x106004 x107000 x107001 x107002 x107003 x107004)) else (pinfoldref30_Spans.l1 k x0 x3 (wrap64 (x7 + 1)) x9 x10 x11 x106000 x106001 x106002 x106003 x106004 x107000 x107001 x107002 x107003 x107004))
end
def pinfoldref30_Spans.f (k : Nat) (l0 : List (S36)) : Option ((List (S27))) := pinfoldref30_Spans.l0 k l0 ([] : List (S27)) l0 (l0.length : Int) 0
theorem pinfoldref30_Spans.mono_l : ∀ k, (∀ y0 y1 y2 y3 y4, LeO (pinfoldref30_Spans.l0 k y0 y1 y2 y3 y4) (pinfoldref30_Spans.l0 (k + 1) y0 y1 y2 y3 y4)) ∧ (∀ y0 y1 y2 y3 y4 y5 y6 y7 y8 y9 y10 y11 y12 y13 y14 y15, LeO (pinfoldref30_Spans.l1 k y0 y1 y2 y3 y4 y5 y6 y7 y8 y9 y10 y11 y12 y13 y14 y15) (pinfoldref30_Spans.l1 (k + 1) y0 y1 y2 y3 y4 y5 y6 y7 y8 y9 y10 y11 y12 y13 y14 y15)) ∧ (∀ y0 y1 y2 y3 y4 y5 y6 y7 y8 y9 y10 y11 y12 y13 y14 y15 y16, LeO (pinfoldref30_Spans.j2 k y0 y1 y2 y3 y4 y5 y6 y7 y8 y9 y10 y11 y12 y13 y14 y15 y16) (pinfoldref30_Spans.j2 (k + 1) y0 y1 y2 y3 y4 y5 y6 y7 y8 y9 y10 y11 y12 y13 y14 y15 y16)) ∧ (∀ y0 y1 y2 y3 y4 y5 y6 y7 y8 y9 y10 y11 y12 y13 y14 y15 y16 y17 y18 y19 y20 y21, LeO (pinfoldref30_Spans.j3 k y0 y1 y2 y3 y4 y5 y6 y7 y8 y9 y10 y11 y12 y13 y14 y15 y16 y17 y18 y19 y20 y21) (pinfoldref30_Spans.j3 (k + 1) y0 y1 y2 y3 y4 y5 y6 y7 y8 y9 y10 y11 y12 y13 y14 y15 y16 y17 y18 y19 y20 y21))
 | 0 => ⟨fun _ _ _ _ _ r h => by simp [pinfoldref30_Spans.l0] at h, fun _ _ _ _ _ _ _ _ _ _ _ _ _ _ _ _ r h => by simp [pinfoldref30_Spans.l1] at h, fun _ _ _ _ _ _ _ _ _ _ _ _ _ _ _ _ _ r h => by simp [pinfoldref30_Spans.j2] at h, fun _ _ _ _ _ _ _ _ _ _ _ _ _ _ _ _ _ _ _ _ _ _ r h => by simp [pinfoldref30_Spans.j3] at h⟩
 | k + 1 => by
  obtain ⟨ih0, ih1, ih2, ih3⟩ := pinfoldref30_Spans.mono_l k
  refine ⟨?_, ?_, ?_, ?_⟩
  ·intro y0 y1 y2 y3 y4
   unfold pinfoldref30_Spans.l0
   repeat' first
   | (with_reducible exact ih0 _ _ _ _ _)
   | (with_reducible exact ih1 _ _ _ _ _ _ _ _ _ _ _ _ _ _ _ _)
   | (with_reducible exact ih2 _ _ _ _ _ _ _ _ _ _ _ _ _ _ _ _ _)
   | (with_reducible exact ih3 _ _ _ _ _ _ _ _ _ _ _ _ _ _ _ _ _ _ _ _ _ _)
   | (with_reducible exact LeO.refl _)
   | (with_reducible exact LeO.none _)
   | (with_reducible refine LeO.ite ?_ ?_)
   | (with_reducible refine LeO.bind ?_ (fun _ => ?_))
   | exact ih0 _ _ _ _ _
   | exact ih1 _ _ _ _ _ _ _ _ _ _ _ _ _ _ _ _
   | exact ih2 _ _ _ _ _ _ _ _ _ _ _ _ _ _ _ _ _
   | exact ih3 _ _ _ _ _ _ _ _ _ _ _ _ _ _ _ _ _ _ _ _ _ _
   | exact LeO.none _
   | refine LeO.ite ?_ ?_
   | refine LeO.bind ?_ (fun _ => ?_)
  ·intro y0 y1 y2 y3 y4 y5 y6 y7 y8 y9 y10 y11 y12 y13 y14 y15
   unfold pinfoldref30_Spans.l1
   repeat' first
   | (with_reducible exact ih0 _ _ _ _ _)
   | (with_reducible exact ih1 _ _ _ _ _ _ _ _ _ _ _ _ _ _ _ _)
   | (with_reducible exact ih2 _ _ _ _ _ _ _ _ _ _ _ _ _ _ _ _ _)
   | (with_reducible exact ih3 _ _ _ _ _ _ _ _ _ _ _ _ _ _ _ _ _ _ _ _ _ _)
   | (with_reducible exact LeO.refl _)
   | (with_reducible exact LeO.none _)
   | (with_reducible refine LeO.ite ?_ ?_)
   | (with_reducible refine LeO.bind ?_ (fun _ => ?_))
   | exact ih0 _ _ _ _ _
   | exact ih1 _ _ _ _ _ _ _ _ _ _ _ _ _ _ _ _
   | exact ih2 _ _ _ _ _ _ _ _ _ _ _ _ _ _ _ _ _
   | exact ih3 _ _ _ _ _ _ _ _ _ _ _ _ _ _ _ _ _ _ _ _ _ _
   | exact LeO.none _
   | refine LeO.ite ?_ ?_
   | refine LeO.bind ?_ (fun _ => ?_)
  ·intro y0 y1 y2 y3 y4 y5 y6 y7 y8 y9 y10 y11 y12 y13 y14 y15 y16
   unfold pinfoldref30_Spans.j2
   repeat' first
   | (with_reducible exact ih0 _ _ _ _ _)
   | (with_reducible exact ih1 _ _ _ _ _ _ _ _ _ _ _ _ _ _ _ _)
   | (with_reducible exact ih2 _ _ _ _ _ _ _ _ _ _ _ _ _ _ _ _ _)
   | (with_reducible exact ih3 _ _ _ _ _ _ _ _ _ _ _ _ _ _ _ _ _ _ _ _ _ _)
   | (with_reducible exact LeO.refl _)
   | (with_reducible exact LeO.none _)
   | (with_reducible refine LeO.ite ?_ ?_)
   | (with_reducible refine LeO.bind ?_ (fun _ => ?_))
   | exact ih0 _ _ _ _ _
   | exact ih1 _ _ _ _ _ _ _ _ _ _ _ _ _ _ _ _
   | exact ih2 _ _ _ _ _ _ _ _ _ _ _ _ _ _ _ _ _
   | exact ih3 _ _ _ _ _ _ _ _ _ _ _ _ _ _ _ _ _ _ _ _ _ _
   | exact LeO.none _
   | refine LeO.ite ?_ ?_
   | refine LeO.bind ?_ (fun _ => ?_)
  ·intro y0 y1 y2 y3 y4 y5 y6 y7 y8 y9 y10 y11 y12 y13 y14 y15 y16 y17 y18 y19 y20 y21
   unfold pinfoldref30_Spans.j3
   repeat' first
   | (with_reducible exact ih0 _ _ _ _ _)
   | (with_reducible exact ih1 _ _ _ _ _ _ _ _ _ _ _ _ _ _ _ _)
   | (with_reducible exact ih2 _ _ _ _ _ _ _ _ _ _ _ _ _ _ _ _ _)
   | (with_reducible exact ih3 _ _ _ _ _ _ _ _ _ _ _ _ _ _ _ _ _ _ _ _ _ _)
   | (with_reducible exact LeO.refl _)
   | (with_reducible exact LeO.none _)
   | (with_reducible refine LeO.ite ?_ ?_)
   | (with_reducible refine LeO.bind ?_ (fun _ => ?_))
   | exact ih0 _ _ _ _ _
   | exact ih1 _ _ _ _ _ _ _ _ _ _ _ _ _ _ _ _
   | exact ih2 _ _ _ _ _ _ _ _ _ _ _ _ _ _ _ _ _
   | exact ih3 _ _ _ _ _ _ _ _ _ _ _ _ _ _ _ _ _ _ _ _ _ _
   | exact LeO.none _
   | refine LeO.ite ?_ ?_
   | refine LeO.bind ?_ (fun _ => ?_)
theorem pinfoldref30_Spans.mono : ∀ a0 k, LeO (pinfoldref30_Spans.f k a0) (pinfoldref30_Spans.f (k + 1) a0) := by
 intro a0 k
 obtain ⟨ih0, ih1, ih2, ih3⟩ := pinfoldref30_Spans.mono_l k
 unfold pinfoldref30_Spans.f
 repeat' first
   | (with_reducible exact ih0 _ _ _ _ _)
   | (with_reducible exact ih1 _ _ _ _ _ _ _ _ _ _ _ _ _ _ _ _)
   | (with_reducible exact ih2 _ _ _ _ _ _ _ _ _ _ _ _ _ _ _ _ _)
   | (with_reducible exact ih3 _ _ _ _ _ _ _ _ _ _ _ _ _ _ _ _ _ _ _ _ _ _)
   | (with_reducible exact LeO.refl _)
   | (with_reducible exact LeO.none _)
   | (with_reducible refine LeO.ite ?_ ?_)
   | (with_reducible refine LeO.bind ?_ (fun _ => ?_))
   | exact ih0 _ _ _ _ _
   | exact ih1 _ _ _ _ _ _ _ _ _ _ _ _ _ _ _ _
   | exact ih2 _ _ _ _ _ _ _ _ _ _ _ _ _ _ _ _ _
   | exact ih3 _ _ _ _ _ _ _ _ _ _ _ _ _ _ _ _ _ _ _ _ _ _
   | exact LeO.none _
   | refine LeO.ite ?_ ?_
   | refine LeO.bind ?_ (fun _ => ?_)
set_option maxHeartbeats 8000000 in
set_option maxRecDepth 100000 in
theorem pinfoldref30_Spans.calls (k : Nat) (A0 : Option Addr) (c0 : Nat) (l0 : List (S36)) (r : List (S27)) (w : World) (hr0 : Kd.C k36 w A0 l0.length l0) (hc0 : l0.length ≤ c0) (h : pinfoldref30_Spans.f k l0 = some r) :
  Calls Try.prog 16 #[.slice A0 l0.length c0] w fun e w' => ∃ v0_ : Value, e = .returned (v0_) ∧ Kd.R k27 27 w' w.heap.size (fun _ => True) v0_ r ∧ Below w.heap.size w w' := by
 have hu36 := Try.underlying36
 have hu27 := Try.underlying27
 have HR0 := Aside0.mk hr0
 have HC0 := Aside0.mk hc0
 clear hr0 hc0
 have HB := Aside0.mk (Below.refl w.heap.size w)
 have H : (pinfoldref30_Spans.l0 k l0 ([] : List (S27)) l0 (l0.length : Int) 0) = some r := h
 clear h
 have H' := Aside0.mk H
 clear H
 go_enter Try.func16, Try.ntmps16
 go_wp2
 go_loopg [3, 11] k (fun kq v3 v11 w' => ∃ (x3_1 : List (S27)) (x11_1 : Int), v11 = .int .i64 x11_1 ∧ Aside0 (pinfoldref30_Spans.l0 kq l0 x3_1 l0 (l0.length : Int) x11_1 = some r) ∧ Aside0 (kq ≤ k) ∧ Aside0 (Kd.R k27 27 w' w.heap.size (fun _ => True) v3 x3_1) ∧ Aside0 (Below w.heap.size w w'))
 case atStart => exact ⟨(([] : List (S27))), (0), (by first|rfl|(simp;done)|(simp [*];done)), H', ⟨Nat.le_refl _⟩, ⟨by first|exact Kd.R_nil _ _ _ _ _|exact Kd.N_nil _ _ _ _ _|exact Kd.V_nil _ _ _ _ _|exact Kd.Q_nil _ _ _ _ _|exact Kd.S_nil _ _ _ _ _⟩, ⟨by repeat (with_reducible first|exact HB.out|apply xa|apply xb|apply xc)⟩⟩
 case round =>
  clear H'
  try clear c1
  obtain ⟨x3_1, x11_1, rfl, HA, HK1, HO_3, HB⟩ := hrel
  cases gk with
  | zero => exact absurd HA.out (by simp [pinfoldref30_Spans.l0])
  | succ k1 =>
   have H := HA.out
   clear HA
   simp only [pinfoldref30_Spans.l0] at H
   by_cases c2 : x11_1 < (l0.length : Int)
   ·rw [if_pos c2] at H
    have c2b0 : decide (x11_1 < (l0.length : Int)) = true := decide_eq_true c2
    clear c2
    by_cases c3 : 0 ≤ x11_1
    ·rw [if_pos c3] at H
     have c3b0 : decide (0 ≤ x11_1) = true := decide_eq_true c3
     clear c3
     by_cases c4 : x11_1 < (l0.length : Int)
     ·rw [if_pos c4] at H
      have c4b0 : decide (x11_1 < (l0.length : Int)) = true := decide_eq_true c4
      clear c4
      by_cases c5 : ((rd_T36 l0 x11_1).f0) = 2
      ·rw [if_pos c5] at H
       have c5b0 : (((rd_T36 l0 x11_1).f0) == 2) = true := beq_iff_eq.mpr c5
       have c5b1 : (((rd_T36 l0 x11_1).f0) != 2) = false := bne_eq_false_iff_eq.mpr c5
       clear c5
       have H' := Aside0.mk H
       clear H
       have p104 : 0 ≤ (x11_1 : Int) := of_decide_eq_true (by assumption)
       have q104 : x11_1 < (l0.length : Int) := of_decide_eq_true (by assumption)
       obtain ⟨ad104, e104, hx104_0, hx104_1, hx104_2, hx104_3, hx104_4⟩ := at_T36 HR0.out x11_1 p104 q104
       cases e104
       replace hx104_0 := (HB.out.cell (World.block_lt_of_cell? w _ hx104_0)).trans hx104_0
       replace hx104_1 := (HB.out.cell (World.block_lt_of_cell? w _ hx104_1)).trans hx104_1
       replace hx104_2 := (HB.out.cell (World.block_lt_of_cell? w _ hx104_2)).trans hx104_2
       replace hx104_3 := (HB.out.cell (World.block_lt_of_cell? w _ hx104_3)).trans hx104_3
       replace hx104_4 := (HB.out.cell (World.block_lt_of_cell? w _ hx104_4)).trans hx104_4
       replace p104 := eq_true p104
       replace q104 := eq_true q104
       go_wp2_with (first|((with_reducible refine gate_dst (N := 5) rfl ?_);(try (refine gate_guard (by rfl) ?_;dsimp only));refine box_event ?hg (N := 5) ?hd (cs := #[.int .i64 0, .int .i64 0, .int .i64 0, .int .i64 0, .int .i64 0]) (t := 36) ?hr ?_;(case hd => rfl);(case hg => rfl);(case hr => first|(go_simp;done)|(go_simp;rfl));intro gb105 hg w6 hbox hb;have n0_ := Aside0.mk (Kd.R_below (by (with_reducible repeat (first|apply Kd.R_alloc|apply Kd.R_drewN|apply Kd.R_drew));exact HO_3.out) hb);have n1_ := Aside0.mk (below_step (by repeat (with_reducible first|exact HB.out|apply xa|apply xb|apply xc)) hb);have n2_ := Aside0.mk (hbox);have n3_ := Aside0.mk ((by rw [hg];exact (below_size (by repeat (with_reducible first|exact HB.out|apply xa|apply xb|apply xc))) : w.heap.size ≤ gb105));have n4_ := Aside0.mk ((by rw [hg];exact (below_size (by repeat (with_reducible first|exact HB.out|apply xa|apply xb|apply xc))) : w.heap.size ≤ gb105));clear HO_3;clear HB;have HO_3 := n0_;have HB := n1_;have BK105 := n2_;have GW105 := n3_;have GE105 := n4_;clear n0_ n1_ n2_ n3_ n4_;clear hb hbox hg;have hcz7_0 : w6.cell? ⟨gb105, 0, none⟩ = some (.int .i64 0) := (blk_cell BK105.out 0).trans rfl;have hcz7_1 : w6.cell? ⟨gb105, 1, none⟩ = some (.int .i64 0) := (blk_cell BK105.out 1).trans rfl;have hcz7_2 : w6.cell? ⟨gb105, 2, none⟩ = some (.int .i64 0) := (blk_cell BK105.out 2).trans rfl;have hcz7_3 : w6.cell? ⟨gb105, 3, none⟩ = some (.int .i64 0) := (blk_cell BK105.out 3).trans rfl;have hcz7_4 : w6.cell? ⟨gb105, 4, none⟩ = some (.int .i64 0) := (blk_cell BK105.out 4).trans rfl;have hfz7_0 := blk_frozen BK105.out 0;have hfz7_1 := blk_frozen BK105.out 1;have hfz7_2 := blk_frozen BK105.out 2;have hfz7_3 := blk_frozen BK105.out 3;have hfz7_4 := blk_frozen BK105.out 4)|((with_reducible refine gate_dst (N := 6) rfl ?_);(try (refine gate_guard (by rfl) ?_;dsimp only));refine box_event ?hg (N := 6) ?hd (cs := #[.int .i64 0, .int .i64 0, .int .i64 0, .int .i64 0, .int .i64 0]) (t := 27) ?hr ?_;(case hd => rfl);(case hg => rfl);(case hr => first|(go_simp;done)|(go_simp;rfl));intro gb106 hg w8 hbox hb;have n0_ := Aside0.mk (Kd.R_below (Kd.R_elderB (by (with_reducible repeat (first|apply Kd.R_alloc|apply Kd.R_drewN|apply Kd.R_drew));exact (Kd.R_mono (Kd.R_far (p := ⟨gb105, 4, none⟩) (Kd.R_far (p := ⟨gb105, 3, none⟩) (Kd.R_far (p := ⟨gb105, 2, none⟩) (Kd.R_far (p := ⟨gb105, 1, none⟩) (Kd.R_far (p := ⟨gb105, 0, none⟩) (Kd.R_types HO_3.out BK105.out (by decide)) (fun _ hk => hk.2) (.int .i64 ((rd_T36 l0 x11_1).f0))) (fun _ hk => hk.2) (.int .i64 ((rd_T36 l0 x11_1).f1))) (fun _ hk => hk.2) (.int .i64 ((rd_T36 l0 x11_1).f2))) (fun _ hk => hk.2) (.int .i64 ((rd_T36 l0 x11_1).f3))) (fun _ hk => hk.2) (.int .i64 ((rd_T36 l0 x11_1).f4))) (fun _ h_ => h_.1))) gb106 (Nat.le_of_eq hg.symm)) hb);have n1_ := Aside0.mk (blk_below (g := gb105) (o := .cells #[.int .i64 ((rd_T36 l0 x11_1).f0), .int .i64 ((rd_T36 l0 x11_1).f1), .int .i64 ((rd_T36 l0 x11_1).f2), .int .i64 ((rd_T36 l0 x11_1).f3), .int .i64 ((rd_T36 l0 x11_1).f4)] 36 (0, 0)) (by (with_reducible repeat (first|apply blk_drewN|apply blk_drew|apply blk_alloc));refine blk_put (cs := #[.int .i64 ((rd_T36 l0 x11_1).f0), .int .i64 ((rd_T36 l0 x11_1).f1), .int .i64 ((rd_T36 l0 x11_1).f2), .int .i64 ((rd_T36 l0 x11_1).f3), .int .i64 0]) ?_ 4 _ rfl;(with_reducible repeat (first|apply blk_drewN|apply blk_drew|apply blk_alloc));refine blk_put (cs := #[.int .i64 ((rd_T36 l0 x11_1).f0), .int .i64 ((rd_T36 l0 x11_1).f1), .int .i64 ((rd_T36 l0 x11_1).f2), .int .i64 0, .int .i64 0]) ?_ 3 _ rfl;(with_reducible repeat (first|apply blk_drewN|apply blk_drew|apply blk_alloc));refine blk_put (cs := #[.int .i64 ((rd_T36 l0 x11_1).f0), .int .i64 ((rd_T36 l0 x11_1).f1), .int .i64 0, .int .i64 0, .int .i64 0]) ?_ 2 _ rfl;(with_reducible repeat (first|apply blk_drewN|apply blk_drew|apply blk_alloc));refine blk_put (cs := #[.int .i64 ((rd_T36 l0 x11_1).f0), .int .i64 0, .int .i64 0, .int .i64 0, .int .i64 0]) ?_ 1 _ rfl;(with_reducible repeat (first|apply blk_drewN|apply blk_drew|apply blk_alloc));refine blk_put (cs := #[.int .i64 0, .int .i64 0, .int .i64 0, .int .i64 0, .int .i64 0]) ?_ 0 _ rfl;(with_reducible repeat (first|apply blk_drewN|apply blk_drew|apply blk_alloc));exact BK105.out) hb);have n2_ := Aside0.mk (below_step (by repeat (first|(with_reducible first|exact HB.out|apply xa|apply xb|apply xc|refine below_set ?_ GE105.out)|exact HB.out)) hb);have n3_ := Aside0.mk (hbox);have n4_ := Aside0.mk ((by rw [hg];exact (below_size (by repeat (first|(with_reducible first|exact HB.out|apply xa|apply xb|apply xc|refine below_set ?_ GE105.out)|exact HB.out))) : w.heap.size ≤ gb106));have n5_ := Aside0.mk ((by rw [hg];exact (below_size (by repeat (first|(with_reducible first|exact HB.out|apply xa|apply xb|apply xc|refine below_set ?_ GE105.out)|exact HB.out))) : w.heap.size ≤ gb106));have n6_ := Aside0.mk ((by rw [hg];exact Nat.ne_of_lt (blk_lt (g := gb105) (o := .cells #[.int .i64 ((rd_T36 l0 x11_1).f0), .int .i64 ((rd_T36 l0 x11_1).f1), .int .i64 ((rd_T36 l0 x11_1).f2), .int .i64 ((rd_T36 l0 x11_1).f3), .int .i64 ((rd_T36 l0 x11_1).f4)] 36 (0, 0)) (by (with_reducible repeat (first|apply blk_drewN|apply blk_drew|apply blk_alloc));refine blk_put (cs := #[.int .i64 ((rd_T36 l0 x11_1).f0), .int .i64 ((rd_T36 l0 x11_1).f1), .int .i64 ((rd_T36 l0 x11_1).f2), .int .i64 ((rd_T36 l0 x11_1).f3), .int .i64 0]) ?_ 4 _ rfl;(with_reducible repeat (first|apply blk_drewN|apply blk_drew|apply blk_alloc));refine blk_put (cs := #[.int .i64 ((rd_T36 l0 x11_1).f0), .int .i64 ((rd_T36 l0 x11_1).f1), .int .i64 ((rd_T36 l0 x11_1).f2), .int .i64 0, .int .i64 0]) ?_ 3 _ rfl;(with_reducible repeat (first|apply blk_drewN|apply blk_drew|apply blk_alloc));refine blk_put (cs := #[.int .i64 ((rd_T36 l0 x11_1).f0), .int .i64 ((rd_T36 l0 x11_1).f1), .int .i64 0, .int .i64 0, .int .i64 0]) ?_ 2 _ rfl;(with_reducible repeat (first|apply blk_drewN|apply blk_drew|apply blk_alloc));refine blk_put (cs := #[.int .i64 ((rd_T36 l0 x11_1).f0), .int .i64 0, .int .i64 0, .int .i64 0, .int .i64 0]) ?_ 1 _ rfl;(with_reducible repeat (first|apply blk_drewN|apply blk_drew|apply blk_alloc));refine blk_put (cs := #[.int .i64 0, .int .i64 0, .int .i64 0, .int .i64 0, .int .i64 0]) ?_ 0 _ rfl;(with_reducible repeat (first|apply blk_drewN|apply blk_drew|apply blk_alloc));exact BK105.out)) : gb105 ≠ gb106));have n7_ := Aside0.mk ((by rw [hg];exact Nat.ne_of_gt (blk_lt (g := gb105) (o := .cells #[.int .i64 ((rd_T36 l0 x11_1).f0), .int .i64 ((rd_T36 l0 x11_1).f1), .int .i64 ((rd_T36 l0 x11_1).f2), .int .i64 ((rd_T36 l0 x11_1).f3), .int .i64 ((rd_T36 l0 x11_1).f4)] 36 (0, 0)) (by (with_reducible repeat (first|apply blk_drewN|apply blk_drew|apply blk_alloc));refine blk_put (cs := #[.int .i64 ((rd_T36 l0 x11_1).f0), .int .i64 ((rd_T36 l0 x11_1).f1), .int .i64 ((rd_T36 l0 x11_1).f2), .int .i64 ((rd_T36 l0 x11_1).f3), .int .i64 0]) ?_ 4 _ rfl;(with_reducible repeat (first|apply blk_drewN|apply blk_drew|apply blk_alloc));refine blk_put (cs := #[.int .i64 ((rd_T36 l0 x11_1).f0), .int .i64 ((rd_T36 l0 x11_1).f1), .int .i64 ((rd_T36 l0 x11_1).f2), .int .i64 0, .int .i64 0]) ?_ 3 _ rfl;(with_reducible repeat (first|apply blk_drewN|apply blk_drew|apply blk_alloc));refine blk_put (cs := #[.int .i64 ((rd_T36 l0 x11_1).f0), .int .i64 ((rd_T36 l0 x11_1).f1), .int .i64 0, .int .i64 0, .int .i64 0]) ?_ 2 _ rfl;(with_reducible repeat (first|apply blk_drewN|apply blk_drew|apply blk_alloc));refine blk_put (cs := #[.int .i64 ((rd_T36 l0 x11_1).f0), .int .i64 0, .int .i64 0, .int .i64 0, .int .i64 0]) ?_ 1 _ rfl;(with_reducible repeat (first|apply blk_drewN|apply blk_drew|apply blk_alloc));refine blk_put (cs := #[.int .i64 0, .int .i64 0, .int .i64 0, .int .i64 0, .int .i64 0]) ?_ 0 _ rfl;(with_reducible repeat (first|apply blk_drewN|apply blk_drew|apply blk_alloc));exact BK105.out)) : gb106 ≠ gb105));clear HO_3;clear BK105;clear HB;have HO_3 := n0_;have BK105 := n1_;have HB := n2_;have BK106 := n3_;have GW106 := n4_;have GE106 := n5_;have NB105_106 := n6_;have NB106_105 := n7_;clear n0_ n1_ n2_ n3_ n4_ n5_ n6_ n7_;clear hb hbox hg;have hnb9 := NB106_105.out;have hnc9 := NB105_106.out;have hcz10_0 : w8.cell? ⟨gb106, 0, none⟩ = some (.int .i64 0) := (blk_cell BK106.out 0).trans rfl;have hcz10_1 : w8.cell? ⟨gb106, 1, none⟩ = some (.int .i64 0) := (blk_cell BK106.out 1).trans rfl;have hcz10_2 : w8.cell? ⟨gb106, 2, none⟩ = some (.int .i64 0) := (blk_cell BK106.out 2).trans rfl;have hcz10_3 : w8.cell? ⟨gb106, 3, none⟩ = some (.int .i64 0) := (blk_cell BK106.out 3).trans rfl;have hcz10_4 : w8.cell? ⟨gb106, 4, none⟩ = some (.int .i64 0) := (blk_cell BK106.out 4).trans rfl;have hfz10_0 := blk_frozen BK106.out 0;have hfz10_1 := blk_frozen BK106.out 1;have hfz10_2 := blk_frozen BK106.out 2;have hfz10_3 := blk_frozen BK106.out 3;have hfz10_4 := blk_frozen BK106.out 4))
       go_loopg [7] k1 (fun kq v7 w' => ∃ (x7_2 : Int) (x107003_2 : Int) (x107004_2 : Int), v7 = .int .i64 x7_2 ∧ Aside0 (pinfoldref30_Spans.l1 kq l0 x3_1 x7_2 l0 (l0.length : Int) x11_1 ((rd_T36 l0 x11_1).f0) ((rd_T36 l0 x11_1).f1) ((rd_T36 l0 x11_1).f2) ((rd_T36 l0 x11_1).f3) ((rd_T36 l0 x11_1).f4) ((rd_T36 l0 x11_1).f1) ((rd_T36 l0 x11_1).f2) x11_1 x107003_2 x107004_2 = some r) ∧ Aside0 (kq ≤ k1) ∧ Aside0 (Kd.R k27 27 w' w.heap.size (fun k_ => k_ ≠ gb106) u3 x3_1) ∧ Aside0 (w'.heap[gb105]? = some (.cells #[.int .i64 ((rd_T36 l0 x11_1).f0), .int .i64 ((rd_T36 l0 x11_1).f1), .int .i64 ((rd_T36 l0 x11_1).f2), .int .i64 ((rd_T36 l0 x11_1).f3), .int .i64 ((rd_T36 l0 x11_1).f4)] 36 (0, 0))) ∧ Aside0 (w'.heap[gb106]? = some (.cells #[.int .i64 ((rd_T36 l0 x11_1).f1), .int .i64 ((rd_T36 l0 x11_1).f2), .int .i64 x11_1, .int .i64 x107003_2, .int .i64 x107004_2] 27 (0, 0))) ∧ Aside0 (Below w.heap.size w w'))
       case atStart => exact ⟨(wrap64 (x11_1 + 1)), ((l0.length : Int)), (0), (by first|rfl|(simp;done)|(simp [*];done)), H', ⟨Nat.le_refl _⟩, ⟨by (with_reducible repeat (first|apply Kd.R_alloc|apply Kd.R_drewN|apply Kd.R_drew));exact Kd.R_mono (Kd.R_far (p := ⟨gb106, 4, none⟩) (Kd.R_far (p := ⟨gb106, 3, none⟩) (Kd.R_far (p := ⟨gb106, 2, none⟩) (Kd.R_far (p := ⟨gb106, 1, none⟩) (Kd.R_far (p := ⟨gb106, 0, none⟩) (Kd.R_mono HO_3.out (fun k_ hk => (⟨hk, hk.2⟩ : _ ∧ k_ ≠ gb106))) (fun _ hk => hk.2) (.int .i64 ((rd_T36 l0 x11_1).f1))) (fun _ hk => hk.2) (.int .i64 ((rd_T36 l0 x11_1).f2))) (fun _ hk => hk.2) (.int .i64 x11_1)) (fun _ hk => hk.2) (.int .i64 (l0.length : Int))) (fun _ hk => hk.2) (.int .i64 0)) (fun _ hk => hk.1.2)⟩, ⟨by (with_reducible repeat (first|apply blk_drewN|apply blk_drew|apply blk_alloc));refine blk_far ?_ NB105_106.out _;(with_reducible repeat (first|apply blk_drewN|apply blk_drew|apply blk_alloc));refine blk_far ?_ NB105_106.out _;(with_reducible repeat (first|apply blk_drewN|apply blk_drew|apply blk_alloc));refine blk_far ?_ NB105_106.out _;(with_reducible repeat (first|apply blk_drewN|apply blk_drew|apply blk_alloc));refine blk_far ?_ NB105_106.out _;(with_reducible repeat (first|apply blk_drewN|apply blk_drew|apply blk_alloc));refine blk_far ?_ NB105_106.out _;(with_reducible repeat (first|apply blk_drewN|apply blk_drew|apply blk_alloc));exact BK105.out⟩, ⟨by (with_reducible repeat (first|apply blk_drewN|apply blk_drew|apply blk_alloc));refine blk_put (cs := #[.int .i64 ((rd_T36 l0 x11_1).f1), .int .i64 ((rd_T36 l0 x11_1).f2), .int .i64 x11_1, .int .i64 (l0.length : Int), .int .i64 0]) ?_ 4 _ rfl;(with_reducible repeat (first|apply blk_drewN|apply blk_drew|apply blk_alloc));refine blk_put (cs := #[.int .i64 ((rd_T36 l0 x11_1).f1), .int .i64 ((rd_T36 l0 x11_1).f2), .int .i64 x11_1, .int .i64 0, .int .i64 0]) ?_ 3 _ rfl;(with_reducible repeat (first|apply blk_drewN|apply blk_drew|apply blk_alloc));refine blk_put (cs := #[.int .i64 ((rd_T36 l0 x11_1).f1), .int .i64 ((rd_T36 l0 x11_1).f2), .int .i64 0, .int .i64 0, .int .i64 0]) ?_ 2 _ rfl;(with_reducible repeat (first|apply blk_drewN|apply blk_drew|apply blk_alloc));refine blk_put (cs := #[.int .i64 ((rd_T36 l0 x11_1).f1), .int .i64 0, .int .i64 0, .int .i64 0, .int .i64 0]) ?_ 1 _ rfl;(with_reducible repeat (first|apply blk_drewN|apply blk_drew|apply blk_alloc));refine blk_put (cs := #[.int .i64 0, .int .i64 0, .int .i64 0, .int .i64 0, .int .i64 0]) ?_ 0 _ rfl;(with_reducible repeat (first|apply blk_drewN|apply blk_drew|apply blk_alloc));exact BK106.out⟩, ⟨by repeat (first|(with_reducible first|exact HB.out|apply xa|apply xb|apply xc|refine below_set ?_ GE105.out|refine below_set ?_ GE106.out)|exact HB.out)⟩⟩
       case round =>
        clear H'
        try clear c1
        try clear p1
        try clear q1
        try clear hx1
        try clear c2
        try clear c2b0
        try clear p2
        try clear c3
        try clear c3b0
        try clear c4
        try clear c4b0
        try clear c5
        try clear c5b0
        try clear c5b1
        try clear p6
        try clear c9
        try clear p10
        try clear q10
        try clear hx10
        try clear hcz10_0
        try clear hcz10_1
        try clear hcz10_2
        try clear hcz10_3
        try clear hcz10_4
        try clear hcz7_0
        try clear hcz7_1
        try clear hcz7_2
        try clear hcz7_3
        try clear hcz7_4
        try clear hfz10_0
        try clear hfz10_1
        try clear hfz10_2
        try clear hfz10_3
        try clear hfz10_4
        try clear hfz7_0
        try clear hfz7_1
        try clear hfz7_2
        try clear hfz7_3
        try clear hfz7_4
        try clear hx104_0
        try clear hx104_1
        try clear hx104_2
        try clear hx104_3
        try clear hx104_4
        try clear p104
        try clear q104
        obtain ⟨x7_2, x107003_2, x107004_2, rfl, HA, HK2, HO_3, BK105, BK106, HB⟩ := hrel
        cases gk with
        | zero => exact absurd HA.out (by simp [pinfoldref30_Spans.l1])
        | succ k2 =>
         have H := HA.out
         clear HA
         simp only [pinfoldref30_Spans.l1] at H
         have HC11 := Aside0.mk H
         clear H
         go_upto_region 8 with (fail)
         go_cut [39] (fun v39 wc => ∃ (kq : Nat) (x39_10 : Bool), v39 = .bool x39_10 ∧ Aside0 (pinfoldref30_Spans.j2 kq l0 x3_1 x7_2 l0 (l0.length : Int) x11_1 x39_10 ((rd_T36 l0 x11_1).f0) ((rd_T36 l0 x11_1).f1) ((rd_T36 l0 x11_1).f2) ((rd_T36 l0 x11_1).f3) ((rd_T36 l0 x11_1).f4) ((rd_T36 l0 x11_1).f1) ((rd_T36 l0 x11_1).f2) x11_1 x107003_2 x107004_2 = some r) ∧ Aside0 (kq ≤ k2) ∧ Aside0 (Kd.R k27 27 wc w.heap.size (fun k_ => k_ ≠ gb106) u3 x3_1) ∧ Aside0 (wc.heap[gb105]? = some (.cells #[.int .i64 ((rd_T36 l0 x11_1).f0), .int .i64 ((rd_T36 l0 x11_1).f1), .int .i64 ((rd_T36 l0 x11_1).f2), .int .i64 ((rd_T36 l0 x11_1).f3), .int .i64 ((rd_T36 l0 x11_1).f4)] 36 (0, 0))) ∧ Aside0 (wc.heap[gb106]? = some (.cells #[.int .i64 ((rd_T36 l0 x11_1).f1), .int .i64 ((rd_T36 l0 x11_1).f2), .int .i64 x11_1, .int .i64 x107003_2, .int .i64 x107004_2] 27 (0, 0))) ∧ Aside0 (Below w.heap.size w wc))
         case first =>
          have H := HC11.out
          clear HC11
          by_cases c12 : x7_2 < (l0.length : Int)
          ·rw [if_pos c12] at H
           have c12b0 : decide (x7_2 < (l0.length : Int)) = true := decide_eq_true c12
           clear c12
           (first|rw [c12b0]|(simp only [i64_w, i32_w];rw [c12b0])|skip)
           have H' := Aside0.mk H
           clear H
           have hnb13 := NB106_105.out
           have hnc13 := NB105_106.out
           have hcz14_0 : wr.cell? ⟨gb106, 0, none⟩ = some (.int .i64 ((rd_T36 l0 x11_1).f1)) := (blk_cell BK106.out 0).trans rfl
           have hcz14_1 : wr.cell? ⟨gb106, 1, none⟩ = some (.int .i64 ((rd_T36 l0 x11_1).f2)) := (blk_cell BK106.out 1).trans rfl
           have hcz14_2 : wr.cell? ⟨gb106, 2, none⟩ = some (.int .i64 x11_1) := (blk_cell BK106.out 2).trans rfl
           have hcz14_3 : wr.cell? ⟨gb106, 3, none⟩ = some (.int .i64 x107003_2) := (blk_cell BK106.out 3).trans rfl
           have hcz14_4 : wr.cell? ⟨gb106, 4, none⟩ = some (.int .i64 x107004_2) := (blk_cell BK106.out 4).trans rfl
           have hfz14_0 := blk_frozen BK106.out 0
           have hfz14_1 := blk_frozen BK106.out 1
           have hfz14_2 := blk_frozen BK106.out 2
           have hfz14_3 := blk_frozen BK106.out 3
           have hfz14_4 := blk_frozen BK106.out 4
           go_wp2
           go_meet
           case rel => exact ⟨_, ((x107003_2 == (l0.length : Int))), (by first|rfl|(simp;done)|(simp [*];done)), H', ⟨by have := HK1.out;have := HK2.out;first|omega|exact Nat.le_refl _⟩, ⟨by (with_reducible repeat (first|apply Kd.R_alloc|apply Kd.R_drewN|apply Kd.R_drew));exact HO_3.out⟩, ⟨by (with_reducible repeat (first|apply blk_drewN|apply blk_drew|apply blk_alloc));exact BK105.out⟩, ⟨by (with_reducible repeat (first|apply blk_drewN|apply blk_drew|apply blk_alloc));exact BK106.out⟩, ⟨by repeat (first|(with_reducible first|exact HB.out|apply xa|apply xb|apply xc|refine below_set ?_ GE105.out|refine below_set ?_ GE106.out)|exact HB.out)⟩⟩
          ·rw [if_neg c12] at H
           have c12b0 : decide (x7_2 < (l0.length : Int)) = false := decide_eq_false c12
           clear c12
           (first|rw [c12b0]|(simp only [i64_w, i32_w];rw [c12b0])|skip)
           have H' := Aside0.mk H
           clear H
           go_wp2
           go_meet
           case rel => exact ⟨_, (false), (by first|rfl|(simp;done)|(simp [*];done)), H', ⟨by have := HK1.out;have := HK2.out;first|omega|exact Nat.le_refl _⟩, ⟨by (with_reducible repeat (first|apply Kd.R_alloc|apply Kd.R_drewN|apply Kd.R_drew));exact HO_3.out⟩, ⟨by (with_reducible repeat (first|apply blk_drewN|apply blk_drew|apply blk_alloc));exact BK105.out⟩, ⟨by (with_reducible repeat (first|apply blk_drewN|apply blk_drew|apply blk_alloc));exact BK106.out⟩, ⟨by repeat (first|(with_reducible first|exact HB.out|apply xa|apply xb|apply xc|refine below_set ?_ GE105.out|refine below_set ?_ GE106.out)|exact HB.out)⟩⟩
         case rest =>
          clear HC11
          try clear c1
          try clear p1
          try clear q1
          try clear hx1
          try clear c2
          try clear c2b0
          try clear p2
          try clear c3
          try clear c3b0
          try clear c4
          try clear c4b0
          try clear c5
          try clear c5b0
          try clear c5b1
          try clear p6
          try clear c9
          try clear p10
          try clear q10
          try clear hx10
          try clear c12
          try clear c12b0
          try clear c13
          try clear hcz10_0
          try clear hcz10_1
          try clear hcz10_2
          try clear hcz10_3
          try clear hcz10_4
          try clear hcz14_0
          try clear hcz14_1
          try clear hcz14_2
          try clear hcz14_3
          try clear hcz14_4
          try clear hcz7_0
          try clear hcz7_1
          try clear hcz7_2
          try clear hcz7_3
          try clear hcz7_4
          try clear hfz10_0
          try clear hfz10_1
          try clear hfz10_2
          try clear hfz10_3
          try clear hfz10_4
          try clear hfz14_0
          try clear hfz14_1
          try clear hfz14_2
          try clear hfz14_3
          try clear hfz14_4
          try clear hfz7_0
          try clear hfz7_1
          try clear hfz7_2
          try clear hfz7_3
          try clear hfz7_4
          try clear hx104_0
          try clear hx104_1
          try clear hx104_2
          try clear hx104_3
          try clear hx104_4
          try clear p1
          try clear p10
          try clear p104
          try clear p2
          try clear p6
          try clear q1
          try clear q10
          try clear q104
          obtain ⟨kq, x39_10, rfl, HA, HJ10, HO_3, BK105, BK106, HB⟩ := hcut
          cases kq with
          | zero => exact absurd HA.out (by simp [pinfoldref30_Spans.j2])
          | succ kj10 =>
           have H := HA.out
           clear HA
           simp only [pinfoldref30_Spans.j2] at H
           by_cases c15 : x39_10 = true
           ·subst c15
            have H1 : (if 0 ≤ x7_2 then (if x7_2 < (l0.length : Int) then (if ((rd_T36 l0 x7_2).f1) = ((rd_T36 l0 x11_1).f1) then (if ((rd_T36 l0 x7_2).f2) = ((rd_T36 l0 x11_1).f2) then (pinfoldref30_Spans.j3 kj10 l0 x3_1 x7_2 l0 (l0.length : Int) x11_1 (((rd_T36 l0 x7_2).f0) == 4) ((rd_T36 l0 x11_1).f0) ((rd_T36 l0 x11_1).f1) ((rd_T36 l0 x11_1).f2) ((rd_T36 l0 x11_1).f3) ((rd_T36 l0 x11_1).f4) ((rd_T36 l0 x11_1).f1) ((rd_T36 l0 x11_1).f2) x11_1 x107003_2 x107004_2 ((rd_T36 l0 x7_2).f0) ((rd_T36 l0 x7_2).f1) ((rd_T36 l0 x7_2).f2) ((rd_T36 l0 x7_2).f3) ((rd_T36 l0 x7_2).f4)) else (pinfoldref30_Spans.j3 kj10 l0 x3_1 x7_2 l0 (l0.length : Int) x11_1 false ((rd_T36 l0 x11_1).f0) ((rd_T36 l0 x11_1).f1) ((rd_T36 l0 x11_1).f2) ((rd_T36 l0 x11_1).f3) ((rd_T36 l0 x11_1).f4) ((rd_T36 l0 x11_1).f1) ((rd_T36 l0 x11_1).f2) x11_1 x107003_2 x107004_2 ((rd_T36 l0 x7_2).f0) ((rd_T36 l0 x7_2).f1) ((rd_T36 l0 x7_2).f2) ((rd_T36 l0 x7_2).f3) ((rd_T36 l0 x7_2).f4))) else (pinfoldref30_Spans.j3 kj10 l0 x3_1 x7_2 l0 (l0.length : Int) x11_1 false ((rd_T36 l0 x11_1).f0) ((rd_T36 l0 x11_1).f1) ((rd_T36 l0 x11_1).f2) ((rd_T36 l0 x11_1).f3) ((rd_T36 l0 x11_1).f4) ((rd_T36 l0 x11_1).f1) ((rd_T36 l0 x11_1).f2) x11_1 x107003_2 x107004_2 ((rd_T36 l0 x7_2).f0) ((rd_T36 l0 x7_2).f1) ((rd_T36 l0 x7_2).f2) ((rd_T36 l0 x7_2).f3) ((rd_T36 l0 x7_2).f4))) else (none)) else (none)) = some r := by rw [if_pos rfl] at H;exact H
            clear H
            have H := H1
            clear H1
            by_cases c16 : 0 ≤ x7_2
            ·rw [if_pos c16] at H
             have c16b0 : decide (0 ≤ x7_2) = true := decide_eq_true c16
             clear c16
             by_cases c17 : x7_2 < (l0.length : Int)
             ·rw [if_pos c17] at H
              have c17b0 : decide (x7_2 < (l0.length : Int)) = true := decide_eq_true c17
              clear c17
              have HC18 := Aside0.mk H
              clear H
              have p110 : 0 ≤ (x7_2 : Int) := of_decide_eq_true (by assumption)
              have q110 : x7_2 < (l0.length : Int) := of_decide_eq_true (by assumption)
              obtain ⟨ad110, e110, hx110_0, hx110_1, hx110_2, hx110_3, hx110_4⟩ := at_T36 HR0.out x7_2 p110 q110
              obtain rfl : ad104 = ad110 := (by injection e110)
              replace hx110_0 := (HB.out.cell (World.block_lt_of_cell? w _ hx110_0)).trans hx110_0
              replace hx110_1 := (HB.out.cell (World.block_lt_of_cell? w _ hx110_1)).trans hx110_1
              replace hx110_2 := (HB.out.cell (World.block_lt_of_cell? w _ hx110_2)).trans hx110_2
              replace hx110_3 := (HB.out.cell (World.block_lt_of_cell? w _ hx110_3)).trans hx110_3
              replace hx110_4 := (HB.out.cell (World.block_lt_of_cell? w _ hx110_4)).trans hx110_4
              replace p110 := eq_true p110
              replace q110 := eq_true q110
              go_upto_region 11 with (first|((with_reducible refine gate_dst (N := 8) rfl ?_);(try (refine gate_guard (by rfl) ?_;dsimp only));refine box_event ?hg (N := 8) ?hd (cs := #[.int .i64 0, .int .i64 0, .int .i64 0, .int .i64 0, .int .i64 0]) (t := 36) ?hr ?_;(case hd => rfl);(case hg => rfl);(case hr => first|(go_simp;done)|(go_simp;rfl));intro gb111 hg w19 hbox hb;have n0_ := Aside0.mk (Kd.R_below (by (with_reducible repeat (first|apply Kd.R_alloc|apply Kd.R_drewN|apply Kd.R_drew));exact HO_3.out) hb);have n1_ := Aside0.mk (blk_below (g := gb105) (o := .cells #[.int .i64 ((rd_T36 l0 x11_1).f0), .int .i64 ((rd_T36 l0 x11_1).f1), .int .i64 ((rd_T36 l0 x11_1).f2), .int .i64 ((rd_T36 l0 x11_1).f3), .int .i64 ((rd_T36 l0 x11_1).f4)] 36 (0, 0)) (by (with_reducible repeat (first|apply blk_drewN|apply blk_drew|apply blk_alloc));exact BK105.out) hb);have n2_ := Aside0.mk (blk_below (g := gb106) (o := .cells #[.int .i64 ((rd_T36 l0 x11_1).f1), .int .i64 ((rd_T36 l0 x11_1).f2), .int .i64 x11_1, .int .i64 x107003_2, .int .i64 x107004_2] 27 (0, 0)) (by (with_reducible repeat (first|apply blk_drewN|apply blk_drew|apply blk_alloc));exact BK106.out) hb);have n3_ := Aside0.mk (below_step (by repeat (first|(with_reducible first|exact HB.out|apply xa|apply xb|apply xc|refine below_set ?_ GE105.out|refine below_set ?_ GE106.out)|exact HB.out)) hb);have n4_ := Aside0.mk (hbox);have n5_ := Aside0.mk ((by rw [hg];exact (below_size (by repeat (first|(with_reducible first|exact HB.out|apply xa|apply xb|apply xc|refine below_set ?_ GE105.out|refine below_set ?_ GE106.out)|exact HB.out))) : w.heap.size ≤ gb111));have n6_ := Aside0.mk ((by rw [hg];exact (below_size (by repeat (first|(with_reducible first|exact HB.out|apply xa|apply xb|apply xc|refine below_set ?_ GE105.out|refine below_set ?_ GE106.out)|exact HB.out))) : w.heap.size ≤ gb111));have n7_ := Aside0.mk ((by rw [hg];exact Nat.ne_of_lt (blk_lt (g := gb105) (o := .cells #[.int .i64 ((rd_T36 l0 x11_1).f0), .int .i64 ((rd_T36 l0 x11_1).f1), .int .i64 ((rd_T36 l0 x11_1).f2), .int .i64 ((rd_T36 l0 x11_1).f3), .int .i64 ((rd_T36 l0 x11_1).f4)] 36 (0, 0)) (by (with_reducible repeat (first|apply blk_drewN|apply blk_drew|apply blk_alloc));exact BK105.out)) : gb105 ≠ gb111));have n8_ := Aside0.mk ((by rw [hg];exact Nat.ne_of_gt (blk_lt (g := gb105) (o := .cells #[.int .i64 ((rd_T36 l0 x11_1).f0), .int .i64 ((rd_T36 l0 x11_1).f1), .int .i64 ((rd_T36 l0 x11_1).f2), .int .i64 ((rd_T36 l0 x11_1).f3), .int .i64 ((rd_T36 l0 x11_1).f4)] 36 (0, 0)) (by (with_reducible repeat (first|apply blk_drewN|apply blk_drew|apply blk_alloc));exact BK105.out)) : gb111 ≠ gb105));have n9_ := Aside0.mk ((by rw [hg];exact Nat.ne_of_lt (blk_lt (g := gb106) (o := .cells #[.int .i64 ((rd_T36 l0 x11_1).f1), .int .i64 ((rd_T36 l0 x11_1).f2), .int .i64 x11_1, .int .i64 x107003_2, .int .i64 x107004_2] 27 (0, 0)) (by (with_reducible repeat (first|apply blk_drewN|apply blk_drew|apply blk_alloc));exact BK106.out)) : gb106 ≠ gb111));have n10_ := Aside0.mk ((by rw [hg];exact Nat.ne_of_gt (blk_lt (g := gb106) (o := .cells #[.int .i64 ((rd_T36 l0 x11_1).f1), .int .i64 ((rd_T36 l0 x11_1).f2), .int .i64 x11_1, .int .i64 x107003_2, .int .i64 x107004_2] 27 (0, 0)) (by (with_reducible repeat (first|apply blk_drewN|apply blk_drew|apply blk_alloc));exact BK106.out)) : gb111 ≠ gb106));clear HO_3;clear BK105;clear BK106;clear HB;have HO_3 := n0_;have BK105 := n1_;have BK106 := n2_;have HB := n3_;have BK111 := n4_;have GW111 := n5_;have GE111 := n6_;have NB105_111 := n7_;have NB111_105 := n8_;have NB106_111 := n9_;have NB111_106 := n10_;clear n0_ n1_ n2_ n3_ n4_ n5_ n6_ n7_ n8_ n9_ n10_;clear hb hbox hg;have hnb20 := NB111_105.out;have hnc20 := NB105_111.out;have hnb21 := NB111_106.out;have hnc21 := NB106_111.out;have hcz22_0 : w19.cell? ⟨gb111, 0, none⟩ = some (.int .i64 0) := (blk_cell BK111.out 0).trans rfl;have hcz22_1 : w19.cell? ⟨gb111, 1, none⟩ = some (.int .i64 0) := (blk_cell BK111.out 1).trans rfl;have hcz22_2 : w19.cell? ⟨gb111, 2, none⟩ = some (.int .i64 0) := (blk_cell BK111.out 2).trans rfl;have hcz22_3 : w19.cell? ⟨gb111, 3, none⟩ = some (.int .i64 0) := (blk_cell BK111.out 3).trans rfl;have hcz22_4 : w19.cell? ⟨gb111, 4, none⟩ = some (.int .i64 0) := (blk_cell BK111.out 4).trans rfl;have hfz22_0 := blk_frozen BK111.out 0;have hfz22_1 := blk_frozen BK111.out 1;have hfz22_2 := blk_frozen BK111.out 2;have hfz22_3 := blk_frozen BK111.out 3;have hfz22_4 := blk_frozen BK111.out 4))
              (try simp only [Act.put, List.setIfInBounds_toArray, List.set_cons_zero, List.set_cons_succ])
              go_cut [62] (fun v62 wc => ∃ (kq : Nat) (x62_17 : Bool), v62 = .bool x62_17 ∧ Aside0 (pinfoldref30_Spans.j3 kq l0 x3_1 x7_2 l0 (l0.length : Int) x11_1 x62_17 ((rd_T36 l0 x11_1).f0) ((rd_T36 l0 x11_1).f1) ((rd_T36 l0 x11_1).f2) ((rd_T36 l0 x11_1).f3) ((rd_T36 l0 x11_1).f4) ((rd_T36 l0 x11_1).f1) ((rd_T36 l0 x11_1).f2) x11_1 x107003_2 x107004_2 ((rd_T36 l0 x7_2).f0) ((rd_T36 l0 x7_2).f1) ((rd_T36 l0 x7_2).f2) ((rd_T36 l0 x7_2).f3) ((rd_T36 l0 x7_2).f4) = some r) ∧ Aside0 (kq ≤ kj10) ∧ Aside0 (Kd.R k27 27 wc w.heap.size (fun k_ => k_ ≠ gb106) u3 x3_1) ∧ Aside0 (wc.heap[gb105]? = some (.cells #[.int .i64 ((rd_T36 l0 x11_1).f0), .int .i64 ((rd_T36 l0 x11_1).f1), .int .i64 ((rd_T36 l0 x11_1).f2), .int .i64 ((rd_T36 l0 x11_1).f3), .int .i64 ((rd_T36 l0 x11_1).f4)] 36 (0, 0))) ∧ Aside0 (wc.heap[gb106]? = some (.cells #[.int .i64 ((rd_T36 l0 x11_1).f1), .int .i64 ((rd_T36 l0 x11_1).f2), .int .i64 x11_1, .int .i64 x107003_2, .int .i64 x107004_2] 27 (0, 0))) ∧ Aside0 (wc.heap[gb111]? = some (.cells #[.int .i64 ((rd_T36 l0 x7_2).f0), .int .i64 ((rd_T36 l0 x7_2).f1), .int .i64 ((rd_T36 l0 x7_2).f2), .int .i64 ((rd_T36 l0 x7_2).f3), .int .i64 ((rd_T36 l0 x7_2).f4)] 36 (0, 0))) ∧ Aside0 (Below w.heap.size w wc))
              case first =>
               have H := HC18.out
               clear HC18
               by_cases c23 : ((rd_T36 l0 x7_2).f1) = ((rd_T36 l0 x11_1).f1)
               ·rw [if_pos c23] at H
                have c23b0 : (((rd_T36 l0 x7_2).f1) == ((rd_T36 l0 x11_1).f1)) = true := beq_iff_eq.mpr c23
                have c23b1 : (((rd_T36 l0 x7_2).f1) != ((rd_T36 l0 x11_1).f1)) = false := bne_eq_false_iff_eq.mpr c23
                clear c23
                (first|rw [c23b0]|(simp only [i64_w, i32_w];rw [c23b0])|skip)
                by_cases c24 : ((rd_T36 l0 x7_2).f2) = ((rd_T36 l0 x11_1).f2)
                ·rw [if_pos c24] at H
                 have c24b0 : (((rd_T36 l0 x7_2).f2) == ((rd_T36 l0 x11_1).f2)) = true := beq_iff_eq.mpr c24
                 have c24b1 : (((rd_T36 l0 x7_2).f2) != ((rd_T36 l0 x11_1).f2)) = false := bne_eq_false_iff_eq.mpr c24
                 clear c24
                 have H' := Aside0.mk H
                 clear H
                 have hnb25 := NB111_105.out
                 have hnc25 := NB105_111.out
                 have hnb26 := NB111_106.out
                 have hnc26 := NB106_111.out
                 have hcz27_0 : w19.cell? ⟨gb111, 0, none⟩ = some (.int .i64 0) := (blk_cell BK111.out 0).trans rfl
                 have hcz27_1 : w19.cell? ⟨gb111, 1, none⟩ = some (.int .i64 0) := (blk_cell BK111.out 1).trans rfl
                 have hcz27_2 : w19.cell? ⟨gb111, 2, none⟩ = some (.int .i64 0) := (blk_cell BK111.out 2).trans rfl
                 have hcz27_3 : w19.cell? ⟨gb111, 3, none⟩ = some (.int .i64 0) := (blk_cell BK111.out 3).trans rfl
                 have hcz27_4 : w19.cell? ⟨gb111, 4, none⟩ = some (.int .i64 0) := (blk_cell BK111.out 4).trans rfl
                 have hfz27_0 := blk_frozen BK111.out 0
                 have hfz27_1 := blk_frozen BK111.out 1
                 have hfz27_2 := blk_frozen BK111.out 2
                 have hfz27_3 := blk_frozen BK111.out 3
                 have hfz27_4 := blk_frozen BK111.out 4
                 have hnb28 := NB105_106.out
                 have hnc28 := NB106_105.out
                 have hcz29_0 : w19.cell? ⟨gb105, 0, none⟩ = some (.int .i64 ((rd_T36 l0 x11_1).f0)) := (blk_cell BK105.out 0).trans rfl
                 have hcz29_1 : w19.cell? ⟨gb105, 1, none⟩ = some (.int .i64 ((rd_T36 l0 x11_1).f1)) := (blk_cell BK105.out 1).trans rfl
                 have hcz29_2 : w19.cell? ⟨gb105, 2, none⟩ = some (.int .i64 ((rd_T36 l0 x11_1).f2)) := (blk_cell BK105.out 2).trans rfl
                 have hcz29_3 : w19.cell? ⟨gb105, 3, none⟩ = some (.int .i64 ((rd_T36 l0 x11_1).f3)) := (blk_cell BK105.out 3).trans rfl
                 have hcz29_4 : w19.cell? ⟨gb105, 4, none⟩ = some (.int .i64 ((rd_T36 l0 x11_1).f4)) := (blk_cell BK105.out 4).trans rfl
                 have hfz29_0 := blk_frozen BK105.out 0
                 have hfz29_1 := blk_frozen BK105.out 1
                 have hfz29_2 := blk_frozen BK105.out 2
                 have hfz29_3 := blk_frozen BK105.out 3
                 have hfz29_4 := blk_frozen BK105.out 4
                 go_wp2
                 go_meet
                 case rel => exact ⟨_, ((((rd_T36 l0 x7_2).f0) == 4)), (by first|rfl|(simp;done)|(simp [*];done)), H', ⟨by have := HK1.out;have := HK2.out;have := HJ10.out;first|omega|exact Nat.le_refl _⟩, ⟨by (with_reducible repeat (first|apply Kd.R_alloc|apply Kd.R_drewN|apply Kd.R_drew));exact Kd.R_mono (Kd.R_far (p := ⟨gb111, 4, none⟩) (Kd.R_far (p := ⟨gb111, 3, none⟩) (Kd.R_far (p := ⟨gb111, 2, none⟩) (Kd.R_far (p := ⟨gb111, 1, none⟩) (Kd.R_far (p := ⟨gb111, 0, none⟩) (Kd.R_types HO_3.out BK111.out (by decide)) (fun _ hk => hk.2) (.int .i64 ((rd_T36 l0 x7_2).f0))) (fun _ hk => hk.2) (.int .i64 ((rd_T36 l0 x7_2).f1))) (fun _ hk => hk.2) (.int .i64 ((rd_T36 l0 x7_2).f2))) (fun _ hk => hk.2) (.int .i64 ((rd_T36 l0 x7_2).f3))) (fun _ hk => hk.2) (.int .i64 ((rd_T36 l0 x7_2).f4))) (fun _ hk => hk.1)⟩, ⟨by (with_reducible repeat (first|apply blk_drewN|apply blk_drew|apply blk_alloc));refine blk_far ?_ NB105_111.out _;(with_reducible repeat (first|apply blk_drewN|apply blk_drew|apply blk_alloc));refine blk_far ?_ NB105_111.out _;(with_reducible repeat (first|apply blk_drewN|apply blk_drew|apply blk_alloc));refine blk_far ?_ NB105_111.out _;(with_reducible repeat (first|apply blk_drewN|apply blk_drew|apply blk_alloc));refine blk_far ?_ NB105_111.out _;(with_reducible repeat (first|apply blk_drewN|apply blk_drew|apply blk_alloc));refine blk_far ?_ NB105_111.out _;(with_reducible repeat (first|apply blk_drewN|apply blk_drew|apply blk_alloc));exact BK105.out⟩, ⟨by (with_reducible repeat (first|apply blk_drewN|apply blk_drew|apply blk_alloc));refine blk_far ?_ NB106_111.out _;(with_reducible repeat (first|apply blk_drewN|apply blk_drew|apply blk_alloc));refine blk_far ?_ NB106_111.out _;(with_reducible repeat (first|apply blk_drewN|apply blk_drew|apply blk_alloc));refine blk_far ?_ NB106_111.out _;(with_reducible repeat (first|apply blk_drewN|apply blk_drew|apply blk_alloc));refine blk_far ?_ NB106_111.out _;(with_reducible repeat (first|apply blk_drewN|apply blk_drew|apply blk_alloc));refine blk_far ?_ NB106_111.out _;(with_reducible repeat (first|apply blk_drewN|apply blk_drew|apply blk_alloc));exact BK106.out⟩, ⟨by (with_reducible repeat (first|apply blk_drewN|apply blk_drew|apply blk_alloc));refine blk_put (cs := #[.int .i64 ((rd_T36 l0 x7_2).f0), .int .i64 ((rd_T36 l0 x7_2).f1), .int .i64 ((rd_T36 l0 x7_2).f2), .int .i64 ((rd_T36 l0 x7_2).f3), .int .i64 0]) ?_ 4 _ rfl;(with_reducible repeat (first|apply blk_drewN|apply blk_drew|apply blk_alloc));refine blk_put (cs := #[.int .i64 ((rd_T36 l0 x7_2).f0), .int .i64 ((rd_T36 l0 x7_2).f1), .int .i64 ((rd_T36 l0 x7_2).f2), .int .i64 0, .int .i64 0]) ?_ 3 _ rfl;(with_reducible repeat (first|apply blk_drewN|apply blk_drew|apply blk_alloc));refine blk_put (cs := #[.int .i64 ((rd_T36 l0 x7_2).f0), .int .i64 ((rd_T36 l0 x7_2).f1), .int .i64 0, .int .i64 0, .int .i64 0]) ?_ 2 _ rfl;(with_reducible repeat (first|apply blk_drewN|apply blk_drew|apply blk_alloc));refine blk_put (cs := #[.int .i64 ((rd_T36 l0 x7_2).f0), .int .i64 0, .int .i64 0, .int .i64 0, .int .i64 0]) ?_ 1 _ rfl;(with_reducible repeat (first|apply blk_drewN|apply blk_drew|apply blk_alloc));refine blk_put (cs := #[.int .i64 0, .int .i64 0, .int .i64 0, .int .i64 0, .int .i64 0]) ?_ 0 _ rfl;(with_reducible repeat (first|apply blk_drewN|apply blk_drew|apply blk_alloc));exact BK111.out⟩, ⟨by repeat (first|(with_reducible first|exact HB.out|apply xa|apply xb|apply xc|refine below_set ?_ GE105.out|refine below_set ?_ GE106.out|refine below_set ?_ GE111.out)|exact HB.out)⟩⟩
                ·rw [if_neg c24] at H
                 have c24b0 : (((rd_T36 l0 x7_2).f2) == ((rd_T36 l0 x11_1).f2)) = false := beq_eq_false_iff_ne.mpr c24
                 have c24b1 : (((rd_T36 l0 x7_2).f2) != ((rd_T36 l0 x11_1).f2)) = true := bne_iff_ne.mpr c24
                 have H' := Aside0.mk H
                 clear H
                 have hnb30 := NB111_105.out
                 have hnc30 := NB105_111.out
                 have hnb31 := NB111_106.out
                 have hnc31 := NB106_111.out
                 have hcz32_0 : w19.cell? ⟨gb111, 0, none⟩ = some (.int .i64 0) := (blk_cell BK111.out 0).trans rfl
                 have hcz32_1 : w19.cell? ⟨gb111, 1, none⟩ = some (.int .i64 0) := (blk_cell BK111.out 1).trans rfl
                 have hcz32_2 : w19.cell? ⟨gb111, 2, none⟩ = some (.int .i64 0) := (blk_cell BK111.out 2).trans rfl
                 have hcz32_3 : w19.cell? ⟨gb111, 3, none⟩ = some (.int .i64 0) := (blk_cell BK111.out 3).trans rfl
                 have hcz32_4 : w19.cell? ⟨gb111, 4, none⟩ = some (.int .i64 0) := (blk_cell BK111.out 4).trans rfl
                 have hfz32_0 := blk_frozen BK111.out 0
                 have hfz32_1 := blk_frozen BK111.out 1
                 have hfz32_2 := blk_frozen BK111.out 2
                 have hfz32_3 := blk_frozen BK111.out 3
                 have hfz32_4 := blk_frozen BK111.out 4
                 have hnb33 := NB105_106.out
                 have hnc33 := NB106_105.out
                 have hcz34_0 : w19.cell? ⟨gb105, 0, none⟩ = some (.int .i64 ((rd_T36 l0 x11_1).f0)) := (blk_cell BK105.out 0).trans rfl
                 have hcz34_1 : w19.cell? ⟨gb105, 1, none⟩ = some (.int .i64 ((rd_T36 l0 x11_1).f1)) := (blk_cell BK105.out 1).trans rfl
                 have hcz34_2 : w19.cell? ⟨gb105, 2, none⟩ = some (.int .i64 ((rd_T36 l0 x11_1).f2)) := (blk_cell BK105.out 2).trans rfl
                 have hcz34_3 : w19.cell? ⟨gb105, 3, none⟩ = some (.int .i64 ((rd_T36 l0 x11_1).f3)) := (blk_cell BK105.out 3).trans rfl
                 have hcz34_4 : w19.cell? ⟨gb105, 4, none⟩ = some (.int .i64 ((rd_T36 l0 x11_1).f4)) := (blk_cell BK105.out 4).trans rfl
                 have hfz34_0 := blk_frozen BK105.out 0
                 have hfz34_1 := blk_frozen BK105.out 1
                 have hfz34_2 := blk_frozen BK105.out 2
                 have hfz34_3 := blk_frozen BK105.out 3
                 have hfz34_4 := blk_frozen BK105.out 4
                 go_wp2
                 go_meet
                 case rel => exact ⟨_, (false), (by first|rfl|(simp;done)|(simp [*];done)), H', ⟨by have := HK1.out;have := HK2.out;have := HJ10.out;first|omega|exact Nat.le_refl _⟩, ⟨by (with_reducible repeat (first|apply Kd.R_alloc|apply Kd.R_drewN|apply Kd.R_drew));exact Kd.R_mono (Kd.R_far (p := ⟨gb111, 4, none⟩) (Kd.R_far (p := ⟨gb111, 3, none⟩) (Kd.R_far (p := ⟨gb111, 2, none⟩) (Kd.R_far (p := ⟨gb111, 1, none⟩) (Kd.R_far (p := ⟨gb111, 0, none⟩) (Kd.R_types HO_3.out BK111.out (by decide)) (fun _ hk => hk.2) (.int .i64 ((rd_T36 l0 x7_2).f0))) (fun _ hk => hk.2) (.int .i64 ((rd_T36 l0 x7_2).f1))) (fun _ hk => hk.2) (.int .i64 ((rd_T36 l0 x7_2).f2))) (fun _ hk => hk.2) (.int .i64 ((rd_T36 l0 x7_2).f3))) (fun _ hk => hk.2) (.int .i64 ((rd_T36 l0 x7_2).f4))) (fun _ hk => hk.1)⟩, ⟨by (with_reducible repeat (first|apply blk_drewN|apply blk_drew|apply blk_alloc));refine blk_far ?_ NB105_111.out _;(with_reducible repeat (first|apply blk_drewN|apply blk_drew|apply blk_alloc));refine blk_far ?_ NB105_111.out _;(with_reducible repeat (first|apply blk_drewN|apply blk_drew|apply blk_alloc));refine blk_far ?_ NB105_111.out _;(with_reducible repeat (first|apply blk_drewN|apply blk_drew|apply blk_alloc));refine blk_far ?_ NB105_111.out _;(with_reducible repeat (first|apply blk_drewN|apply blk_drew|apply blk_alloc));refine blk_far ?_ NB105_111.out _;(with_reducible repeat (first|apply blk_drewN|apply blk_drew|apply blk_alloc));exact BK105.out⟩, ⟨by (with_reducible repeat (first|apply blk_drewN|apply blk_drew|apply blk_alloc));refine blk_far ?_ NB106_111.out _;(with_reducible repeat (first|apply blk_drewN|apply blk_drew|apply blk_alloc));refine blk_far ?_ NB106_111.out _;(with_reducible repeat (first|apply blk_drewN|apply blk_drew|apply blk_alloc));refine blk_far ?_ NB106_111.out _;(with_reducible repeat (first|apply blk_drewN|apply blk_drew|apply blk_alloc));refine blk_far ?_ NB106_111.out _;(with_reducible repeat (first|apply blk_drewN|apply blk_drew|apply blk_alloc));refine blk_far ?_ NB106_111.out _;(with_reducible repeat (first|apply blk_drewN|apply blk_drew|apply blk_alloc));exact BK106.out⟩, ⟨by (with_reducible repeat (first|apply blk_drewN|apply blk_drew|apply blk_alloc));refine blk_put (cs := #[.int .i64 ((rd_T36 l0 x7_2).f0), .int .i64 ((rd_T36 l0 x7_2).f1), .int .i64 ((rd_T36 l0 x7_2).f2), .int .i64 ((rd_T36 l0 x7_2).f3), .int .i64 0]) ?_ 4 _ rfl;(with_reducible repeat (first|apply blk_drewN|apply blk_drew|apply blk_alloc));refine blk_put (cs := #[.int .i64 ((rd_T36 l0 x7_2).f0), .int .i64 ((rd_T36 l0 x7_2).f1), .int .i64 ((rd_T36 l0 x7_2).f2), .int .i64 0, .int .i64 0]) ?_ 3 _ rfl;(with_reducible repeat (first|apply blk_drewN|apply blk_drew|apply blk_alloc));refine blk_put (cs := #[.int .i64 ((rd_T36 l0 x7_2).f0), .int .i64 ((rd_T36 l0 x7_2).f1), .int .i64 0, .int .i64 0, .int .i64 0]) ?_ 2 _ rfl;(with_reducible repeat (first|apply blk_drewN|apply blk_drew|apply blk_alloc));refine blk_put (cs := #[.int .i64 ((rd_T36 l0 x7_2).f0), .int .i64 0, .int .i64 0, .int .i64 0, .int .i64 0]) ?_ 1 _ rfl;(with_reducible repeat (first|apply blk_drewN|apply blk_drew|apply blk_alloc));refine blk_put (cs := #[.int .i64 0, .int .i64 0, .int .i64 0, .int .i64 0, .int .i64 0]) ?_ 0 _ rfl;(with_reducible repeat (first|apply blk_drewN|apply blk_drew|apply blk_alloc));exact BK111.out⟩, ⟨by repeat (first|(with_reducible first|exact HB.out|apply xa|apply xb|apply xc|refine below_set ?_ GE105.out|refine below_set ?_ GE106.out|refine below_set ?_ GE111.out)|exact HB.out)⟩⟩
               ·rw [if_neg c23] at H
                have c23b0 : (((rd_T36 l0 x7_2).f1) == ((rd_T36 l0 x11_1).f1)) = false := beq_eq_false_iff_ne.mpr c23
                have c23b1 : (((rd_T36 l0 x7_2).f1) != ((rd_T36 l0 x11_1).f1)) = true := bne_iff_ne.mpr c23
                (first|rw [c23b0]|(simp only [i64_w, i32_w];rw [c23b0])|skip)
                have H' := Aside0.mk H
                clear H
                have hnb35 := NB111_105.out
                have hnc35 := NB105_111.out
                have hnb36 := NB111_106.out
                have hnc36 := NB106_111.out
                have hcz37_0 : w19.cell? ⟨gb111, 0, none⟩ = some (.int .i64 0) := (blk_cell BK111.out 0).trans rfl
                have hcz37_1 : w19.cell? ⟨gb111, 1, none⟩ = some (.int .i64 0) := (blk_cell BK111.out 1).trans rfl
                have hcz37_2 : w19.cell? ⟨gb111, 2, none⟩ = some (.int .i64 0) := (blk_cell BK111.out 2).trans rfl
                have hcz37_3 : w19.cell? ⟨gb111, 3, none⟩ = some (.int .i64 0) := (blk_cell BK111.out 3).trans rfl
                have hcz37_4 : w19.cell? ⟨gb111, 4, none⟩ = some (.int .i64 0) := (blk_cell BK111.out 4).trans rfl
                have hfz37_0 := blk_frozen BK111.out 0
                have hfz37_1 := blk_frozen BK111.out 1
                have hfz37_2 := blk_frozen BK111.out 2
                have hfz37_3 := blk_frozen BK111.out 3
                have hfz37_4 := blk_frozen BK111.out 4
                have hnb38 := NB105_106.out
                have hnc38 := NB106_105.out
                have hcz39_0 : w19.cell? ⟨gb105, 0, none⟩ = some (.int .i64 ((rd_T36 l0 x11_1).f0)) := (blk_cell BK105.out 0).trans rfl
                have hcz39_1 : w19.cell? ⟨gb105, 1, none⟩ = some (.int .i64 ((rd_T36 l0 x11_1).f1)) := (blk_cell BK105.out 1).trans rfl
                have hcz39_2 : w19.cell? ⟨gb105, 2, none⟩ = some (.int .i64 ((rd_T36 l0 x11_1).f2)) := (blk_cell BK105.out 2).trans rfl
                have hcz39_3 : w19.cell? ⟨gb105, 3, none⟩ = some (.int .i64 ((rd_T36 l0 x11_1).f3)) := (blk_cell BK105.out 3).trans rfl
                have hcz39_4 : w19.cell? ⟨gb105, 4, none⟩ = some (.int .i64 ((rd_T36 l0 x11_1).f4)) := (blk_cell BK105.out 4).trans rfl
                have hfz39_0 := blk_frozen BK105.out 0
                have hfz39_1 := blk_frozen BK105.out 1
                have hfz39_2 := blk_frozen BK105.out 2
                have hfz39_3 := blk_frozen BK105.out 3
                have hfz39_4 := blk_frozen BK105.out 4
                go_wp2
                go_meet
                case rel => exact ⟨_, (false), (by first|rfl|(simp;done)|(simp [*];done)), H', ⟨by have := HK1.out;have := HK2.out;have := HJ10.out;first|omega|exact Nat.le_refl _⟩, ⟨by (with_reducible repeat (first|apply Kd.R_alloc|apply Kd.R_drewN|apply Kd.R_drew));exact Kd.R_mono (Kd.R_far (p := ⟨gb111, 4, none⟩) (Kd.R_far (p := ⟨gb111, 3, none⟩) (Kd.R_far (p := ⟨gb111, 2, none⟩) (Kd.R_far (p := ⟨gb111, 1, none⟩) (Kd.R_far (p := ⟨gb111, 0, none⟩) (Kd.R_types HO_3.out BK111.out (by decide)) (fun _ hk => hk.2) (.int .i64 ((rd_T36 l0 x7_2).f0))) (fun _ hk => hk.2) (.int .i64 ((rd_T36 l0 x7_2).f1))) (fun _ hk => hk.2) (.int .i64 ((rd_T36 l0 x7_2).f2))) (fun _ hk => hk.2) (.int .i64 ((rd_T36 l0 x7_2).f3))) (fun _ hk => hk.2) (.int .i64 ((rd_T36 l0 x7_2).f4))) (fun _ hk => hk.1)⟩, ⟨by (with_reducible repeat (first|apply blk_drewN|apply blk_drew|apply blk_alloc));refine blk_far ?_ NB105_111.out _;(with_reducible repeat (first|apply blk_drewN|apply blk_drew|apply blk_alloc));refine blk_far ?_ NB105_111.out _;(with_reducible repeat (first|apply blk_drewN|apply blk_drew|apply blk_alloc));refine blk_far ?_ NB105_111.out _;(with_reducible repeat (first|apply blk_drewN|apply blk_drew|apply blk_alloc));refine blk_far ?_ NB105_111.out _;(with_reducible repeat (first|apply blk_drewN|apply blk_drew|apply blk_alloc));refine blk_far ?_ NB105_111.out _;(with_reducible repeat (first|apply blk_drewN|apply blk_drew|apply blk_alloc));exact BK105.out⟩, ⟨by (with_reducible repeat (first|apply blk_drewN|apply blk_drew|apply blk_alloc));refine blk_far ?_ NB106_111.out _;(with_reducible repeat (first|apply blk_drewN|apply blk_drew|apply blk_alloc));refine blk_far ?_ NB106_111.out _;(with_reducible repeat (first|apply blk_drewN|apply blk_drew|apply blk_alloc));refine blk_far ?_ NB106_111.out _;(with_reducible repeat (first|apply blk_drewN|apply blk_drew|apply blk_alloc));refine blk_far ?_ NB106_111.out _;(with_reducible repeat (first|apply blk_drewN|apply blk_drew|apply blk_alloc));refine blk_far ?_ NB106_111.out _;(with_reducible repeat (first|apply blk_drewN|apply blk_drew|apply blk_alloc));exact BK106.out⟩, ⟨by (with_reducible repeat (first|apply blk_drewN|apply blk_drew|apply blk_alloc));refine blk_put (cs := #[.int .i64 ((rd_T36 l0 x7_2).f0), .int .i64 ((rd_T36 l0 x7_2).f1), .int .i64 ((rd_T36 l0 x7_2).f2), .int .i64 ((rd_T36 l0 x7_2).f3), .int .i64 0]) ?_ 4 _ rfl;(with_reducible repeat (first|apply blk_drewN|apply blk_drew|apply blk_alloc));refine blk_put (cs := #[.int .i64 ((rd_T36 l0 x7_2).f0), .int .i64 ((rd_T36 l0 x7_2).f1), .int .i64 ((rd_T36 l0 x7_2).f2), .int .i64 0, .int .i64 0]) ?_ 3 _ rfl;(with_reducible repeat (first|apply blk_drewN|apply blk_drew|apply blk_alloc));refine blk_put (cs := #[.int .i64 ((rd_T36 l0 x7_2).f0), .int .i64 ((rd_T36 l0 x7_2).f1), .int .i64 0, .int .i64 0, .int .i64 0]) ?_ 2 _ rfl;(with_reducible repeat (first|apply blk_drewN|apply blk_drew|apply blk_alloc));refine blk_put (cs := #[.int .i64 ((rd_T36 l0 x7_2).f0), .int .i64 0, .int .i64 0, .int .i64 0, .int .i64 0]) ?_ 1 _ rfl;(with_reducible repeat (first|apply blk_drewN|apply blk_drew|apply blk_alloc));refine blk_put (cs := #[.int .i64 0, .int .i64 0, .int .i64 0, .int .i64 0, .int .i64 0]) ?_ 0 _ rfl;(with_reducible repeat (first|apply blk_drewN|apply blk_drew|apply blk_alloc));exact BK111.out⟩, ⟨by repeat (first|(with_reducible first|exact HB.out|apply xa|apply xb|apply xc|refine below_set ?_ GE105.out|refine below_set ?_ GE106.out|refine below_set ?_ GE111.out)|exact HB.out)⟩⟩
              case rest =>
               clear HC18
               try clear c1
               try clear p1
               try clear q1
               try clear hx1
               try clear c2
               try clear c2b0
               try clear p2
               try clear c3
               try clear c3b0
               try clear c4
               try clear c4b0
               try clear c5
               try clear c5b0
               try clear c5b1
               try clear p6
               try clear c9
               try clear p10
               try clear q10
               try clear hx10
               try clear p11
               try clear q11
               try clear hx11
               try clear c12
               try clear c12b0
               try clear c13
               try clear c15
               try clear c16
               try clear c16b0
               try clear c17
               try clear c17b0
               try clear c20
               try clear c21
               try clear c23
               try clear c23b0
               try clear c23b1
               try clear c24
               try clear c24b0
               try clear c24b1
               try clear c25
               try clear c26
               try clear c28
               try clear c30
               try clear c31
               try clear c33
               try clear c35
               try clear c36
               try clear c38
               try clear hcz10_0
               try clear hcz10_1
               try clear hcz10_2
               try clear hcz10_3
               try clear hcz10_4
               try clear hcz14_0
               try clear hcz14_1
               try clear hcz14_2
               try clear hcz14_3
               try clear hcz14_4
               try clear hcz22_0
               try clear hcz22_1
               try clear hcz22_2
               try clear hcz22_3
               try clear hcz22_4
               try clear hcz27_0
               try clear hcz27_1
               try clear hcz27_2
               try clear hcz27_3
               try clear hcz27_4
               try clear hcz29_0
               try clear hcz29_1
               try clear hcz29_2
               try clear hcz29_3
               try clear hcz29_4
               try clear hcz32_0
               try clear hcz32_1
               try clear hcz32_2
               try clear hcz32_3
               try clear hcz32_4
               try clear hcz34_0
               try clear hcz34_1
               try clear hcz34_2
               try clear hcz34_3
               try clear hcz34_4
               try clear hcz37_0
               try clear hcz37_1
               try clear hcz37_2
               try clear hcz37_3
               try clear hcz37_4
               try clear hcz39_0
               try clear hcz39_1
               try clear hcz39_2
               try clear hcz39_3
               try clear hcz39_4
               try clear hcz7_0
               try clear hcz7_1
               try clear hcz7_2
               try clear hcz7_3
               try clear hcz7_4
               try clear hfz10_0
               try clear hfz10_1
               try clear hfz10_2
               try clear hfz10_3
               try clear hfz10_4
               try clear hfz14_0
               try clear hfz14_1
               try clear hfz14_2
               try clear hfz14_3
               try clear hfz14_4
               try clear hfz22_0
               try clear hfz22_1
               try clear hfz22_2
               try clear hfz22_3
               try clear hfz22_4
               try clear hfz27_0
               try clear hfz27_1
               try clear hfz27_2
               try clear hfz27_3
               try clear hfz27_4
               try clear hfz29_0
               try clear hfz29_1
               try clear hfz29_2
               try clear hfz29_3
               try clear hfz29_4
               try clear hfz32_0
               try clear hfz32_1
               try clear hfz32_2
               try clear hfz32_3
               try clear hfz32_4
               try clear hfz34_0
               try clear hfz34_1
               try clear hfz34_2
               try clear hfz34_3
               try clear hfz34_4
               try clear hfz37_0
               try clear hfz37_1
               try clear hfz37_2
               try clear hfz37_3
               try clear hfz37_4
               try clear hfz39_0
               try clear hfz39_1
               try clear hfz39_2
               try clear hfz39_3
               try clear hfz39_4
               try clear hfz7_0
               try clear hfz7_1
               try clear hfz7_2
               try clear hfz7_3
               try clear hfz7_4
               try clear hx104_0
               try clear hx104_1
               try clear hx104_2
               try clear hx104_3
               try clear hx104_4
               try clear hx110_0
               try clear hx110_1
               try clear hx110_2
               try clear hx110_3
               try clear hx110_4
               try clear p1
               try clear p10
               try clear p104
               try clear p110
               try clear p2
               try clear p6
               try clear q1
               try clear q10
               try clear q104
               try clear q110
               obtain ⟨kq, x62_17, rfl, HA, HJ17, HO_3, BK105, BK106, BK111, HB⟩ := hcut
               cases kq with
               | zero => exact absurd HA.out (by simp [pinfoldref30_Spans.j3])
               | succ kj17 =>
                have H := HA.out
                clear HA
                simp only [pinfoldref30_Spans.j3] at H
                by_cases c40 : x62_17 = true
                ·subst c40
                 have H1 : (if ((rd_T36 l0 x7_2).f1) = ((rd_T36 l0 x11_1).f1) then (if ((rd_T36 l0 x7_2).f2) = ((rd_T36 l0 x11_1).f2) then (if ((rd_T36 l0 x7_2).f0) = 3 then (pinfoldref30_Spans.l1 kj17 l0 x3_1 (wrap64 (x7_2 + 1)) l0 (l0.length : Int) x11_1 ((rd_T36 l0 x11_1).f0) ((rd_T36 l0 x11_1).f1) ((rd_T36 l0 x11_1).f2) ((rd_T36 l0 x11_1).f3) ((rd_T36 l0 x11_1).f4) ((rd_T36 l0 x11_1).f1) ((rd_T36 l0 x11_1).f2) x11_1 x7_2 (wrap64 (x107004_2 + 1))) else (pinfoldref30_Spans.l1 kj17 l0 x3_1 (wrap64 (x7_2 + 1)) l0 (l0.length : Int) x11_1 ((rd_T36 l0 x11_1).f0) ((rd_T36 l0 x11_1).f1) ((rd_T36 l0 x11_1).f2) ((rd_T36 l0 x11_1).f3) ((rd_T36 l0 x11_1).f4) ((rd_T36 l0 x11_1).f1) ((rd_T36 l0 x11_1).f2) x11_1 x7_2 x107004_2)) else (pinfoldref30_Spans.l1 kj17 l0 x3_1 (wrap64 (x7_2 + 1)) l0 (l0.length : Int) x11_1 ((rd_T36 l0 x11_1).f0) ((rd_T36 l0 x11_1).f1) ((rd_T36 l0 x11_1).f2) ((rd_T36 l0 x11_1).f3) ((rd_T36 l0 x11_1).f4) ((rd_T36 l0 x11_1).f1) ((rd_T36 l0 x11_1).f2) x11_1 x7_2 x107004_2)) else (pinfoldref30_Spans.l1 kj17 l0 x3_1 (wrap64 (x7_2 + 1)) l0 (l0.length : Int) x11_1 ((rd_T36 l0 x11_1).f0) ((rd_T36 l0 x11_1).f1) ((rd_T36 l0 x11_1).f2) ((rd_T36 l0 x11_1).f3) ((rd_T36 l0 x11_1).f4) ((rd_T36 l0 x11_1).f1) ((rd_T36 l0 x11_1).f2) x11_1 x7_2 x107004_2)) = some r := by rw [if_pos rfl] at H;exact H
                 clear H
                 have H := H1
                 clear H1
                 by_cases c41 : ((rd_T36 l0 x7_2).f1) = ((rd_T36 l0 x11_1).f1)
                 ·rw [if_pos c41] at H
                  have c41b0 : (((rd_T36 l0 x7_2).f1) == ((rd_T36 l0 x11_1).f1)) = true := beq_iff_eq.mpr c41
                  have c41b1 : (((rd_T36 l0 x7_2).f1) != ((rd_T36 l0 x11_1).f1)) = false := bne_eq_false_iff_eq.mpr c41
                  clear c41
                  by_cases c42 : ((rd_T36 l0 x7_2).f2) = ((rd_T36 l0 x11_1).f2)
                  ·rw [if_pos c42] at H
                   have c42b0 : (((rd_T36 l0 x7_2).f2) == ((rd_T36 l0 x11_1).f2)) = true := beq_iff_eq.mpr c42
                   have c42b1 : (((rd_T36 l0 x7_2).f2) != ((rd_T36 l0 x11_1).f2)) = false := bne_eq_false_iff_eq.mpr c42
                   clear c42
                   by_cases c43 : ((rd_T36 l0 x7_2).f0) = 3
                   ·rw [if_pos c43] at H
                    have c43b0 : (((rd_T36 l0 x7_2).f0) == 3) = true := beq_iff_eq.mpr c43
                    have c43b1 : (((rd_T36 l0 x7_2).f0) != 3) = false := bne_eq_false_iff_eq.mpr c43
                    clear c43
                    have H' := Aside0.mk H
                    clear H
                    have hnb44 := NB106_105.out
                    have hnc44 := NB105_106.out
                    have hnb45 := NB106_111.out
                    have hnc45 := NB111_106.out
                    have hcz46_0 : wc.cell? ⟨gb106, 0, none⟩ = some (.int .i64 ((rd_T36 l0 x11_1).f1)) := (blk_cell BK106.out 0).trans rfl
                    have hcz46_1 : wc.cell? ⟨gb106, 1, none⟩ = some (.int .i64 ((rd_T36 l0 x11_1).f2)) := (blk_cell BK106.out 1).trans rfl
                    have hcz46_2 : wc.cell? ⟨gb106, 2, none⟩ = some (.int .i64 x11_1) := (blk_cell BK106.out 2).trans rfl
                    have hcz46_3 : wc.cell? ⟨gb106, 3, none⟩ = some (.int .i64 x107003_2) := (blk_cell BK106.out 3).trans rfl
                    have hcz46_4 : wc.cell? ⟨gb106, 4, none⟩ = some (.int .i64 x107004_2) := (blk_cell BK106.out 4).trans rfl
                    have hfz46_0 := blk_frozen BK106.out 0
                    have hfz46_1 := blk_frozen BK106.out 1
                    have hfz46_2 := blk_frozen BK106.out 2
                    have hfz46_3 := blk_frozen BK106.out 3
                    have hfz46_4 := blk_frozen BK106.out 4
                    have hnb47 := NB111_105.out
                    have hnc47 := NB105_111.out
                    have hcz48_0 : wc.cell? ⟨gb111, 0, none⟩ = some (.int .i64 ((rd_T36 l0 x7_2).f0)) := (blk_cell BK111.out 0).trans rfl
                    have hcz48_1 : wc.cell? ⟨gb111, 1, none⟩ = some (.int .i64 ((rd_T36 l0 x7_2).f1)) := (blk_cell BK111.out 1).trans rfl
                    have hcz48_2 : wc.cell? ⟨gb111, 2, none⟩ = some (.int .i64 ((rd_T36 l0 x7_2).f2)) := (blk_cell BK111.out 2).trans rfl
                    have hcz48_3 : wc.cell? ⟨gb111, 3, none⟩ = some (.int .i64 ((rd_T36 l0 x7_2).f3)) := (blk_cell BK111.out 3).trans rfl
                    have hcz48_4 : wc.cell? ⟨gb111, 4, none⟩ = some (.int .i64 ((rd_T36 l0 x7_2).f4)) := (blk_cell BK111.out 4).trans rfl
                    have hfz48_0 := blk_frozen BK111.out 0
                    have hfz48_1 := blk_frozen BK111.out 1
                    have hfz48_2 := blk_frozen BK111.out 2
                    have hfz48_3 := blk_frozen BK111.out 3
                    have hfz48_4 := blk_frozen BK111.out 4
                    have hcz49_0 : wc.cell? ⟨gb105, 0, none⟩ = some (.int .i64 ((rd_T36 l0 x11_1).f0)) := (blk_cell BK105.out 0).trans rfl
                    have hcz49_1 : wc.cell? ⟨gb105, 1, none⟩ = some (.int .i64 ((rd_T36 l0 x11_1).f1)) := (blk_cell BK105.out 1).trans rfl
                    have hcz49_2 : wc.cell? ⟨gb105, 2, none⟩ = some (.int .i64 ((rd_T36 l0 x11_1).f2)) := (blk_cell BK105.out 2).trans rfl
                    have hcz49_3 : wc.cell? ⟨gb105, 3, none⟩ = some (.int .i64 ((rd_T36 l0 x11_1).f3)) := (blk_cell BK105.out 3).trans rfl
                    have hcz49_4 : wc.cell? ⟨gb105, 4, none⟩ = some (.int .i64 ((rd_T36 l0 x11_1).f4)) := (blk_cell BK105.out 4).trans rfl
                    have hfz49_0 := blk_frozen BK105.out 0
                    have hfz49_1 := blk_frozen BK105.out 1
                    have hfz49_2 := blk_frozen BK105.out 2
                    have hfz49_3 := blk_frozen BK105.out 3
                    have hfz49_4 := blk_frozen BK105.out 4
                    go_wp2
                    go_roundg kj17
                    case measure => have := HK1.out;have := HK2.out;have := HJ10.out;have := HJ17.out;omega
                    case rel => exact ⟨(wrap64 (x7_2 + 1)), (x7_2), (wrap64 (x107004_2 + 1)), (by first|rfl|(simp;done)|(simp [*];done)), H', ⟨by have := HK1.out;have := HK2.out;have := HJ10.out;have := HJ17.out;omega⟩, ⟨by (with_reducible repeat (first|apply Kd.R_alloc|apply Kd.R_drewN|apply Kd.R_drew));exact Kd.R_mono (Kd.R_far (p := ⟨gb106, 4, none⟩) (Kd.R_far (p := ⟨gb106, 3, none⟩) (Kd.R_mono HO_3.out (fun k_ hk => (⟨hk, hk⟩ : _ ∧ k_ ≠ gb106))) (fun _ hk => hk.2) (.int .i64 x7_2)) (fun _ hk => hk.2) (.int .i64 (wrap64 (x107004_2 + 1)))) (fun _ hk => hk.1)⟩, ⟨by (with_reducible repeat (first|apply blk_drewN|apply blk_drew|apply blk_alloc));refine blk_far ?_ NB105_106.out _;(with_reducible repeat (first|apply blk_drewN|apply blk_drew|apply blk_alloc));refine blk_far ?_ NB105_106.out _;(with_reducible repeat (first|apply blk_drewN|apply blk_drew|apply blk_alloc));exact BK105.out⟩, ⟨by (with_reducible repeat (first|apply blk_drewN|apply blk_drew|apply blk_alloc));refine blk_put (cs := #[.int .i64 ((rd_T36 l0 x11_1).f1), .int .i64 ((rd_T36 l0 x11_1).f2), .int .i64 x11_1, .int .i64 x7_2, .int .i64 x107004_2]) ?_ 4 _ rfl;(with_reducible repeat (first|apply blk_drewN|apply blk_drew|apply blk_alloc));refine blk_put (cs := #[.int .i64 ((rd_T36 l0 x11_1).f1), .int .i64 ((rd_T36 l0 x11_1).f2), .int .i64 x11_1, .int .i64 x107003_2, .int .i64 x107004_2]) ?_ 3 _ rfl;(with_reducible repeat (first|apply blk_drewN|apply blk_drew|apply blk_alloc));exact BK106.out⟩, ⟨by repeat (first|(with_reducible first|exact HB.out|apply xa|apply xb|apply xc|refine below_set ?_ GE105.out|refine below_set ?_ GE106.out|refine below_set ?_ GE111.out)|exact HB.out)⟩⟩
                   ·rw [if_neg c43] at H
                    have c43b0 : (((rd_T36 l0 x7_2).f0) == 3) = false := beq_eq_false_iff_ne.mpr c43
                    have c43b1 : (((rd_T36 l0 x7_2).f0) != 3) = true := bne_iff_ne.mpr c43
                    have H' := Aside0.mk H
                    clear H
                    have hnb50 := NB106_105.out
                    have hnc50 := NB105_106.out
                    have hnb51 := NB106_111.out
                    have hnc51 := NB111_106.out
                    have hcz52_0 : wc.cell? ⟨gb106, 0, none⟩ = some (.int .i64 ((rd_T36 l0 x11_1).f1)) := (blk_cell BK106.out 0).trans rfl
                    have hcz52_1 : wc.cell? ⟨gb106, 1, none⟩ = some (.int .i64 ((rd_T36 l0 x11_1).f2)) := (blk_cell BK106.out 1).trans rfl
                    have hcz52_2 : wc.cell? ⟨gb106, 2, none⟩ = some (.int .i64 x11_1) := (blk_cell BK106.out 2).trans rfl
                    have hcz52_3 : wc.cell? ⟨gb106, 3, none⟩ = some (.int .i64 x107003_2) := (blk_cell BK106.out 3).trans rfl
                    have hcz52_4 : wc.cell? ⟨gb106, 4, none⟩ = some (.int .i64 x107004_2) := (blk_cell BK106.out 4).trans rfl
                    have hfz52_0 := blk_frozen BK106.out 0
                    have hfz52_1 := blk_frozen BK106.out 1
                    have hfz52_2 := blk_frozen BK106.out 2
                    have hfz52_3 := blk_frozen BK106.out 3
                    have hfz52_4 := blk_frozen BK106.out 4
                    have hnb53 := NB111_105.out
                    have hnc53 := NB105_111.out
                    have hcz54_0 : wc.cell? ⟨gb111, 0, none⟩ = some (.int .i64 ((rd_T36 l0 x7_2).f0)) := (blk_cell BK111.out 0).trans rfl
                    have hcz54_1 : wc.cell? ⟨gb111, 1, none⟩ = some (.int .i64 ((rd_T36 l0 x7_2).f1)) := (blk_cell BK111.out 1).trans rfl
                    have hcz54_2 : wc.cell? ⟨gb111, 2, none⟩ = some (.int .i64 ((rd_T36 l0 x7_2).f2)) := (blk_cell BK111.out 2).trans rfl
                    have hcz54_3 : wc.cell? ⟨gb111, 3, none⟩ = some (.int .i64 ((rd_T36 l0 x7_2).f3)) := (blk_cell BK111.out 3).trans rfl
                    have hcz54_4 : wc.cell? ⟨gb111, 4, none⟩ = some (.int .i64 ((rd_T36 l0 x7_2).f4)) := (blk_cell BK111.out 4).trans rfl
                    have hfz54_0 := blk_frozen BK111.out 0
                    have hfz54_1 := blk_frozen BK111.out 1
                    have hfz54_2 := blk_frozen BK111.out 2
                    have hfz54_3 := blk_frozen BK111.out 3
                    have hfz54_4 := blk_frozen BK111.out 4
                    have hcz55_0 : wc.cell? ⟨gb105, 0, none⟩ = some (.int .i64 ((rd_T36 l0 x11_1).f0)) := (blk_cell BK105.out 0).trans rfl
                    have hcz55_1 : wc.cell? ⟨gb105, 1, none⟩ = some (.int .i64 ((rd_T36 l0 x11_1).f1)) := (blk_cell BK105.out 1).trans rfl
                    have hcz55_2 : wc.cell? ⟨gb105, 2, none⟩ = some (.int .i64 ((rd_T36 l0 x11_1).f2)) := (blk_cell BK105.out 2).trans rfl
                    have hcz55_3 : wc.cell? ⟨gb105, 3, none⟩ = some (.int .i64 ((rd_T36 l0 x11_1).f3)) := (blk_cell BK105.out 3).trans rfl
                    have hcz55_4 : wc.cell? ⟨gb105, 4, none⟩ = some (.int .i64 ((rd_T36 l0 x11_1).f4)) := (blk_cell BK105.out 4).trans rfl
                    have hfz55_0 := blk_frozen BK105.out 0
                    have hfz55_1 := blk_frozen BK105.out 1
                    have hfz55_2 := blk_frozen BK105.out 2
                    have hfz55_3 := blk_frozen BK105.out 3
                    have hfz55_4 := blk_frozen BK105.out 4
                    go_wp2
                    go_roundg kj17
                    case measure => have := HK1.out;have := HK2.out;have := HJ10.out;have := HJ17.out;omega
                    case rel => exact ⟨(wrap64 (x7_2 + 1)), (x7_2), (x107004_2), (by first|rfl|(simp;done)|(simp [*];done)), H', ⟨by have := HK1.out;have := HK2.out;have := HJ10.out;have := HJ17.out;omega⟩, ⟨by (with_reducible repeat (first|apply Kd.R_alloc|apply Kd.R_drewN|apply Kd.R_drew));exact Kd.R_mono (Kd.R_far (p := ⟨gb106, 3, none⟩) (Kd.R_mono HO_3.out (fun k_ hk => (⟨hk, hk⟩ : _ ∧ k_ ≠ gb106))) (fun _ hk => hk.2) (.int .i64 x7_2)) (fun _ hk => hk.1)⟩, ⟨by (with_reducible repeat (first|apply blk_drewN|apply blk_drew|apply blk_alloc));refine blk_far ?_ NB105_106.out _;(with_reducible repeat (first|apply blk_drewN|apply blk_drew|apply blk_alloc));exact BK105.out⟩, ⟨by (with_reducible repeat (first|apply blk_drewN|apply blk_drew|apply blk_alloc));refine blk_put (cs := #[.int .i64 ((rd_T36 l0 x11_1).f1), .int .i64 ((rd_T36 l0 x11_1).f2), .int .i64 x11_1, .int .i64 x107003_2, .int .i64 x107004_2]) ?_ 3 _ rfl;(with_reducible repeat (first|apply blk_drewN|apply blk_drew|apply blk_alloc));exact BK106.out⟩, ⟨by repeat (first|(with_reducible first|exact HB.out|apply xa|apply xb|apply xc|refine below_set ?_ GE105.out|refine below_set ?_ GE106.out|refine below_set ?_ GE111.out)|exact HB.out)⟩⟩
                  ·rw [if_neg c42] at H
                   have c42b0 : (((rd_T36 l0 x7_2).f2) == ((rd_T36 l0 x11_1).f2)) = false := beq_eq_false_iff_ne.mpr c42
                   have c42b1 : (((rd_T36 l0 x7_2).f2) != ((rd_T36 l0 x11_1).f2)) = true := bne_iff_ne.mpr c42
                   have H' := Aside0.mk H
                   clear H
                   have hnb56 := NB106_105.out
                   have hnc56 := NB105_106.out
                   have hnb57 := NB106_111.out
                   have hnc57 := NB111_106.out
                   have hcz58_0 : wc.cell? ⟨gb106, 0, none⟩ = some (.int .i64 ((rd_T36 l0 x11_1).f1)) := (blk_cell BK106.out 0).trans rfl
                   have hcz58_1 : wc.cell? ⟨gb106, 1, none⟩ = some (.int .i64 ((rd_T36 l0 x11_1).f2)) := (blk_cell BK106.out 1).trans rfl
                   have hcz58_2 : wc.cell? ⟨gb106, 2, none⟩ = some (.int .i64 x11_1) := (blk_cell BK106.out 2).trans rfl
                   have hcz58_3 : wc.cell? ⟨gb106, 3, none⟩ = some (.int .i64 x107003_2) := (blk_cell BK106.out 3).trans rfl
                   have hcz58_4 : wc.cell? ⟨gb106, 4, none⟩ = some (.int .i64 x107004_2) := (blk_cell BK106.out 4).trans rfl
                   have hfz58_0 := blk_frozen BK106.out 0
                   have hfz58_1 := blk_frozen BK106.out 1
                   have hfz58_2 := blk_frozen BK106.out 2
                   have hfz58_3 := blk_frozen BK106.out 3
                   have hfz58_4 := blk_frozen BK106.out 4
                   have hnb59 := NB111_105.out
                   have hnc59 := NB105_111.out
                   have hcz60_0 : wc.cell? ⟨gb111, 0, none⟩ = some (.int .i64 ((rd_T36 l0 x7_2).f0)) := (blk_cell BK111.out 0).trans rfl
                   have hcz60_1 : wc.cell? ⟨gb111, 1, none⟩ = some (.int .i64 ((rd_T36 l0 x7_2).f1)) := (blk_cell BK111.out 1).trans rfl
                   have hcz60_2 : wc.cell? ⟨gb111, 2, none⟩ = some (.int .i64 ((rd_T36 l0 x7_2).f2)) := (blk_cell BK111.out 2).trans rfl
                   have hcz60_3 : wc.cell? ⟨gb111, 3, none⟩ = some (.int .i64 ((rd_T36 l0 x7_2).f3)) := (blk_cell BK111.out 3).trans rfl
                   have hcz60_4 : wc.cell? ⟨gb111, 4, none⟩ = some (.int .i64 ((rd_T36 l0 x7_2).f4)) := (blk_cell BK111.out 4).trans rfl
                   have hfz60_0 := blk_frozen BK111.out 0
                   have hfz60_1 := blk_frozen BK111.out 1
                   have hfz60_2 := blk_frozen BK111.out 2
                   have hfz60_3 := blk_frozen BK111.out 3
                   have hfz60_4 := blk_frozen BK111.out 4
                   have hcz61_0 : wc.cell? ⟨gb105, 0, none⟩ = some (.int .i64 ((rd_T36 l0 x11_1).f0)) := (blk_cell BK105.out 0).trans rfl
                   have hcz61_1 : wc.cell? ⟨gb105, 1, none⟩ = some (.int .i64 ((rd_T36 l0 x11_1).f1)) := (blk_cell BK105.out 1).trans rfl
                   have hcz61_2 : wc.cell? ⟨gb105, 2, none⟩ = some (.int .i64 ((rd_T36 l0 x11_1).f2)) := (blk_cell BK105.out 2).trans rfl
                   have hcz61_3 : wc.cell? ⟨gb105, 3, none⟩ = some (.int .i64 ((rd_T36 l0 x11_1).f3)) := (blk_cell BK105.out 3).trans rfl
                   have hcz61_4 : wc.cell? ⟨gb105, 4, none⟩ = some (.int .i64 ((rd_T36 l0 x11_1).f4)) := (blk_cell BK105.out 4).trans rfl
                   have hfz61_0 := blk_frozen BK105.out 0
                   have hfz61_1 := blk_frozen BK105.out 1
                   have hfz61_2 := blk_frozen BK105.out 2
                   have hfz61_3 := blk_frozen BK105.out 3
                   have hfz61_4 := blk_frozen BK105.out 4
                   go_wp2
                   go_roundg kj17
                   case measure => have := HK1.out;have := HK2.out;have := HJ10.out;have := HJ17.out;omega
                   case rel => exact ⟨(wrap64 (x7_2 + 1)), (x7_2), (x107004_2), (by first|rfl|(simp;done)|(simp [*];done)), H', ⟨by have := HK1.out;have := HK2.out;have := HJ10.out;have := HJ17.out;omega⟩, ⟨by (with_reducible repeat (first|apply Kd.R_alloc|apply Kd.R_drewN|apply Kd.R_drew));exact Kd.R_mono (Kd.R_far (p := ⟨gb106, 3, none⟩) (Kd.R_mono HO_3.out (fun k_ hk => (⟨hk, hk⟩ : _ ∧ k_ ≠ gb106))) (fun _ hk => hk.2) (.int .i64 x7_2)) (fun _ hk => hk.1)⟩, ⟨by (with_reducible repeat (first|apply blk_drewN|apply blk_drew|apply blk_alloc));refine blk_far ?_ NB105_106.out _;(with_reducible repeat (first|apply blk_drewN|apply blk_drew|apply blk_alloc));exact BK105.out⟩, ⟨by (with_reducible repeat (first|apply blk_drewN|apply blk_drew|apply blk_alloc));refine blk_put (cs := #[.int .i64 ((rd_T36 l0 x11_1).f1), .int .i64 ((rd_T36 l0 x11_1).f2), .int .i64 x11_1, .int .i64 x107003_2, .int .i64 x107004_2]) ?_ 3 _ rfl;(with_reducible repeat (first|apply blk_drewN|apply blk_drew|apply blk_alloc));exact BK106.out⟩, ⟨by repeat (first|(with_reducible first|exact HB.out|apply xa|apply xb|apply xc|refine below_set ?_ GE105.out|refine below_set ?_ GE106.out|refine below_set ?_ GE111.out)|exact HB.out)⟩⟩
                 ·rw [if_neg c41] at H
                  have c41b0 : (((rd_T36 l0 x7_2).f1) == ((rd_T36 l0 x11_1).f1)) = false := beq_eq_false_iff_ne.mpr c41
                  have c41b1 : (((rd_T36 l0 x7_2).f1) != ((rd_T36 l0 x11_1).f1)) = true := bne_iff_ne.mpr c41
                  have H' := Aside0.mk H
                  clear H
                  have hnb62 := NB106_105.out
                  have hnc62 := NB105_106.out
                  have hnb63 := NB106_111.out
                  have hnc63 := NB111_106.out
                  have hcz64_0 : wc.cell? ⟨gb106, 0, none⟩ = some (.int .i64 ((rd_T36 l0 x11_1).f1)) := (blk_cell BK106.out 0).trans rfl
                  have hcz64_1 : wc.cell? ⟨gb106, 1, none⟩ = some (.int .i64 ((rd_T36 l0 x11_1).f2)) := (blk_cell BK106.out 1).trans rfl
                  have hcz64_2 : wc.cell? ⟨gb106, 2, none⟩ = some (.int .i64 x11_1) := (blk_cell BK106.out 2).trans rfl
                  have hcz64_3 : wc.cell? ⟨gb106, 3, none⟩ = some (.int .i64 x107003_2) := (blk_cell BK106.out 3).trans rfl
                  have hcz64_4 : wc.cell? ⟨gb106, 4, none⟩ = some (.int .i64 x107004_2) := (blk_cell BK106.out 4).trans rfl
                  have hfz64_0 := blk_frozen BK106.out 0
                  have hfz64_1 := blk_frozen BK106.out 1
                  have hfz64_2 := blk_frozen BK106.out 2
                  have hfz64_3 := blk_frozen BK106.out 3
                  have hfz64_4 := blk_frozen BK106.out 4
                  have hnb65 := NB111_105.out
                  have hnc65 := NB105_111.out
                  have hcz66_0 : wc.cell? ⟨gb111, 0, none⟩ = some (.int .i64 ((rd_T36 l0 x7_2).f0)) := (blk_cell BK111.out 0).trans rfl
                  have hcz66_1 : wc.cell? ⟨gb111, 1, none⟩ = some (.int .i64 ((rd_T36 l0 x7_2).f1)) := (blk_cell BK111.out 1).trans rfl
                  have hcz66_2 : wc.cell? ⟨gb111, 2, none⟩ = some (.int .i64 ((rd_T36 l0 x7_2).f2)) := (blk_cell BK111.out 2).trans rfl
                  have hcz66_3 : wc.cell? ⟨gb111, 3, none⟩ = some (.int .i64 ((rd_T36 l0 x7_2).f3)) := (blk_cell BK111.out 3).trans rfl
                  have hcz66_4 : wc.cell? ⟨gb111, 4, none⟩ = some (.int .i64 ((rd_T36 l0 x7_2).f4)) := (blk_cell BK111.out 4).trans rfl
                  have hfz66_0 := blk_frozen BK111.out 0
                  have hfz66_1 := blk_frozen BK111.out 1
                  have hfz66_2 := blk_frozen BK111.out 2
                  have hfz66_3 := blk_frozen BK111.out 3
                  have hfz66_4 := blk_frozen BK111.out 4
                  have hcz67_0 : wc.cell? ⟨gb105, 0, none⟩ = some (.int .i64 ((rd_T36 l0 x11_1).f0)) := (blk_cell BK105.out 0).trans rfl
                  have hcz67_1 : wc.cell? ⟨gb105, 1, none⟩ = some (.int .i64 ((rd_T36 l0 x11_1).f1)) := (blk_cell BK105.out 1).trans rfl
                  have hcz67_2 : wc.cell? ⟨gb105, 2, none⟩ = some (.int .i64 ((rd_T36 l0 x11_1).f2)) := (blk_cell BK105.out 2).trans rfl
                  have hcz67_3 : wc.cell? ⟨gb105, 3, none⟩ = some (.int .i64 ((rd_T36 l0 x11_1).f3)) := (blk_cell BK105.out 3).trans rfl
                  have hcz67_4 : wc.cell? ⟨gb105, 4, none⟩ = some (.int .i64 ((rd_T36 l0 x11_1).f4)) := (blk_cell BK105.out 4).trans rfl
                  have hfz67_0 := blk_frozen BK105.out 0
                  have hfz67_1 := blk_frozen BK105.out 1
                  have hfz67_2 := blk_frozen BK105.out 2
                  have hfz67_3 := blk_frozen BK105.out 3
                  have hfz67_4 := blk_frozen BK105.out 4
                  go_wp2
                  go_roundg kj17
                  case measure => have := HK1.out;have := HK2.out;have := HJ10.out;have := HJ17.out;omega
                  case rel => exact ⟨(wrap64 (x7_2 + 1)), (x7_2), (x107004_2), (by first|rfl|(simp;done)|(simp [*];done)), H', ⟨by have := HK1.out;have := HK2.out;have := HJ10.out;have := HJ17.out;omega⟩, ⟨by (with_reducible repeat (first|apply Kd.R_alloc|apply Kd.R_drewN|apply Kd.R_drew));exact Kd.R_mono (Kd.R_far (p := ⟨gb106, 3, none⟩) (Kd.R_mono HO_3.out (fun k_ hk => (⟨hk, hk⟩ : _ ∧ k_ ≠ gb106))) (fun _ hk => hk.2) (.int .i64 x7_2)) (fun _ hk => hk.1)⟩, ⟨by (with_reducible repeat (first|apply blk_drewN|apply blk_drew|apply blk_alloc));refine blk_far ?_ NB105_106.out _;(with_reducible repeat (first|apply blk_drewN|apply blk_drew|apply blk_alloc));exact BK105.out⟩, ⟨by (with_reducible repeat (first|apply blk_drewN|apply blk_drew|apply blk_alloc));refine blk_put (cs := #[.int .i64 ((rd_T36 l0 x11_1).f1), .int .i64 ((rd_T36 l0 x11_1).f2), .int .i64 x11_1, .int .i64 x107003_2, .int .i64 x107004_2]) ?_ 3 _ rfl;(with_reducible repeat (first|apply blk_drewN|apply blk_drew|apply blk_alloc));exact BK106.out⟩, ⟨by repeat (first|(with_reducible first|exact HB.out|apply xa|apply xb|apply xc|refine below_set ?_ GE105.out|refine below_set ?_ GE106.out|refine below_set ?_ GE111.out)|exact HB.out)⟩⟩
                ·replace c40 := Bool.eq_false_iff.mpr c40
                 subst c40
                 have H1 : (if ((rd_T36 l0 x7_2).f1) = ((rd_T36 l0 x11_1).f1) then (if ((rd_T36 l0 x7_2).f2) = ((rd_T36 l0 x11_1).f2) then (if ((rd_T36 l0 x7_2).f0) = 3 then (pinfoldref30_Spans.l1 kj17 l0 x3_1 (wrap64 (x7_2 + 1)) l0 (l0.length : Int) x11_1 ((rd_T36 l0 x11_1).f0) ((rd_T36 l0 x11_1).f1) ((rd_T36 l0 x11_1).f2) ((rd_T36 l0 x11_1).f3) ((rd_T36 l0 x11_1).f4) ((rd_T36 l0 x11_1).f1) ((rd_T36 l0 x11_1).f2) x11_1 x107003_2 (wrap64 (x107004_2 + 1))) else (pinfoldref30_Spans.l1 kj17 l0 x3_1 (wrap64 (x7_2 + 1)) l0 (l0.length : Int) x11_1 ((rd_T36 l0 x11_1).f0) ((rd_T36 l0 x11_1).f1) ((rd_T36 l0 x11_1).f2) ((rd_T36 l0 x11_1).f3) ((rd_T36 l0 x11_1).f4) ((rd_T36 l0 x11_1).f1) ((rd_T36 l0 x11_1).f2) x11_1 x107003_2 x107004_2)) else (pinfoldref30_Spans.l1 kj17 l0 x3_1 (wrap64 (x7_2 + 1)) l0 (l0.length : Int) x11_1 ((rd_T36 l0 x11_1).f0) ((rd_T36 l0 x11_1).f1) ((rd_T36 l0 x11_1).f2) ((rd_T36 l0 x11_1).f3) ((rd_T36 l0 x11_1).f4) ((rd_T36 l0 x11_1).f1) ((rd_T36 l0 x11_1).f2) x11_1 x107003_2 x107004_2)) else (pinfoldref30_Spans.l1 kj17 l0 x3_1 (wrap64 (x7_2 + 1)) l0 (l0.length : Int) x11_1 ((rd_T36 l0 x11_1).f0) ((rd_T36 l0 x11_1).f1) ((rd_T36 l0 x11_1).f2) ((rd_T36 l0 x11_1).f3) ((rd_T36 l0 x11_1).f4) ((rd_T36 l0 x11_1).f1) ((rd_T36 l0 x11_1).f2) x11_1 x107003_2 x107004_2)) = some r := by rw [if_neg (show ¬ (false = true) by decide)] at H;exact H
                 clear H
                 have H := H1
                 clear H1
                 by_cases c68 : ((rd_T36 l0 x7_2).f1) = ((rd_T36 l0 x11_1).f1)
                 ·rw [if_pos c68] at H
                  have c68b0 : (((rd_T36 l0 x7_2).f1) == ((rd_T36 l0 x11_1).f1)) = true := beq_iff_eq.mpr c68
                  have c68b1 : (((rd_T36 l0 x7_2).f1) != ((rd_T36 l0 x11_1).f1)) = false := bne_eq_false_iff_eq.mpr c68
                  clear c68
                  by_cases c69 : ((rd_T36 l0 x7_2).f2) = ((rd_T36 l0 x11_1).f2)
                  ·rw [if_pos c69] at H
                   have c69b0 : (((rd_T36 l0 x7_2).f2) == ((rd_T36 l0 x11_1).f2)) = true := beq_iff_eq.mpr c69
                   have c69b1 : (((rd_T36 l0 x7_2).f2) != ((rd_T36 l0 x11_1).f2)) = false := bne_eq_false_iff_eq.mpr c69
                   clear c69
                   by_cases c70 : ((rd_T36 l0 x7_2).f0) = 3
                   ·rw [if_pos c70] at H
                    have c70b0 : (((rd_T36 l0 x7_2).f0) == 3) = true := beq_iff_eq.mpr c70
                    have c70b1 : (((rd_T36 l0 x7_2).f0) != 3) = false := bne_eq_false_iff_eq.mpr c70
                    clear c70
                    have H' := Aside0.mk H
                    clear H
                    have hnb71 := NB111_105.out
                    have hnc71 := NB105_111.out
                    have hnb72 := NB111_106.out
                    have hnc72 := NB106_111.out
                    have hcz73_0 : wc.cell? ⟨gb111, 0, none⟩ = some (.int .i64 ((rd_T36 l0 x7_2).f0)) := (blk_cell BK111.out 0).trans rfl
                    have hcz73_1 : wc.cell? ⟨gb111, 1, none⟩ = some (.int .i64 ((rd_T36 l0 x7_2).f1)) := (blk_cell BK111.out 1).trans rfl
                    have hcz73_2 : wc.cell? ⟨gb111, 2, none⟩ = some (.int .i64 ((rd_T36 l0 x7_2).f2)) := (blk_cell BK111.out 2).trans rfl
                    have hcz73_3 : wc.cell? ⟨gb111, 3, none⟩ = some (.int .i64 ((rd_T36 l0 x7_2).f3)) := (blk_cell BK111.out 3).trans rfl
                    have hcz73_4 : wc.cell? ⟨gb111, 4, none⟩ = some (.int .i64 ((rd_T36 l0 x7_2).f4)) := (blk_cell BK111.out 4).trans rfl
                    have hfz73_0 := blk_frozen BK111.out 0
                    have hfz73_1 := blk_frozen BK111.out 1
                    have hfz73_2 := blk_frozen BK111.out 2
                    have hfz73_3 := blk_frozen BK111.out 3
                    have hfz73_4 := blk_frozen BK111.out 4
                    have hnb74 := NB105_106.out
                    have hnc74 := NB106_105.out
                    have hcz75_0 : wc.cell? ⟨gb105, 0, none⟩ = some (.int .i64 ((rd_T36 l0 x11_1).f0)) := (blk_cell BK105.out 0).trans rfl
                    have hcz75_1 : wc.cell? ⟨gb105, 1, none⟩ = some (.int .i64 ((rd_T36 l0 x11_1).f1)) := (blk_cell BK105.out 1).trans rfl
                    have hcz75_2 : wc.cell? ⟨gb105, 2, none⟩ = some (.int .i64 ((rd_T36 l0 x11_1).f2)) := (blk_cell BK105.out 2).trans rfl
                    have hcz75_3 : wc.cell? ⟨gb105, 3, none⟩ = some (.int .i64 ((rd_T36 l0 x11_1).f3)) := (blk_cell BK105.out 3).trans rfl
                    have hcz75_4 : wc.cell? ⟨gb105, 4, none⟩ = some (.int .i64 ((rd_T36 l0 x11_1).f4)) := (blk_cell BK105.out 4).trans rfl
                    have hfz75_0 := blk_frozen BK105.out 0
                    have hfz75_1 := blk_frozen BK105.out 1
                    have hfz75_2 := blk_frozen BK105.out 2
                    have hfz75_3 := blk_frozen BK105.out 3
                    have hfz75_4 := blk_frozen BK105.out 4
                    have hcz76_0 : wc.cell? ⟨gb106, 0, none⟩ = some (.int .i64 ((rd_T36 l0 x11_1).f1)) := (blk_cell BK106.out 0).trans rfl
                    have hcz76_1 : wc.cell? ⟨gb106, 1, none⟩ = some (.int .i64 ((rd_T36 l0 x11_1).f2)) := (blk_cell BK106.out 1).trans rfl
                    have hcz76_2 : wc.cell? ⟨gb106, 2, none⟩ = some (.int .i64 x11_1) := (blk_cell BK106.out 2).trans rfl
                    have hcz76_3 : wc.cell? ⟨gb106, 3, none⟩ = some (.int .i64 x107003_2) := (blk_cell BK106.out 3).trans rfl
                    have hcz76_4 : wc.cell? ⟨gb106, 4, none⟩ = some (.int .i64 x107004_2) := (blk_cell BK106.out 4).trans rfl
                    have hfz76_0 := blk_frozen BK106.out 0
                    have hfz76_1 := blk_frozen BK106.out 1
                    have hfz76_2 := blk_frozen BK106.out 2
                    have hfz76_3 := blk_frozen BK106.out 3
                    have hfz76_4 := blk_frozen BK106.out 4
                    go_wp2
                    go_roundg kj17
                    case measure => have := HK1.out;have := HK2.out;have := HJ10.out;have := HJ17.out;omega
                    case rel => exact ⟨(wrap64 (x7_2 + 1)), (x107003_2), (wrap64 (x107004_2 + 1)), (by first|rfl|(simp;done)|(simp [*];done)), H', ⟨by have := HK1.out;have := HK2.out;have := HJ10.out;have := HJ17.out;omega⟩, ⟨by (with_reducible repeat (first|apply Kd.R_alloc|apply Kd.R_drewN|apply Kd.R_drew));exact Kd.R_mono (Kd.R_far (p := ⟨gb106, 4, none⟩) (Kd.R_mono HO_3.out (fun k_ hk => (⟨hk, hk⟩ : _ ∧ k_ ≠ gb106))) (fun _ hk => hk.2) (.int .i64 (wrap64 (x107004_2 + 1)))) (fun _ hk => hk.1)⟩, ⟨by (with_reducible repeat (first|apply blk_drewN|apply blk_drew|apply blk_alloc));refine blk_far ?_ NB105_106.out _;(with_reducible repeat (first|apply blk_drewN|apply blk_drew|apply blk_alloc));exact BK105.out⟩, ⟨by (with_reducible repeat (first|apply blk_drewN|apply blk_drew|apply blk_alloc));refine blk_put (cs := #[.int .i64 ((rd_T36 l0 x11_1).f1), .int .i64 ((rd_T36 l0 x11_1).f2), .int .i64 x11_1, .int .i64 x107003_2, .int .i64 x107004_2]) ?_ 4 _ rfl;(with_reducible repeat (first|apply blk_drewN|apply blk_drew|apply blk_alloc));exact BK106.out⟩, ⟨by repeat (first|(with_reducible first|exact HB.out|apply xa|apply xb|apply xc|refine below_set ?_ GE105.out|refine below_set ?_ GE106.out|refine below_set ?_ GE111.out)|exact HB.out)⟩⟩
                   ·rw [if_neg c70] at H
                    have c70b0 : (((rd_T36 l0 x7_2).f0) == 3) = false := beq_eq_false_iff_ne.mpr c70
                    have c70b1 : (((rd_T36 l0 x7_2).f0) != 3) = true := bne_iff_ne.mpr c70
                    have H' := Aside0.mk H
                    clear H
                    have hnb77 := NB111_105.out
                    have hnc77 := NB105_111.out
                    have hnb78 := NB111_106.out
                    have hnc78 := NB106_111.out
                    have hcz79_0 : wc.cell? ⟨gb111, 0, none⟩ = some (.int .i64 ((rd_T36 l0 x7_2).f0)) := (blk_cell BK111.out 0).trans rfl
                    have hcz79_1 : wc.cell? ⟨gb111, 1, none⟩ = some (.int .i64 ((rd_T36 l0 x7_2).f1)) := (blk_cell BK111.out 1).trans rfl
                    have hcz79_2 : wc.cell? ⟨gb111, 2, none⟩ = some (.int .i64 ((rd_T36 l0 x7_2).f2)) := (blk_cell BK111.out 2).trans rfl
                    have hcz79_3 : wc.cell? ⟨gb111, 3, none⟩ = some (.int .i64 ((rd_T36 l0 x7_2).f3)) := (blk_cell BK111.out 3).trans rfl
                    have hcz79_4 : wc.cell? ⟨gb111, 4, none⟩ = some (.int .i64 ((rd_T36 l0 x7_2).f4)) := (blk_cell BK111.out 4).trans rfl
                    have hfz79_0 := blk_frozen BK111.out 0
                    have hfz79_1 := blk_frozen BK111.out 1
                    have hfz79_2 := blk_frozen BK111.out 2
                    have hfz79_3 := blk_frozen BK111.out 3
                    have hfz79_4 := blk_frozen BK111.out 4
                    have hnb80 := NB105_106.out
                    have hnc80 := NB106_105.out
                    have hcz81_0 : wc.cell? ⟨gb105, 0, none⟩ = some (.int .i64 ((rd_T36 l0 x11_1).f0)) := (blk_cell BK105.out 0).trans rfl
                    have hcz81_1 : wc.cell? ⟨gb105, 1, none⟩ = some (.int .i64 ((rd_T36 l0 x11_1).f1)) := (blk_cell BK105.out 1).trans rfl
                    have hcz81_2 : wc.cell? ⟨gb105, 2, none⟩ = some (.int .i64 ((rd_T36 l0 x11_1).f2)) := (blk_cell BK105.out 2).trans rfl
                    have hcz81_3 : wc.cell? ⟨gb105, 3, none⟩ = some (.int .i64 ((rd_T36 l0 x11_1).f3)) := (blk_cell BK105.out 3).trans rfl
                    have hcz81_4 : wc.cell? ⟨gb105, 4, none⟩ = some (.int .i64 ((rd_T36 l0 x11_1).f4)) := (blk_cell BK105.out 4).trans rfl
                    have hfz81_0 := blk_frozen BK105.out 0
                    have hfz81_1 := blk_frozen BK105.out 1
                    have hfz81_2 := blk_frozen BK105.out 2
                    have hfz81_3 := blk_frozen BK105.out 3
                    have hfz81_4 := blk_frozen BK105.out 4
                    go_wp2
                    go_roundg kj17
                    case measure => have := HK1.out;have := HK2.out;have := HJ10.out;have := HJ17.out;omega
                    case rel => exact ⟨(wrap64 (x7_2 + 1)), (x107003_2), (x107004_2), (by first|rfl|(simp;done)|(simp [*];done)), H', ⟨by have := HK1.out;have := HK2.out;have := HJ10.out;have := HJ17.out;omega⟩, ⟨by (with_reducible repeat (first|apply Kd.R_alloc|apply Kd.R_drewN|apply Kd.R_drew));exact HO_3.out⟩, ⟨by (with_reducible repeat (first|apply blk_drewN|apply blk_drew|apply blk_alloc));exact BK105.out⟩, ⟨by (with_reducible repeat (first|apply blk_drewN|apply blk_drew|apply blk_alloc));exact BK106.out⟩, ⟨by repeat (first|(with_reducible first|exact HB.out|apply xa|apply xb|apply xc|refine below_set ?_ GE105.out|refine below_set ?_ GE106.out|refine below_set ?_ GE111.out)|exact HB.out)⟩⟩
                  ·rw [if_neg c69] at H
                   have c69b0 : (((rd_T36 l0 x7_2).f2) == ((rd_T36 l0 x11_1).f2)) = false := beq_eq_false_iff_ne.mpr c69
                   have c69b1 : (((rd_T36 l0 x7_2).f2) != ((rd_T36 l0 x11_1).f2)) = true := bne_iff_ne.mpr c69
                   have H' := Aside0.mk H
                   clear H
                   have hnb82 := NB111_105.out
                   have hnc82 := NB105_111.out
                   have hnb83 := NB111_106.out
                   have hnc83 := NB106_111.out
                   have hcz84_0 : wc.cell? ⟨gb111, 0, none⟩ = some (.int .i64 ((rd_T36 l0 x7_2).f0)) := (blk_cell BK111.out 0).trans rfl
                   have hcz84_1 : wc.cell? ⟨gb111, 1, none⟩ = some (.int .i64 ((rd_T36 l0 x7_2).f1)) := (blk_cell BK111.out 1).trans rfl
                   have hcz84_2 : wc.cell? ⟨gb111, 2, none⟩ = some (.int .i64 ((rd_T36 l0 x7_2).f2)) := (blk_cell BK111.out 2).trans rfl
                   have hcz84_3 : wc.cell? ⟨gb111, 3, none⟩ = some (.int .i64 ((rd_T36 l0 x7_2).f3)) := (blk_cell BK111.out 3).trans rfl
                   have hcz84_4 : wc.cell? ⟨gb111, 4, none⟩ = some (.int .i64 ((rd_T36 l0 x7_2).f4)) := (blk_cell BK111.out 4).trans rfl
                   have hfz84_0 := blk_frozen BK111.out 0
                   have hfz84_1 := blk_frozen BK111.out 1
                   have hfz84_2 := blk_frozen BK111.out 2
                   have hfz84_3 := blk_frozen BK111.out 3
                   have hfz84_4 := blk_frozen BK111.out 4
                   have hnb85 := NB105_106.out
                   have hnc85 := NB106_105.out
                   have hcz86_0 : wc.cell? ⟨gb105, 0, none⟩ = some (.int .i64 ((rd_T36 l0 x11_1).f0)) := (blk_cell BK105.out 0).trans rfl
                   have hcz86_1 : wc.cell? ⟨gb105, 1, none⟩ = some (.int .i64 ((rd_T36 l0 x11_1).f1)) := (blk_cell BK105.out 1).trans rfl
                   have hcz86_2 : wc.cell? ⟨gb105, 2, none⟩ = some (.int .i64 ((rd_T36 l0 x11_1).f2)) := (blk_cell BK105.out 2).trans rfl
                   have hcz86_3 : wc.cell? ⟨gb105, 3, none⟩ = some (.int .i64 ((rd_T36 l0 x11_1).f3)) := (blk_cell BK105.out 3).trans rfl
                   have hcz86_4 : wc.cell? ⟨gb105, 4, none⟩ = some (.int .i64 ((rd_T36 l0 x11_1).f4)) := (blk_cell BK105.out 4).trans rfl
                   have hfz86_0 := blk_frozen BK105.out 0
                   have hfz86_1 := blk_frozen BK105.out 1
                   have hfz86_2 := blk_frozen BK105.out 2
                   have hfz86_3 := blk_frozen BK105.out 3
                   have hfz86_4 := blk_frozen BK105.out 4
                   go_wp2
                   go_roundg kj17
                   case measure => have := HK1.out;have := HK2.out;have := HJ10.out;have := HJ17.out;omega
                   case rel => exact ⟨(wrap64 (x7_2 + 1)), (x107003_2), (x107004_2), (by first|rfl|(simp;done)|(simp [*];done)), H', ⟨by have := HK1.out;have := HK2.out;have := HJ10.out;have := HJ17.out;omega⟩, ⟨by (with_reducible repeat (first|apply Kd.R_alloc|apply Kd.R_drewN|apply Kd.R_drew));exact HO_3.out⟩, ⟨by (with_reducible repeat (first|apply blk_drewN|apply blk_drew|apply blk_alloc));exact BK105.out⟩, ⟨by (with_reducible repeat (first|apply blk_drewN|apply blk_drew|apply blk_alloc));exact BK106.out⟩, ⟨by repeat (first|(with_reducible first|exact HB.out|apply xa|apply xb|apply xc|refine below_set ?_ GE105.out|refine below_set ?_ GE106.out|refine below_set ?_ GE111.out)|exact HB.out)⟩⟩
                 ·rw [if_neg c68] at H
                  have c68b0 : (((rd_T36 l0 x7_2).f1) == ((rd_T36 l0 x11_1).f1)) = false := beq_eq_false_iff_ne.mpr c68
                  have c68b1 : (((rd_T36 l0 x7_2).f1) != ((rd_T36 l0 x11_1).f1)) = true := bne_iff_ne.mpr c68
                  have H' := Aside0.mk H
                  clear H
                  have hnb87 := NB111_105.out
                  have hnc87 := NB105_111.out
                  have hnb88 := NB111_106.out
                  have hnc88 := NB106_111.out
                  have hcz89_0 : wc.cell? ⟨gb111, 0, none⟩ = some (.int .i64 ((rd_T36 l0 x7_2).f0)) := (blk_cell BK111.out 0).trans rfl
                  have hcz89_1 : wc.cell? ⟨gb111, 1, none⟩ = some (.int .i64 ((rd_T36 l0 x7_2).f1)) := (blk_cell BK111.out 1).trans rfl
                  have hcz89_2 : wc.cell? ⟨gb111, 2, none⟩ = some (.int .i64 ((rd_T36 l0 x7_2).f2)) := (blk_cell BK111.out 2).trans rfl
                  have hcz89_3 : wc.cell? ⟨gb111, 3, none⟩ = some (.int .i64 ((rd_T36 l0 x7_2).f3)) := (blk_cell BK111.out 3).trans rfl
                  have hcz89_4 : wc.cell? ⟨gb111, 4, none⟩ = some (.int .i64 ((rd_T36 l0 x7_2).f4)) := (blk_cell BK111.out 4).trans rfl
                  have hfz89_0 := blk_frozen BK111.out 0
                  have hfz89_1 := blk_frozen BK111.out 1
                  have hfz89_2 := blk_frozen BK111.out 2
                  have hfz89_3 := blk_frozen BK111.out 3
                  have hfz89_4 := blk_frozen BK111.out 4
                  have hnb90 := NB105_106.out
                  have hnc90 := NB106_105.out
                  have hcz91_0 : wc.cell? ⟨gb105, 0, none⟩ = some (.int .i64 ((rd_T36 l0 x11_1).f0)) := (blk_cell BK105.out 0).trans rfl
                  have hcz91_1 : wc.cell? ⟨gb105, 1, none⟩ = some (.int .i64 ((rd_T36 l0 x11_1).f1)) := (blk_cell BK105.out 1).trans rfl
                  have hcz91_2 : wc.cell? ⟨gb105, 2, none⟩ = some (.int .i64 ((rd_T36 l0 x11_1).f2)) := (blk_cell BK105.out 2).trans rfl
                  have hcz91_3 : wc.cell? ⟨gb105, 3, none⟩ = some (.int .i64 ((rd_T36 l0 x11_1).f3)) := (blk_cell BK105.out 3).trans rfl
                  have hcz91_4 : wc.cell? ⟨gb105, 4, none⟩ = some (.int .i64 ((rd_T36 l0 x11_1).f4)) := (blk_cell BK105.out 4).trans rfl
                  have hfz91_0 := blk_frozen BK105.out 0
                  have hfz91_1 := blk_frozen BK105.out 1
                  have hfz91_2 := blk_frozen BK105.out 2
                  have hfz91_3 := blk_frozen BK105.out 3
                  have hfz91_4 := blk_frozen BK105.out 4
                  go_wp2
                  go_roundg kj17
                  case measure => have := HK1.out;have := HK2.out;have := HJ10.out;have := HJ17.out;omega
                  case rel => exact ⟨(wrap64 (x7_2 + 1)), (x107003_2), (x107004_2), (by first|rfl|(simp;done)|(simp [*];done)), H', ⟨by have := HK1.out;have := HK2.out;have := HJ10.out;have := HJ17.out;omega⟩, ⟨by (with_reducible repeat (first|apply Kd.R_alloc|apply Kd.R_drewN|apply Kd.R_drew));exact HO_3.out⟩, ⟨by (with_reducible repeat (first|apply blk_drewN|apply blk_drew|apply blk_alloc));exact BK105.out⟩, ⟨by (with_reducible repeat (first|apply blk_drewN|apply blk_drew|apply blk_alloc));exact BK106.out⟩, ⟨by repeat (first|(with_reducible first|exact HB.out|apply xa|apply xb|apply xc|refine below_set ?_ GE105.out|refine below_set ?_ GE106.out|refine below_set ?_ GE111.out)|exact HB.out)⟩⟩
             ·rw [if_neg c17] at H
              exact absurd H (by simp)
            ·rw [if_neg c16] at H
             exact absurd H (by simp)
           ·replace c15 := Bool.eq_false_iff.mpr c15
            subst c15
            have H1 : (if x3_1.length < 3518437208883 then (pinfoldref30_Spans.l0 kj10 l0 (x3_1 ++ [(⟨((rd_T36 l0 x11_1).f1), ((rd_T36 l0 x11_1).f2), x11_1, x107003_2, x107004_2⟩ : S27)]) l0 (l0.length : Int) (wrap64 (x11_1 + 1))) else (none)) = some r := by rw [if_neg (show ¬ (false = true) by decide)] at H;exact H
            clear H
            have H := H1
            clear H1
            by_cases c92 : x3_1.length < 3518437208883
            ·rw [if_pos c92] at H
             have LMc92 := Aside0.mk c92
             clear c92
             obtain ⟨y107, hy107⟩ : ∃ y_ : List (S27), y_ = (x3_1 ++ [(⟨((rd_T36 l0 x11_1).f1), ((rd_T36 l0 x11_1).f2), x11_1, x107003_2, x107004_2⟩ : S27)]) := ⟨_, rfl⟩
             replace H : (pinfoldref30_Spans.l0 kj10 l0 y107 l0 (l0.length : Int) (wrap64 (x11_1 + 1))) = some r := by first|(rw [hy107];with_reducible exact H)|(have H2_ := (Option.bind_some _ _).symm.trans H;rw [hy107];with_reducible exact H2_)|(have H2_ := (Option.bind_some _ _).symm.trans H;with_reducible exact H2_)|with_reducible exact H|(rw [hy107];exact H)|exact H
             have Ny107 := Aside0.mk hy107
             clear hy107
             have H' := Aside0.mk H
             clear H
             have hnb93 := NB106_105.out
             have hnc93 := NB105_106.out
             have hcz94_0 : wc.cell? ⟨gb106, 0, none⟩ = some (.int .i64 ((rd_T36 l0 x11_1).f1)) := (blk_cell BK106.out 0).trans rfl
             have hcz94_1 : wc.cell? ⟨gb106, 1, none⟩ = some (.int .i64 ((rd_T36 l0 x11_1).f2)) := (blk_cell BK106.out 1).trans rfl
             have hcz94_2 : wc.cell? ⟨gb106, 2, none⟩ = some (.int .i64 x11_1) := (blk_cell BK106.out 2).trans rfl
             have hcz94_3 : wc.cell? ⟨gb106, 3, none⟩ = some (.int .i64 x107003_2) := (blk_cell BK106.out 3).trans rfl
             have hcz94_4 : wc.cell? ⟨gb106, 4, none⟩ = some (.int .i64 x107004_2) := (blk_cell BK106.out 4).trans rfl
             have hfz94_0 := blk_frozen BK106.out 0
             have hfz94_1 := blk_frozen BK106.out 1
             have hfz94_2 := blk_frozen BK106.out 2
             have hfz94_3 := blk_frozen BK106.out 3
             have hfz94_4 := blk_frozen BK106.out 4
             go_wp2_with (first|((with_reducible refine gate_builtin (b := .append) (xs := #[.tmp 86, .tmp 88]) rfl ?_);(try (refine gate_guard (by rfl) ?_;dsimp only));at_builtin;refine Kd.R_append k27 (w0 := w) w.heap.size rfl (.tmp 86) (.tmp 88) 24 27 (.agg #[(.int .i64 0), (.int .i64 0), (.int .i64 0), (.int .i64 0), (.int .i64 0)]) 40 rfl Try.underlying24 info27 rfl (by decide) (by omega) u3 x3_1 (⟨((rd_T36 l0 x11_1).f1), ((rd_T36 l0 x11_1).f2), x11_1, x107003_2, x107004_2⟩ : S27) [.int .i64 ((rd_T36 l0 x11_1).f1), .int .i64 ((rd_T36 l0 x11_1).f2), .int .i64 x11_1, .int .i64 x107003_2, .int .i64 x107004_2] (fun k_ => k_ ≠ gb106) (fun _ => False) rfl rfl ?aP (fun _ hk => hk.elim) ?aF ?aO ?aB ?aS ?aL ?_;(case aP => exact k27_mkM _ _ _ (⟨((rd_T36 l0 x11_1).f1), ((rd_T36 l0 x11_1).f2), x11_1, x107003_2, x107004_2⟩ : S27));(case aB => exact (by repeat (first|(with_reducible first|exact HB.out|apply xa|apply xb|apply xc|refine below_set ?_ GE105.out|refine below_set ?_ GE106.out)|exact HB.out)));(case aF => exact (fun k_ hk => Kd.freshB (g := gb106) (o := .cells #[.int .i64 ((rd_T36 l0 x11_1).f1), .int .i64 ((rd_T36 l0 x11_1).f2), .int .i64 x11_1, .int .i64 x107003_2, .int .i64 x107004_2] 27 (0, 0)) (by (with_reducible repeat (first|apply blk_drewN|apply blk_drew|apply blk_alloc));exact BK106.out) k_ hk));(case aO => exact (by (with_reducible repeat (first|apply Kd.R_alloc|apply Kd.R_drewN|apply Kd.R_drew));exact HO_3.out));(case aS => exact (below_size (by repeat (first|(with_reducible first|exact HB.out|apply xa|apply xb|apply xc|refine below_set ?_ GE105.out|refine below_set ?_ GE106.out)|exact HB.out))));(case aL => have := LMc92.out;omega);intro v108 w95 ho hb hg hat;rw [← Ny107.out] at ho;have n0_ := Aside0.mk (blk_grown (g := gb105) (o := .cells #[.int .i64 ((rd_T36 l0 x11_1).f0), .int .i64 ((rd_T36 l0 x11_1).f1), .int .i64 ((rd_T36 l0 x11_1).f2), .int .i64 ((rd_T36 l0 x11_1).f3), .int .i64 ((rd_T36 l0 x11_1).f4)] 36 (0, 0)) (by (with_reducible repeat (first|apply blk_drewN|apply blk_drew|apply blk_alloc));exact BK105.out) hg (Kd.R_ne HO_3.out BK105.out (by decide)));have n1_ := Aside0.mk (blk_grown (g := gb106) (o := .cells #[.int .i64 ((rd_T36 l0 x11_1).f1), .int .i64 ((rd_T36 l0 x11_1).f2), .int .i64 x11_1, .int .i64 x107003_2, .int .i64 x107004_2] 27 (0, 0)) (by (with_reducible repeat (first|apply blk_drewN|apply blk_drew|apply blk_alloc));exact BK106.out) hg (Kd.R_away HO_3.out (fun _ hk => hk)));have n2_ := Aside0.mk (hb);have n3_ := Aside0.mk (ho);clear BK105;clear BK106;clear HB;clear HO_3;have BK105 := n0_;have BK106 := n1_;have HB := n2_;have HO109 := n3_;clear n0_ n1_ n2_ n3_;clear ho hb hg hat))
             go_roundg kj10
             case measure => have := HK1.out;have := HK2.out;have := HJ10.out;omega
             case rel => exact ⟨(y107), (wrap64 (x11_1 + 1)), (by first|rfl|(simp;done)|(simp [*];done)), H', ⟨by have := HK1.out;have := HK2.out;have := HJ10.out;omega⟩, ⟨by (with_reducible repeat (first|apply Kd.R_alloc|apply Kd.R_drewN|apply Kd.R_drew));exact Kd.R_mono HO109.out (fun _ hk => trivial)⟩, ⟨by repeat (first|(with_reducible first|exact HB.out|apply xa|apply xb|apply xc|refine below_set ?_ GE105.out|refine below_set ?_ GE106.out)|exact HB.out)⟩⟩
            ·rw [if_neg c92] at H
             exact absurd H (by simp)
      ·rw [if_neg c5] at H
       have c5b0 : (((rd_T36 l0 x11_1).f0) == 2) = false := beq_eq_false_iff_ne.mpr c5
       have c5b1 : (((rd_T36 l0 x11_1).f0) != 2) = true := bne_iff_ne.mpr c5
       have H' := Aside0.mk H
       clear H
       have p104 : 0 ≤ (x11_1 : Int) := of_decide_eq_true (by assumption)
       have q104 : x11_1 < (l0.length : Int) := of_decide_eq_true (by assumption)
       obtain ⟨ad104, e104, hx104_0, hx104_1, hx104_2, hx104_3, hx104_4⟩ := at_T36 HR0.out x11_1 p104 q104
       cases e104
       replace hx104_0 := (HB.out.cell (World.block_lt_of_cell? w _ hx104_0)).trans hx104_0
       replace hx104_1 := (HB.out.cell (World.block_lt_of_cell? w _ hx104_1)).trans hx104_1
       replace hx104_2 := (HB.out.cell (World.block_lt_of_cell? w _ hx104_2)).trans hx104_2
       replace hx104_3 := (HB.out.cell (World.block_lt_of_cell? w _ hx104_3)).trans hx104_3
       replace hx104_4 := (HB.out.cell (World.block_lt_of_cell? w _ hx104_4)).trans hx104_4
       replace p104 := eq_true p104
       replace q104 := eq_true q104
       go_wp2_with (first|((with_reducible refine gate_dst (N := 5) rfl ?_);(try (refine gate_guard (by rfl) ?_;dsimp only));refine box_event ?hg (N := 5) ?hd (cs := #[.int .i64 0, .int .i64 0, .int .i64 0, .int .i64 0, .int .i64 0]) (t := 36) ?hr ?_;(case hd => rfl);(case hg => rfl);(case hr => first|(go_simp;done)|(go_simp;rfl));intro gb105 hg w96 hbox hb;have n0_ := Aside0.mk (Kd.R_below (by (with_reducible repeat (first|apply Kd.R_alloc|apply Kd.R_drewN|apply Kd.R_drew));exact HO_3.out) hb);have n1_ := Aside0.mk (below_step (by repeat (with_reducible first|exact HB.out|apply xa|apply xb|apply xc)) hb);have n2_ := Aside0.mk (hbox);have n3_ := Aside0.mk ((by rw [hg];exact (below_size (by repeat (with_reducible first|exact HB.out|apply xa|apply xb|apply xc))) : w.heap.size ≤ gb105));have n4_ := Aside0.mk ((by rw [hg];exact (below_size (by repeat (with_reducible first|exact HB.out|apply xa|apply xb|apply xc))) : w.heap.size ≤ gb105));clear HO_3;clear HB;have HO_3 := n0_;have HB := n1_;have BK105 := n2_;have GW105 := n3_;have GE105 := n4_;clear n0_ n1_ n2_ n3_ n4_;clear hb hbox hg;have hcz97_0 : w96.cell? ⟨gb105, 0, none⟩ = some (.int .i64 0) := (blk_cell BK105.out 0).trans rfl;have hcz97_1 : w96.cell? ⟨gb105, 1, none⟩ = some (.int .i64 0) := (blk_cell BK105.out 1).trans rfl;have hcz97_2 : w96.cell? ⟨gb105, 2, none⟩ = some (.int .i64 0) := (blk_cell BK105.out 2).trans rfl;have hcz97_3 : w96.cell? ⟨gb105, 3, none⟩ = some (.int .i64 0) := (blk_cell BK105.out 3).trans rfl;have hcz97_4 : w96.cell? ⟨gb105, 4, none⟩ = some (.int .i64 0) := (blk_cell BK105.out 4).trans rfl;have hfz97_0 := blk_frozen BK105.out 0;have hfz97_1 := blk_frozen BK105.out 1;have hfz97_2 := blk_frozen BK105.out 2;have hfz97_3 := blk_frozen BK105.out 3;have hfz97_4 := blk_frozen BK105.out 4))
       (try simp only [px_add0] at *)
       go_roundg k1
       case measure => have := HK1.out;omega
       case rel => exact ⟨(x3_1), (wrap64 (x11_1 + 1)), (by first|rfl|(simp;done)|(simp [*];done)), H', ⟨by have := HK1.out;omega⟩, ⟨by (with_reducible repeat (first|apply Kd.R_alloc|apply Kd.R_drewN|apply Kd.R_drew));exact Kd.R_mono (Kd.R_far (p := ⟨gb105, 4, none⟩) (Kd.R_far (p := ⟨gb105, 3, none⟩) (Kd.R_far (p := ⟨gb105, 2, none⟩) (Kd.R_far (p := ⟨gb105, 1, none⟩) (Kd.R_far (p := ⟨gb105, 0, none⟩) (Kd.R_types HO_3.out BK105.out (by decide)) (fun _ hk => hk.2) (.int .i64 ((rd_T36 l0 x11_1).f0))) (fun _ hk => hk.2) (.int .i64 ((rd_T36 l0 x11_1).f1))) (fun _ hk => hk.2) (.int .i64 ((rd_T36 l0 x11_1).f2))) (fun _ hk => hk.2) (.int .i64 ((rd_T36 l0 x11_1).f3))) (fun _ hk => hk.2) (.int .i64 ((rd_T36 l0 x11_1).f4))) (fun _ hk => trivial)⟩, ⟨by repeat (first|(with_reducible first|exact HB.out|apply xa|apply xb|apply xc|refine below_set ?_ GE105.out)|exact HB.out)⟩⟩
     ·rw [if_neg c4] at H
      exact absurd H (by simp)
    ·rw [if_neg c3] at H
     exact absurd H (by simp)
   ·rw [if_neg c2] at H
    have c2b0 : decide (x11_1 < (l0.length : Int)) = false := decide_eq_false c2
    clear c2
    obtain rfl := Option.some.inj H
    go_wp2
    go_ret
    exact ⟨_, by first|rfl|(simp [errW_none, errW_some] <;> rfl)|(simp [*, errW_none, errW_some] <;> rfl), by (with_reducible repeat (first|apply Kd.R_alloc|apply Kd.R_drewN|apply Kd.R_drew));exact HO_3.out, by repeat (with_reducible first|exact HB.out|apply xa|apply xb|apply xc)⟩

end Go.Proofs.Ytkegdcnnankokaa.PGan
