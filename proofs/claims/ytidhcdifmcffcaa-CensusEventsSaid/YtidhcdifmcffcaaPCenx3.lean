/- Functions of the program as Lean functions, and proofs that the code comes to their answers: printed by this session's program. -/
import Derived.Test.YtidhcdifmcffcaaPCenx0
namespace Go.Proofs.Ytidhcdifmcffcaa.PCen
open Go.RowKit Go.Proofs.YtidhcdifmcffcaaW.PrintWords Go.Proofs.YtidhcdifmcffcaaW.PrintLast Go.Proofs.YtidhcdifmcffcaaW.PrintMore
attribute [local go_sem] max2_int min2_int max_two min_two max_three min_three max_four min_four   -- for this text's walks alone
set_option linter.unusedVariables false
set_option linter.unusedSimpArgs false

/-! ### pinfoldref35_Delays: function 45 -/
mutual
def pinfoldref35_Delays.l0 : Nat → List (S84) → Int → List Int → List (S84) → Int → Int → Option (List Int)
 | 0, _, _, _, _, _, _ => none
 | k + 1, x0, x1, x5, x9, x10, x11 => if x11 < x10 then (if 0 ≤ x11 then (if x11 < (x9.length : Int) then (if ((rd_T84 x9 x11).f0) = 5 then (pinfoldref35_Delays.j1 k x0 x1 x5 x11 x9 x10 x11 (((rd_T84 x9 x11).f1) != x1)) else (pinfoldref35_Delays.j1 k x0 x1 x5 x11 x9 x10 x11 true)) else (none)) else (none)) else (some x5)
def pinfoldref35_Delays.j1 : Nat → List (S84) → Int → List Int → Int → List (S84) → Int → Int → Bool → Option (List Int)
 | 0, _, _, _, _, _, _, _, _ => none
 | k + 1, x0, x1, x5, x6, x9, x10, x11, x24 => if x24 = true then (pinfoldref35_Delays.l0 k x0 x1 x5 x9 x10 (wrap64 (x11 + 1))) else (pinfoldref35_Delays.l1 k x0 x1 x5 x6 (wrap64 (x6 + 1)) x9 x10 x11)
def pinfoldref35_Delays.l1 : Nat → List (S84) → Int → List Int → Int → Int → List (S84) → Int → Int → Option (List Int)
 | 0, _, _, _, _, _, _, _, _ => none
 | k + 1, x0, x1, x5, x6, x8, x9, x10, x11 => if x8 < (x0.length : Int) then (if 0 ≤ x8 then (if ((rd_T84 x0 x8).f1) = x1 then (if ((rd_T84 x0 x8).f0) = 2 then (if x5.length < 17592186044416 then (pinfoldref35_Delays.l0 k x0 x1 (x5 ++ [wrap64 ((wrap64 (x8 - x6)) - 1)]) x9 x10 (wrap64 (x11 + 1))) else (none)) else (if ((rd_T84 x0 x8).f0) = 5 then (pinfoldref35_Delays.l0 k x0 x1 x5 x9 x10 (wrap64 (x11 + 1))) else (if ((rd_T84 x0 x8).f0) = 7 then (pinfoldref35_Delays.l0 k x0 x1 x5 x9 x10 (wrap64 (x11 + 1))) else (if ((rd_T84 x0 x8).f0) = 6 then (pinfoldref35_Delays.l0 k x0 x1 x5 x9 x10 (wrap64 (x11 + 1))) else (if ((rd_T84 x0 x8).f0) = 13 then (pinfoldref35_Delays.l0 k x0 x1 x5 x9 x10 (wrap64 (x11 + 1))) else (pinfoldref35_Delays.l1 k x0 x1 x5 x6 (wrap64 (x8 + 1)) x9 x10 x11)))))) else (pinfoldref35_Delays.l1 k x0 x1 x5 x6 (wrap64 (x8 + 1)) x9 x10 x11)) else (none)) else (pinfoldref35_Delays.l0 k x0 x1 x5 x9 x10 (wrap64 (x11 + 1)))
end
def pinfoldref35_Delays.f (k : Nat) (l0 : List (S84)) (a1 : Int) : Option (List Int) := pinfoldref35_Delays.l0 k l0 a1 ([] : List Int) l0 (l0.length : Int) 0
theorem pinfoldref35_Delays.mono_l : ∀ k, (∀ y0 y1 y2 y3 y4 y5, LeO (pinfoldref35_Delays.l0 k y0 y1 y2 y3 y4 y5) (pinfoldref35_Delays.l0 (k + 1) y0 y1 y2 y3 y4 y5)) ∧ (∀ y0 y1 y2 y3 y4 y5 y6 y7, LeO (pinfoldref35_Delays.j1 k y0 y1 y2 y3 y4 y5 y6 y7) (pinfoldref35_Delays.j1 (k + 1) y0 y1 y2 y3 y4 y5 y6 y7)) ∧ (∀ y0 y1 y2 y3 y4 y5 y6 y7, LeO (pinfoldref35_Delays.l1 k y0 y1 y2 y3 y4 y5 y6 y7) (pinfoldref35_Delays.l1 (k + 1) y0 y1 y2 y3 y4 y5 y6 y7))
 | 0 => ⟨fun _ _ _ _ _ _ r h => by simp [pinfoldref35_Delays.l0] at h, fun _ _ _ _ _ _ _ _ r h => by simp [pinfoldref35_Delays.j1] at h, fun _ _ _ _ _ _ _ _ r h => by simp [pinfoldref35_Delays.l1] at h⟩
 | k + 1 => by
  obtain ⟨ih0, ih1, ih2⟩ := pinfoldref35_Delays.mono_l k
  refine ⟨?_, ?_, ?_⟩
  ·intro y0 y1 y2 y3 y4 y5
   unfold pinfoldref35_Delays.l0
   repeat' first
   | (with_reducible exact ih0 _ _ _ _ _ _)
   | (with_reducible exact ih1 _ _ _ _ _ _ _ _)
   | (with_reducible exact ih2 _ _ _ _ _ _ _ _)
   | (with_reducible exact LeO.refl _)
   | (with_reducible exact LeO.none _)
   | (with_reducible refine LeO.ite ?_ ?_)
   | (with_reducible refine LeO.bind ?_ (fun _ => ?_))
   | exact ih0 _ _ _ _ _ _
   | exact ih1 _ _ _ _ _ _ _ _
   | exact ih2 _ _ _ _ _ _ _ _
   | exact LeO.none _
   | refine LeO.ite ?_ ?_
   | refine LeO.bind ?_ (fun _ => ?_)
  ·intro y0 y1 y2 y3 y4 y5 y6 y7
   unfold pinfoldref35_Delays.j1
   repeat' first
   | (with_reducible exact ih0 _ _ _ _ _ _)
   | (with_reducible exact ih1 _ _ _ _ _ _ _ _)
   | (with_reducible exact ih2 _ _ _ _ _ _ _ _)
   | (with_reducible exact LeO.refl _)
   | (with_reducible exact LeO.none _)
   | (with_reducible refine LeO.ite ?_ ?_)
   | (with_reducible refine LeO.bind ?_ (fun _ => ?_))
   | exact ih0 _ _ _ _ _ _
   | exact ih1 _ _ _ _ _ _ _ _
   | exact ih2 _ _ _ _ _ _ _ _
   | exact LeO.none _
   | refine LeO.ite ?_ ?_
   | refine LeO.bind ?_ (fun _ => ?_)
  ·intro y0 y1 y2 y3 y4 y5 y6 y7
   unfold pinfoldref35_Delays.l1
   repeat' first
   | (with_reducible exact ih0 _ _ _ _ _ _)
   | (with_reducible exact ih1 _ _ _ _ _ _ _ _)
   | (with_reducible exact ih2 _ _ _ _ _ _ _ _)
   | (with_reducible exact LeO.refl _)
   | (with_reducible exact LeO.none _)
   | (with_reducible refine LeO.ite ?_ ?_)
   | (with_reducible refine LeO.bind ?_ (fun _ => ?_))
   | exact ih0 _ _ _ _ _ _
   | exact ih1 _ _ _ _ _ _ _ _
   | exact ih2 _ _ _ _ _ _ _ _
   | exact LeO.none _
   | refine LeO.ite ?_ ?_
   | refine LeO.bind ?_ (fun _ => ?_)
theorem pinfoldref35_Delays.mono : ∀ a0 a1 k, LeO (pinfoldref35_Delays.f k a0 a1) (pinfoldref35_Delays.f (k + 1) a0 a1) := by
 intro a0 a1 k
 obtain ⟨ih0, ih1, ih2⟩ := pinfoldref35_Delays.mono_l k
 unfold pinfoldref35_Delays.f
 repeat' first
   | (with_reducible exact ih0 _ _ _ _ _ _)
   | (with_reducible exact ih1 _ _ _ _ _ _ _ _)
   | (with_reducible exact ih2 _ _ _ _ _ _ _ _)
   | (with_reducible exact LeO.refl _)
   | (with_reducible exact LeO.none _)
   | (with_reducible refine LeO.ite ?_ ?_)
   | (with_reducible refine LeO.bind ?_ (fun _ => ?_))
   | exact ih0 _ _ _ _ _ _
   | exact ih1 _ _ _ _ _ _ _ _
   | exact ih2 _ _ _ _ _ _ _ _
   | exact LeO.none _
   | refine LeO.ite ?_ ?_
   | refine LeO.bind ?_ (fun _ => ?_)
set_option maxHeartbeats 8000000 in
set_option maxRecDepth 100000 in
theorem pinfoldref35_Delays.calls (k : Nat) (A0 : Option Addr) (c0 : Nat) (l0 : List (S84)) (a1 : Int) (r : List Int) (w : World) (hr0 : Kd.C k84 w A0 l0.length l0) (hc0 : l0.length ≤ c0) (h : pinfoldref35_Delays.f k l0 a1 = some r) :
  Calls Try.prog 45 #[.slice A0 l0.length c0, .int .i64 a1] w fun e w' => ∃ v0_ : Value, e = .returned (v0_) ∧ Kd.R (Kd.int .i64) 3 w' w.heap.size (fun _ => True) v0_ r ∧ Below w.heap.size w w' := by
 have hu84 := Try.underlying84
 have HR0 := Aside0.mk hr0
 have HC0 := Aside0.mk hc0
 clear hr0 hc0
 have HB := Aside0.mk (Below.refl w.heap.size w)
 have H : (pinfoldref35_Delays.l0 k l0 a1 ([] : List Int) l0 (l0.length : Int) 0) = some r := h
 clear h
 have H' := Aside0.mk H
 clear H
 go_enter Try.func45, Try.ntmps45
 go_wp2
 go_loopg [5, 11] k (fun kq v5 v11 w' => ∃ (x5_1 : List Int) (x11_1 : Int), v11 = .int .i64 x11_1 ∧ Aside0 (pinfoldref35_Delays.l0 kq l0 a1 x5_1 l0 (l0.length : Int) x11_1 = some r) ∧ Aside0 (kq ≤ k) ∧ Aside0 (Kd.R (Kd.int .i64) 3 w' w.heap.size (fun _ => True) v5 x5_1) ∧ Aside0 (Below w.heap.size w w'))
 case atStart => exact ⟨(([] : List Int)), (0), (by first|rfl|(simp;done)|(simp [*];done)), H', ⟨Nat.le_refl _⟩, ⟨by first|exact Kd.R_nil _ _ _ _ _|exact Kd.N_nil _ _ _ _ _|exact Kd.V_nil _ _ _ _ _|exact Kd.Q_nil _ _ _ _ _|exact Kd.S_nil _ _ _ _ _⟩, ⟨by repeat (with_reducible first|exact HB.out|apply xa|apply xb|apply xc)⟩⟩
 case round =>
  clear H'
  try clear p2
  obtain ⟨x5_1, x11_1, rfl, HA, HK1, HO_5, HB⟩ := hrel
  cases gk with
  | zero => exact absurd HA.out (by simp [pinfoldref35_Delays.l0])
  | succ k1 =>
   have H := HA.out
   clear HA
   simp only [pinfoldref35_Delays.l0] at H
   by_cases c3 : x11_1 < (l0.length : Int)
   ·rw [if_pos c3] at H
    have c3b0 : decide (x11_1 < (l0.length : Int)) = true := decide_eq_true c3
    clear c3
    by_cases c4 : 0 ≤ x11_1
    ·rw [if_pos c4] at H
     have c4b0 : decide (0 ≤ x11_1) = true := decide_eq_true c4
     clear c4
     by_cases c5 : x11_1 < (l0.length : Int)
     ·rw [if_pos c5] at H
      have c5b0 : decide (x11_1 < (l0.length : Int)) = true := decide_eq_true c5
      clear c5
      have HC6 := Aside0.mk H
      clear H
      have p195 : 0 ≤ (x11_1 : Int) := of_decide_eq_true (by assumption)
      have q195 : x11_1 < (l0.length : Int) := of_decide_eq_true (by assumption)
      obtain ⟨ad195, e195, hx195_0, hx195_1, hx195_2, hx195_3, hx195_4⟩ := at_T84 HR0.out x11_1 p195 q195
      cases e195
      replace hx195_0 := (HB.out.cell (World.block_lt_of_cell? w _ hx195_0)).trans hx195_0
      replace hx195_1 := (HB.out.cell (World.block_lt_of_cell? w _ hx195_1)).trans hx195_1
      replace hx195_2 := (HB.out.cell (World.block_lt_of_cell? w _ hx195_2)).trans hx195_2
      replace hx195_3 := (HB.out.cell (World.block_lt_of_cell? w _ hx195_3)).trans hx195_3
      replace hx195_4 := (HB.out.cell (World.block_lt_of_cell? w _ hx195_4)).trans hx195_4
      replace p195 := eq_true p195
      replace q195 := eq_true q195
      go_upto_region 5 with (first|((with_reducible refine gate_dst (N := 7) rfl ?_);refine box_event ?hg (N := 7) ?hd (cs := #[.int .i64 0, .int .i64 0, .int .i64 0, .int .i64 0, .int .i64 0]) (t := 84) ?hr ?_;(case hd => rfl);(case hg => rfl);(case hr => first|(go_simp;done)|(go_simp;rfl));intro gb196 hg w7 hbox hb;have n0_ := Aside0.mk (Kd.R_below (by (with_reducible repeat (first|apply Kd.R_alloc|apply Kd.R_drewN|apply Kd.R_drew));exact HO_5.out) hb);have n1_ := Aside0.mk (below_step (by repeat (with_reducible first|exact HB.out|apply xa|apply xb|apply xc)) hb);have n2_ := Aside0.mk (hbox);have n3_ := Aside0.mk ((by rw [hg];exact (below_size (by repeat (with_reducible first|exact HB.out|apply xa|apply xb|apply xc))) : w.heap.size ≤ gb196));have n4_ := Aside0.mk ((by rw [hg];exact (below_size (by repeat (with_reducible first|exact HB.out|apply xa|apply xb|apply xc))) : w.heap.size ≤ gb196));clear HO_5;clear HB;have HO_5 := n0_;have HB := n1_;have BK196 := n2_;have GW196 := n3_;have GE196 := n4_;clear n0_ n1_ n2_ n3_ n4_;clear hb hbox hg;have hcz8_0 : w7.cell? ⟨gb196, 0, none⟩ = some (.int .i64 0) := (blk_cell BK196.out 0).trans rfl;have hcz8_1 : w7.cell? ⟨gb196, 1, none⟩ = some (.int .i64 0) := (blk_cell BK196.out 1).trans rfl;have hcz8_2 : w7.cell? ⟨gb196, 2, none⟩ = some (.int .i64 0) := (blk_cell BK196.out 2).trans rfl;have hcz8_3 : w7.cell? ⟨gb196, 3, none⟩ = some (.int .i64 0) := (blk_cell BK196.out 3).trans rfl;have hcz8_4 : w7.cell? ⟨gb196, 4, none⟩ = some (.int .i64 0) := (blk_cell BK196.out 4).trans rfl;have hfz8_0 := blk_frozen BK196.out 0;have hfz8_1 := blk_frozen BK196.out 1;have hfz8_2 := blk_frozen BK196.out 2;have hfz8_3 := blk_frozen BK196.out 3;have hfz8_4 := blk_frozen BK196.out 4))
      (try simp only [Act.put, List.setIfInBounds_toArray, List.set_cons_zero, List.set_cons_succ])
      go_cut [24] (fun v24 wc => ∃ (kq : Nat) (x24_5 : Bool), v24 = .bool x24_5 ∧ Aside0 (pinfoldref35_Delays.j1 kq l0 a1 x5_1 x11_1 l0 (l0.length : Int) x11_1 x24_5 = some r) ∧ Aside0 (kq ≤ k1) ∧ Aside0 (Kd.R (Kd.int .i64) 3 wc w.heap.size (fun _ => True) u5 x5_1) ∧ Aside0 (wc.heap[gb196]? = some (.cells #[.int .i64 ((rd_T84 l0 x11_1).f0), .int .i64 ((rd_T84 l0 x11_1).f1), .int .i64 ((rd_T84 l0 x11_1).f2), .int .i64 ((rd_T84 l0 x11_1).f3), .int .i64 ((rd_T84 l0 x11_1).f4)] 84 (0, 0))) ∧ Aside0 (Below w.heap.size w wc))
      case first =>
       have H := HC6.out
       clear HC6
       by_cases c9 : ((rd_T84 l0 x11_1).f0) = 5
       ·rw [if_pos c9] at H
        have c9b0 : (((rd_T84 l0 x11_1).f0) == 5) = true := beq_iff_eq.mpr c9
        have c9b1 : (((rd_T84 l0 x11_1).f0) != 5) = false := bne_eq_false_iff_eq.mpr c9
        clear c9
        (first|rw [c9b0]|(simp only [i64_w, i32_w];rw [c9b0])|skip)
        have H' := Aside0.mk H
        clear H
        have hcz10_0 : w7.cell? ⟨gb196, 0, none⟩ = some (.int .i64 0) := (blk_cell BK196.out 0).trans rfl
        have hcz10_1 : w7.cell? ⟨gb196, 1, none⟩ = some (.int .i64 0) := (blk_cell BK196.out 1).trans rfl
        have hcz10_2 : w7.cell? ⟨gb196, 2, none⟩ = some (.int .i64 0) := (blk_cell BK196.out 2).trans rfl
        have hcz10_3 : w7.cell? ⟨gb196, 3, none⟩ = some (.int .i64 0) := (blk_cell BK196.out 3).trans rfl
        have hcz10_4 : w7.cell? ⟨gb196, 4, none⟩ = some (.int .i64 0) := (blk_cell BK196.out 4).trans rfl
        have hfz10_0 := blk_frozen BK196.out 0
        have hfz10_1 := blk_frozen BK196.out 1
        have hfz10_2 := blk_frozen BK196.out 2
        have hfz10_3 := blk_frozen BK196.out 3
        have hfz10_4 := blk_frozen BK196.out 4
        go_wp2
        go_meet
        case rel => exact ⟨_, ((((rd_T84 l0 x11_1).f1) != a1)), (by first|rfl|(simp;done)|(simp [*];done)), H', ⟨by have := HK1.out;first|omega|exact Nat.le_refl _⟩, ⟨by (with_reducible repeat (first|apply Kd.R_alloc|apply Kd.R_drewN|apply Kd.R_drew));exact Kd.R_mono (Kd.R_far (p := ⟨gb196, 4, none⟩) (Kd.R_far (p := ⟨gb196, 3, none⟩) (Kd.R_far (p := ⟨gb196, 2, none⟩) (Kd.R_far (p := ⟨gb196, 1, none⟩) (Kd.R_far (p := ⟨gb196, 0, none⟩) (Kd.R_types HO_5.out BK196.out (by decide)) (fun _ hk => hk.2) (.int .i64 ((rd_T84 l0 x11_1).f0))) (fun _ hk => hk.2) (.int .i64 ((rd_T84 l0 x11_1).f1))) (fun _ hk => hk.2) (.int .i64 ((rd_T84 l0 x11_1).f2))) (fun _ hk => hk.2) (.int .i64 ((rd_T84 l0 x11_1).f3))) (fun _ hk => hk.2) (.int .i64 ((rd_T84 l0 x11_1).f4))) (fun _ hk => trivial)⟩, ⟨by (with_reducible repeat (first|apply blk_drewN|apply blk_drew|apply blk_alloc));refine blk_put (cs := #[.int .i64 ((rd_T84 l0 x11_1).f0), .int .i64 ((rd_T84 l0 x11_1).f1), .int .i64 ((rd_T84 l0 x11_1).f2), .int .i64 ((rd_T84 l0 x11_1).f3), .int .i64 0]) ?_ 4 _ rfl;(with_reducible repeat (first|apply blk_drewN|apply blk_drew|apply blk_alloc));refine blk_put (cs := #[.int .i64 ((rd_T84 l0 x11_1).f0), .int .i64 ((rd_T84 l0 x11_1).f1), .int .i64 ((rd_T84 l0 x11_1).f2), .int .i64 0, .int .i64 0]) ?_ 3 _ rfl;(with_reducible repeat (first|apply blk_drewN|apply blk_drew|apply blk_alloc));refine blk_put (cs := #[.int .i64 ((rd_T84 l0 x11_1).f0), .int .i64 ((rd_T84 l0 x11_1).f1), .int .i64 0, .int .i64 0, .int .i64 0]) ?_ 2 _ rfl;(with_reducible repeat (first|apply blk_drewN|apply blk_drew|apply blk_alloc));refine blk_put (cs := #[.int .i64 ((rd_T84 l0 x11_1).f0), .int .i64 0, .int .i64 0, .int .i64 0, .int .i64 0]) ?_ 1 _ rfl;(with_reducible repeat (first|apply blk_drewN|apply blk_drew|apply blk_alloc));refine blk_put (cs := #[.int .i64 0, .int .i64 0, .int .i64 0, .int .i64 0, .int .i64 0]) ?_ 0 _ rfl;(with_reducible repeat (first|apply blk_drewN|apply blk_drew|apply blk_alloc));exact BK196.out⟩, ⟨by repeat (first|(with_reducible first|exact HB.out|apply xa|apply xb|apply xc|refine below_set ?_ GE196.out)|exact HB.out)⟩⟩
       ·rw [if_neg c9] at H
        have c9b0 : (((rd_T84 l0 x11_1).f0) == 5) = false := beq_eq_false_iff_ne.mpr c9
        have c9b1 : (((rd_T84 l0 x11_1).f0) != 5) = true := bne_iff_ne.mpr c9
        (first|rw [c9b0]|(simp only [i64_w, i32_w];rw [c9b0])|skip)
        have H' := Aside0.mk H
        clear H
        have hcz11_0 : w7.cell? ⟨gb196, 0, none⟩ = some (.int .i64 0) := (blk_cell BK196.out 0).trans rfl
        have hcz11_1 : w7.cell? ⟨gb196, 1, none⟩ = some (.int .i64 0) := (blk_cell BK196.out 1).trans rfl
        have hcz11_2 : w7.cell? ⟨gb196, 2, none⟩ = some (.int .i64 0) := (blk_cell BK196.out 2).trans rfl
        have hcz11_3 : w7.cell? ⟨gb196, 3, none⟩ = some (.int .i64 0) := (blk_cell BK196.out 3).trans rfl
        have hcz11_4 : w7.cell? ⟨gb196, 4, none⟩ = some (.int .i64 0) := (blk_cell BK196.out 4).trans rfl
        have hfz11_0 := blk_frozen BK196.out 0
        have hfz11_1 := blk_frozen BK196.out 1
        have hfz11_2 := blk_frozen BK196.out 2
        have hfz11_3 := blk_frozen BK196.out 3
        have hfz11_4 := blk_frozen BK196.out 4
        go_wp2
        go_meet
        case rel => exact ⟨_, (true), (by first|rfl|(simp;done)|(simp [*];done)), H', ⟨by have := HK1.out;first|omega|exact Nat.le_refl _⟩, ⟨by (with_reducible repeat (first|apply Kd.R_alloc|apply Kd.R_drewN|apply Kd.R_drew));exact Kd.R_mono (Kd.R_far (p := ⟨gb196, 4, none⟩) (Kd.R_far (p := ⟨gb196, 3, none⟩) (Kd.R_far (p := ⟨gb196, 2, none⟩) (Kd.R_far (p := ⟨gb196, 1, none⟩) (Kd.R_far (p := ⟨gb196, 0, none⟩) (Kd.R_types HO_5.out BK196.out (by decide)) (fun _ hk => hk.2) (.int .i64 ((rd_T84 l0 x11_1).f0))) (fun _ hk => hk.2) (.int .i64 ((rd_T84 l0 x11_1).f1))) (fun _ hk => hk.2) (.int .i64 ((rd_T84 l0 x11_1).f2))) (fun _ hk => hk.2) (.int .i64 ((rd_T84 l0 x11_1).f3))) (fun _ hk => hk.2) (.int .i64 ((rd_T84 l0 x11_1).f4))) (fun _ hk => trivial)⟩, ⟨by (with_reducible repeat (first|apply blk_drewN|apply blk_drew|apply blk_alloc));refine blk_put (cs := #[.int .i64 ((rd_T84 l0 x11_1).f0), .int .i64 ((rd_T84 l0 x11_1).f1), .int .i64 ((rd_T84 l0 x11_1).f2), .int .i64 ((rd_T84 l0 x11_1).f3), .int .i64 0]) ?_ 4 _ rfl;(with_reducible repeat (first|apply blk_drewN|apply blk_drew|apply blk_alloc));refine blk_put (cs := #[.int .i64 ((rd_T84 l0 x11_1).f0), .int .i64 ((rd_T84 l0 x11_1).f1), .int .i64 ((rd_T84 l0 x11_1).f2), .int .i64 0, .int .i64 0]) ?_ 3 _ rfl;(with_reducible repeat (first|apply blk_drewN|apply blk_drew|apply blk_alloc));refine blk_put (cs := #[.int .i64 ((rd_T84 l0 x11_1).f0), .int .i64 ((rd_T84 l0 x11_1).f1), .int .i64 0, .int .i64 0, .int .i64 0]) ?_ 2 _ rfl;(with_reducible repeat (first|apply blk_drewN|apply blk_drew|apply blk_alloc));refine blk_put (cs := #[.int .i64 ((rd_T84 l0 x11_1).f0), .int .i64 0, .int .i64 0, .int .i64 0, .int .i64 0]) ?_ 1 _ rfl;(with_reducible repeat (first|apply blk_drewN|apply blk_drew|apply blk_alloc));refine blk_put (cs := #[.int .i64 0, .int .i64 0, .int .i64 0, .int .i64 0, .int .i64 0]) ?_ 0 _ rfl;(with_reducible repeat (first|apply blk_drewN|apply blk_drew|apply blk_alloc));exact BK196.out⟩, ⟨by repeat (first|(with_reducible first|exact HB.out|apply xa|apply xb|apply xc|refine below_set ?_ GE196.out)|exact HB.out)⟩⟩
      case rest =>
       clear HC6
       try clear p1
       try clear q1
       try clear hx1
       try clear p2
       try clear c3
       try clear c3b0
       try clear c4
       try clear c4b0
       try clear c5
       try clear c5b0
       try clear c9
       try clear c9b0
       try clear c9b1
       try clear hcz10_0
       try clear hcz10_1
       try clear hcz10_2
       try clear hcz10_3
       try clear hcz10_4
       try clear hcz11_0
       try clear hcz11_1
       try clear hcz11_2
       try clear hcz11_3
       try clear hcz11_4
       try clear hcz8_0
       try clear hcz8_1
       try clear hcz8_2
       try clear hcz8_3
       try clear hcz8_4
       try clear hfz10_0
       try clear hfz10_1
       try clear hfz10_2
       try clear hfz10_3
       try clear hfz10_4
       try clear hfz11_0
       try clear hfz11_1
       try clear hfz11_2
       try clear hfz11_3
       try clear hfz11_4
       try clear hfz8_0
       try clear hfz8_1
       try clear hfz8_2
       try clear hfz8_3
       try clear hfz8_4
       try clear hx195_0
       try clear hx195_1
       try clear hx195_2
       try clear hx195_3
       try clear hx195_4
       try clear p195
       try clear p2
       try clear q195
       obtain ⟨kq, x24_5, rfl, HA, HJ5, HO_5, BK196, HB⟩ := hcut
       cases kq with
       | zero => exact absurd HA.out (by simp [pinfoldref35_Delays.j1])
       | succ kj5 =>
        have H := HA.out
        clear HA
        simp only [pinfoldref35_Delays.j1] at H
        by_cases c12 : x24_5 = true
        ·subst c12
         have H1 : (pinfoldref35_Delays.l0 kj5 l0 a1 x5_1 l0 (l0.length : Int) (wrap64 (x11_1 + 1))) = some r := by rw [if_pos rfl] at H;exact H
         clear H
         have H := H1
         clear H1
         have H' := Aside0.mk H
         clear H
         go_wp2
         go_roundg kj5
         case measure => have := HK1.out;have := HJ5.out;omega
         case rel => exact ⟨(x5_1), (wrap64 (x11_1 + 1)), (by first|rfl|(simp;done)|(simp [*];done)), H', ⟨by have := HK1.out;have := HJ5.out;omega⟩, ⟨by (with_reducible repeat (first|apply Kd.R_alloc|apply Kd.R_drewN|apply Kd.R_drew));exact HO_5.out⟩, ⟨by repeat (first|(with_reducible first|exact HB.out|apply xa|apply xb|apply xc|refine below_set ?_ GE196.out)|exact HB.out)⟩⟩
        ·replace c12 := Bool.eq_false_iff.mpr c12
         subst c12
         have H1 : (pinfoldref35_Delays.l1 kj5 l0 a1 x5_1 x11_1 (wrap64 (x11_1 + 1)) l0 (l0.length : Int) x11_1) = some r := by rw [if_neg (show ¬ (false = true) by decide)] at H;exact H
         clear H
         have H := H1
         clear H1
         have H' := Aside0.mk H
         clear H
         go_wp2
         go_loopg [5, 8] kj5 (fun kq v5 v8 w' => ∃ (x5_3 : List Int) (x8_3 : Int), v8 = .int .i64 x8_3 ∧ Aside0 (pinfoldref35_Delays.l1 kq l0 a1 x5_3 x11_1 x8_3 l0 (l0.length : Int) x11_1 = some r) ∧ Aside0 (kq ≤ kj5) ∧ Aside0 (Kd.R (Kd.int .i64) 3 w' w.heap.size (fun _ => True) v5 x5_3) ∧ Aside0 (w'.heap[gb196]? = some (.cells #[.int .i64 ((rd_T84 l0 x11_1).f0), .int .i64 ((rd_T84 l0 x11_1).f1), .int .i64 ((rd_T84 l0 x11_1).f2), .int .i64 ((rd_T84 l0 x11_1).f3), .int .i64 ((rd_T84 l0 x11_1).f4)] 84 (0, 0))) ∧ Aside0 (Below w.heap.size w w'))
         case atStart => exact ⟨(x5_1), (wrap64 (x11_1 + 1)), (by first|rfl|(simp;done)|(simp [*];done)), H', ⟨Nat.le_refl _⟩, ⟨by (with_reducible repeat (first|apply Kd.R_alloc|apply Kd.R_drewN|apply Kd.R_drew));exact HO_5.out⟩, ⟨by (with_reducible repeat (first|apply blk_drewN|apply blk_drew|apply blk_alloc));exact BK196.out⟩, ⟨by repeat (first|(with_reducible first|exact HB.out|apply xa|apply xb|apply xc|refine below_set ?_ GE196.out)|exact HB.out)⟩⟩
         case round =>
          clear H'
          try clear c1
          try clear p1
          try clear q1
          try clear hx1
          try clear p2
          try clear c3
          try clear c3b0
          try clear c4
          try clear c4b0
          try clear c5
          try clear c5b0
          try clear p6
          try clear c9
          try clear c9b0
          try clear c9b1
          try clear c12
          try clear hcz10_0
          try clear hcz10_1
          try clear hcz10_2
          try clear hcz10_3
          try clear hcz10_4
          try clear hcz11_0
          try clear hcz11_1
          try clear hcz11_2
          try clear hcz11_3
          try clear hcz11_4
          try clear hcz8_0
          try clear hcz8_1
          try clear hcz8_2
          try clear hcz8_3
          try clear hcz8_4
          try clear hfz10_0
          try clear hfz10_1
          try clear hfz10_2
          try clear hfz10_3
          try clear hfz10_4
          try clear hfz11_0
          try clear hfz11_1
          try clear hfz11_2
          try clear hfz11_3
          try clear hfz11_4
          try clear hfz8_0
          try clear hfz8_1
          try clear hfz8_2
          try clear hfz8_3
          try clear hfz8_4
          try clear hx195_0
          try clear hx195_1
          try clear hx195_2
          try clear hx195_3
          try clear hx195_4
          try clear p1
          try clear p195
          try clear p2
          try clear q1
          try clear q195
          obtain ⟨x5_3, x8_3, rfl, HA, HK3, HO_5, BK196, HB⟩ := hrel
          cases gk with
          | zero => exact absurd HA.out (by simp [pinfoldref35_Delays.l1])
          | succ k3 =>
           have H := HA.out
           clear HA
           simp only [pinfoldref35_Delays.l1] at H
           by_cases c13 : x8_3 < (l0.length : Int)
           ·rw [if_pos c13] at H
            have c13b0 : decide (x8_3 < (l0.length : Int)) = true := decide_eq_true c13
            clear c13
            by_cases c14 : 0 ≤ x8_3
            ·rw [if_pos c14] at H
             have c14b0 : decide (0 ≤ x8_3) = true := decide_eq_true c14
             clear c14
             by_cases c15 : ((rd_T84 l0 x8_3).f1) = a1
             ·rw [if_pos c15] at H
              have c15b0 : (((rd_T84 l0 x8_3).f1) == a1) = true := beq_iff_eq.mpr c15
              have c15b1 : (((rd_T84 l0 x8_3).f1) != a1) = false := bne_eq_false_iff_eq.mpr c15
              clear c15
              by_cases c16 : ((rd_T84 l0 x8_3).f0) = 2
              ·rw [if_pos c16] at H
               have c16b0 : (((rd_T84 l0 x8_3).f0) == 2) = true := beq_iff_eq.mpr c16
               have c16b1 : (((rd_T84 l0 x8_3).f0) != 2) = false := bne_eq_false_iff_eq.mpr c16
               clear c16
               by_cases c17 : x5_3.length < 17592186044416
               ·rw [if_pos c17] at H
                have LMc17 := Aside0.mk c17
                clear c17
                obtain ⟨y199, hy199⟩ : ∃ y_ : List Int, y_ = (x5_3 ++ [wrap64 ((wrap64 (x8_3 - x11_1)) - 1)]) := ⟨_, rfl⟩
                replace H : (pinfoldref35_Delays.l0 k3 l0 a1 y199 l0 (l0.length : Int) (wrap64 (x11_1 + 1))) = some r := by first|(rw [hy199];with_reducible exact H)|(have H2_ := (Option.bind_some _ _).symm.trans H;rw [hy199];with_reducible exact H2_)|(have H2_ := (Option.bind_some _ _).symm.trans H;with_reducible exact H2_)|with_reducible exact H|(rw [hy199];exact H)|exact H
                have Ny199 := Aside0.mk hy199
                clear hy199
                have H' := Aside0.mk H
                clear H
                have p197 : 0 ≤ (x8_3 : Int) := of_decide_eq_true (by assumption)
                have q197 : x8_3 < (l0.length : Int) := of_decide_eq_true (by assumption)
                obtain ⟨ad197, e197, hx197_0, hx197_1, hx197_2, hx197_3, hx197_4⟩ := at_T84 HR0.out x8_3 p197 q197
                obtain rfl : ad195 = ad197 := (by injection e197)
                replace hx197_0 := (HB.out.cell (World.block_lt_of_cell? w _ hx197_0)).trans hx197_0
                replace hx197_1 := (HB.out.cell (World.block_lt_of_cell? w _ hx197_1)).trans hx197_1
                replace hx197_2 := (HB.out.cell (World.block_lt_of_cell? w _ hx197_2)).trans hx197_2
                replace hx197_3 := (HB.out.cell (World.block_lt_of_cell? w _ hx197_3)).trans hx197_3
                replace hx197_4 := (HB.out.cell (World.block_lt_of_cell? w _ hx197_4)).trans hx197_4
                replace p197 := eq_true p197
                replace q197 := eq_true q197
                have p198 : 0 ≤ (x8_3 : Int) := of_decide_eq_true (by assumption)
                have q198 : x8_3 < (l0.length : Int) := of_decide_eq_true (by assumption)
                obtain ⟨ad198, e198, hx198_0, hx198_1, hx198_2, hx198_3, hx198_4⟩ := at_T84 HR0.out x8_3 p198 q198
                obtain rfl : ad195 = ad198 := (by injection e198)
                replace hx198_0 := (HB.out.cell (World.block_lt_of_cell? w _ hx198_0)).trans hx198_0
                replace hx198_1 := (HB.out.cell (World.block_lt_of_cell? w _ hx198_1)).trans hx198_1
                replace hx198_2 := (HB.out.cell (World.block_lt_of_cell? w _ hx198_2)).trans hx198_2
                replace hx198_3 := (HB.out.cell (World.block_lt_of_cell? w _ hx198_3)).trans hx198_3
                replace hx198_4 := (HB.out.cell (World.block_lt_of_cell? w _ hx198_4)).trans hx198_4
                replace p198 := eq_true p198
                replace q198 := eq_true q198
                go_wp2_with (first|((with_reducible refine gate_builtin (b := .append) (xs := #[.tmp 46, .tmp 51]) rfl ?_);at_builtin;refine Kd.R_append (Kd.int .i64) (w0 := w) w.heap.size rfl (.tmp 46) (.tmp 51) 29 3 (.int .i64 0) 8 rfl Try.underlying29 info3 rfl (by decide) (by omega) u5 x5_3 (wrap64 ((wrap64 (x8_3 - x11_1)) - 1)) [.int .i64 (wrap64 ((wrap64 (x8_3 - x11_1)) - 1))] (fun _ => True) (fun _ => False) rfl rfl ?aP (fun _ hk => hk.elim) ?aF ?aO ?aB ?aS ?aL ?_;(case aP => exact rfl);(case aB => exact (by repeat (first|(with_reducible first|exact HB.out|apply xa|apply xb|apply xc|refine below_set ?_ GE196.out)|exact HB.out)));(case aF => exact (fun _ _ => trivial));(case aO => exact (by (with_reducible repeat (first|apply Kd.R_alloc|apply Kd.R_drewN|apply Kd.R_drew));exact HO_5.out));(case aS => exact (below_size (by repeat (first|(with_reducible first|exact HB.out|apply xa|apply xb|apply xc|refine below_set ?_ GE196.out)|exact HB.out))));(case aL => have := LMc17.out;omega);intro v200 w18 ho hb hg hat;rw [← Ny199.out] at ho;have n0_ := Aside0.mk (blk_grown (g := gb196) (o := .cells #[.int .i64 ((rd_T84 l0 x11_1).f0), .int .i64 ((rd_T84 l0 x11_1).f1), .int .i64 ((rd_T84 l0 x11_1).f2), .int .i64 ((rd_T84 l0 x11_1).f3), .int .i64 ((rd_T84 l0 x11_1).f4)] 84 (0, 0)) (by (with_reducible repeat (first|apply blk_drewN|apply blk_drew|apply blk_alloc));exact BK196.out) hg (Kd.R_ne HO_5.out BK196.out (by decide)));have n1_ := Aside0.mk (hb);have n2_ := Aside0.mk (ho);clear BK196;clear HB;clear HO_5;have BK196 := n0_;have HB := n1_;have HO201 := n2_;clear n0_ n1_ n2_;clear ho hb hg hat;have p202 : 0 ≤ (x8_3 : Int) := of_decide_eq_true (by assumption);have q202 : x8_3 < (l0.length : Int) := of_decide_eq_true (by assumption);obtain ⟨ad202, e202, hx202_0, hx202_1, hx202_2, hx202_3, hx202_4⟩ := at_T84 HR0.out x8_3 p202 q202;obtain rfl : ad195 = ad202 := (by injection e202);replace hx202_0 := (HB.out.cell (World.block_lt_of_cell? w _ hx202_0)).trans hx202_0;replace hx202_1 := (HB.out.cell (World.block_lt_of_cell? w _ hx202_1)).trans hx202_1;replace hx202_2 := (HB.out.cell (World.block_lt_of_cell? w _ hx202_2)).trans hx202_2;replace hx202_3 := (HB.out.cell (World.block_lt_of_cell? w _ hx202_3)).trans hx202_3;replace hx202_4 := (HB.out.cell (World.block_lt_of_cell? w _ hx202_4)).trans hx202_4;replace p202 := eq_true p202;replace q202 := eq_true q202))
                (try simp only [px_add0] at *)
                go_roundg k3
                case measure => have := HK1.out;have := HJ5.out;have := HK3.out;omega
                case rel => exact ⟨(y199), (wrap64 (x11_1 + 1)), (by first|rfl|(simp;done)|(simp [*];done)), H', ⟨by have := HK1.out;have := HJ5.out;have := HK3.out;omega⟩, ⟨by (with_reducible repeat (first|apply Kd.R_alloc|apply Kd.R_drewN|apply Kd.R_drew));exact HO201.out⟩, ⟨by repeat (first|(with_reducible first|exact HB.out|apply xa|apply xb|apply xc|refine below_set ?_ GE196.out)|exact HB.out)⟩⟩
               ·rw [if_neg c17] at H
                exact absurd H (by simp)
              ·rw [if_neg c16] at H
               have c16b0 : (((rd_T84 l0 x8_3).f0) == 2) = false := beq_eq_false_iff_ne.mpr c16
               have c16b1 : (((rd_T84 l0 x8_3).f0) != 2) = true := bne_iff_ne.mpr c16
               by_cases c19 : ((rd_T84 l0 x8_3).f0) = 5
               ·rw [if_pos c19] at H
                have c19b0 : (((rd_T84 l0 x8_3).f0) == 5) = true := beq_iff_eq.mpr c19
                have c19b1 : (((rd_T84 l0 x8_3).f0) != 5) = false := bne_eq_false_iff_eq.mpr c19
                clear c19
                have H' := Aside0.mk H
                clear H
                have p197 : 0 ≤ (x8_3 : Int) := of_decide_eq_true (by assumption)
                have q197 : x8_3 < (l0.length : Int) := of_decide_eq_true (by assumption)
                obtain ⟨ad197, e197, hx197_0, hx197_1, hx197_2, hx197_3, hx197_4⟩ := at_T84 HR0.out x8_3 p197 q197
                obtain rfl : ad195 = ad197 := (by injection e197)
                replace hx197_0 := (HB.out.cell (World.block_lt_of_cell? w _ hx197_0)).trans hx197_0
                replace hx197_1 := (HB.out.cell (World.block_lt_of_cell? w _ hx197_1)).trans hx197_1
                replace hx197_2 := (HB.out.cell (World.block_lt_of_cell? w _ hx197_2)).trans hx197_2
                replace hx197_3 := (HB.out.cell (World.block_lt_of_cell? w _ hx197_3)).trans hx197_3
                replace hx197_4 := (HB.out.cell (World.block_lt_of_cell? w _ hx197_4)).trans hx197_4
                replace p197 := eq_true p197
                replace q197 := eq_true q197
                have p198 : 0 ≤ (x8_3 : Int) := of_decide_eq_true (by assumption)
                have q198 : x8_3 < (l0.length : Int) := of_decide_eq_true (by assumption)
                obtain ⟨ad198, e198, hx198_0, hx198_1, hx198_2, hx198_3, hx198_4⟩ := at_T84 HR0.out x8_3 p198 q198
                obtain rfl : ad195 = ad198 := (by injection e198)
                replace hx198_0 := (HB.out.cell (World.block_lt_of_cell? w _ hx198_0)).trans hx198_0
                replace hx198_1 := (HB.out.cell (World.block_lt_of_cell? w _ hx198_1)).trans hx198_1
                replace hx198_2 := (HB.out.cell (World.block_lt_of_cell? w _ hx198_2)).trans hx198_2
                replace hx198_3 := (HB.out.cell (World.block_lt_of_cell? w _ hx198_3)).trans hx198_3
                replace hx198_4 := (HB.out.cell (World.block_lt_of_cell? w _ hx198_4)).trans hx198_4
                replace p198 := eq_true p198
                replace q198 := eq_true q198
                have p203 : 0 ≤ (x8_3 : Int) := of_decide_eq_true (by assumption)
                have q203 : x8_3 < (l0.length : Int) := of_decide_eq_true (by assumption)
                obtain ⟨ad203, e203, hx203_0, hx203_1, hx203_2, hx203_3, hx203_4⟩ := at_T84 HR0.out x8_3 p203 q203
                obtain rfl : ad195 = ad203 := (by injection e203)
                replace hx203_0 := (HB.out.cell (World.block_lt_of_cell? w _ hx203_0)).trans hx203_0
                replace hx203_1 := (HB.out.cell (World.block_lt_of_cell? w _ hx203_1)).trans hx203_1
                replace hx203_2 := (HB.out.cell (World.block_lt_of_cell? w _ hx203_2)).trans hx203_2
                replace hx203_3 := (HB.out.cell (World.block_lt_of_cell? w _ hx203_3)).trans hx203_3
                replace hx203_4 := (HB.out.cell (World.block_lt_of_cell? w _ hx203_4)).trans hx203_4
                replace p203 := eq_true p203
                replace q203 := eq_true q203
                have p204 : 0 ≤ (x8_3 : Int) := of_decide_eq_true (by assumption)
                have q204 : x8_3 < (l0.length : Int) := of_decide_eq_true (by assumption)
                obtain ⟨ad204, e204, hx204_0, hx204_1, hx204_2, hx204_3, hx204_4⟩ := at_T84 HR0.out x8_3 p204 q204
                obtain rfl : ad195 = ad204 := (by injection e204)
                replace hx204_0 := (HB.out.cell (World.block_lt_of_cell? w _ hx204_0)).trans hx204_0
                replace hx204_1 := (HB.out.cell (World.block_lt_of_cell? w _ hx204_1)).trans hx204_1
                replace hx204_2 := (HB.out.cell (World.block_lt_of_cell? w _ hx204_2)).trans hx204_2
                replace hx204_3 := (HB.out.cell (World.block_lt_of_cell? w _ hx204_3)).trans hx204_3
                replace hx204_4 := (HB.out.cell (World.block_lt_of_cell? w _ hx204_4)).trans hx204_4
                replace p204 := eq_true p204
                replace q204 := eq_true q204
                go_wp2
                (try simp only [px_add0] at *)
                go_roundg k3
                case measure => have := HK1.out;have := HJ5.out;have := HK3.out;omega
                case rel => exact ⟨(x5_3), (wrap64 (x11_1 + 1)), (by first|rfl|(simp;done)|(simp [*];done)), H', ⟨by have := HK1.out;have := HJ5.out;have := HK3.out;omega⟩, ⟨by (with_reducible repeat (first|apply Kd.R_alloc|apply Kd.R_drewN|apply Kd.R_drew));exact HO_5.out⟩, ⟨by repeat (first|(with_reducible first|exact HB.out|apply xa|apply xb|apply xc|refine below_set ?_ GE196.out)|exact HB.out)⟩⟩
               ·rw [if_neg c19] at H
                have c19b0 : (((rd_T84 l0 x8_3).f0) == 5) = false := beq_eq_false_iff_ne.mpr c19
                have c19b1 : (((rd_T84 l0 x8_3).f0) != 5) = true := bne_iff_ne.mpr c19
                by_cases c20 : ((rd_T84 l0 x8_3).f0) = 7
                ·rw [if_pos c20] at H
                 have c20b0 : (((rd_T84 l0 x8_3).f0) == 7) = true := beq_iff_eq.mpr c20
                 have c20b1 : (((rd_T84 l0 x8_3).f0) != 7) = false := bne_eq_false_iff_eq.mpr c20
                 clear c20
                 have H' := Aside0.mk H
                 clear H
                 have p197 : 0 ≤ (x8_3 : Int) := of_decide_eq_true (by assumption)
                 have q197 : x8_3 < (l0.length : Int) := of_decide_eq_true (by assumption)
                 obtain ⟨ad197, e197, hx197_0, hx197_1, hx197_2, hx197_3, hx197_4⟩ := at_T84 HR0.out x8_3 p197 q197
                 obtain rfl : ad195 = ad197 := (by injection e197)
                 replace hx197_0 := (HB.out.cell (World.block_lt_of_cell? w _ hx197_0)).trans hx197_0
                 replace hx197_1 := (HB.out.cell (World.block_lt_of_cell? w _ hx197_1)).trans hx197_1
                 replace hx197_2 := (HB.out.cell (World.block_lt_of_cell? w _ hx197_2)).trans hx197_2
                 replace hx197_3 := (HB.out.cell (World.block_lt_of_cell? w _ hx197_3)).trans hx197_3
                 replace hx197_4 := (HB.out.cell (World.block_lt_of_cell? w _ hx197_4)).trans hx197_4
                 replace p197 := eq_true p197
                 replace q197 := eq_true q197
                 have p198 : 0 ≤ (x8_3 : Int) := of_decide_eq_true (by assumption)
                 have q198 : x8_3 < (l0.length : Int) := of_decide_eq_true (by assumption)
                 obtain ⟨ad198, e198, hx198_0, hx198_1, hx198_2, hx198_3, hx198_4⟩ := at_T84 HR0.out x8_3 p198 q198
                 obtain rfl : ad195 = ad198 := (by injection e198)
                 replace hx198_0 := (HB.out.cell (World.block_lt_of_cell? w _ hx198_0)).trans hx198_0
                 replace hx198_1 := (HB.out.cell (World.block_lt_of_cell? w _ hx198_1)).trans hx198_1
                 replace hx198_2 := (HB.out.cell (World.block_lt_of_cell? w _ hx198_2)).trans hx198_2
                 replace hx198_3 := (HB.out.cell (World.block_lt_of_cell? w _ hx198_3)).trans hx198_3
                 replace hx198_4 := (HB.out.cell (World.block_lt_of_cell? w _ hx198_4)).trans hx198_4
                 replace p198 := eq_true p198
                 replace q198 := eq_true q198
                 have p203 : 0 ≤ (x8_3 : Int) := of_decide_eq_true (by assumption)
                 have q203 : x8_3 < (l0.length : Int) := of_decide_eq_true (by assumption)
                 obtain ⟨ad203, e203, hx203_0, hx203_1, hx203_2, hx203_3, hx203_4⟩ := at_T84 HR0.out x8_3 p203 q203
                 obtain rfl : ad195 = ad203 := (by injection e203)
                 replace hx203_0 := (HB.out.cell (World.block_lt_of_cell? w _ hx203_0)).trans hx203_0
                 replace hx203_1 := (HB.out.cell (World.block_lt_of_cell? w _ hx203_1)).trans hx203_1
                 replace hx203_2 := (HB.out.cell (World.block_lt_of_cell? w _ hx203_2)).trans hx203_2
                 replace hx203_3 := (HB.out.cell (World.block_lt_of_cell? w _ hx203_3)).trans hx203_3
                 replace hx203_4 := (HB.out.cell (World.block_lt_of_cell? w _ hx203_4)).trans hx203_4
                 replace p203 := eq_true p203
                 replace q203 := eq_true q203
                 have p204 : 0 ≤ (x8_3 : Int) := of_decide_eq_true (by assumption)
                 have q204 : x8_3 < (l0.length : Int) := of_decide_eq_true (by assumption)
                 obtain ⟨ad204, e204, hx204_0, hx204_1, hx204_2, hx204_3, hx204_4⟩ := at_T84 HR0.out x8_3 p204 q204
                 obtain rfl : ad195 = ad204 := (by injection e204)
                 replace hx204_0 := (HB.out.cell (World.block_lt_of_cell? w _ hx204_0)).trans hx204_0
                 replace hx204_1 := (HB.out.cell (World.block_lt_of_cell? w _ hx204_1)).trans hx204_1
                 replace hx204_2 := (HB.out.cell (World.block_lt_of_cell? w _ hx204_2)).trans hx204_2
                 replace hx204_3 := (HB.out.cell (World.block_lt_of_cell? w _ hx204_3)).trans hx204_3
                 replace hx204_4 := (HB.out.cell (World.block_lt_of_cell? w _ hx204_4)).trans hx204_4
                 replace p204 := eq_true p204
                 replace q204 := eq_true q204
                 have p205 : 0 ≤ (x8_3 : Int) := of_decide_eq_true (by assumption)
                 have q205 : x8_3 < (l0.length : Int) := of_decide_eq_true (by assumption)
                 obtain ⟨ad205, e205, hx205_0, hx205_1, hx205_2, hx205_3, hx205_4⟩ := at_T84 HR0.out x8_3 p205 q205
                 obtain rfl : ad195 = ad205 := (by injection e205)
                 replace hx205_0 := (HB.out.cell (World.block_lt_of_cell? w _ hx205_0)).trans hx205_0
                 replace hx205_1 := (HB.out.cell (World.block_lt_of_cell? w _ hx205_1)).trans hx205_1
                 replace hx205_2 := (HB.out.cell (World.block_lt_of_cell? w _ hx205_2)).trans hx205_2
                 replace hx205_3 := (HB.out.cell (World.block_lt_of_cell? w _ hx205_3)).trans hx205_3
                 replace hx205_4 := (HB.out.cell (World.block_lt_of_cell? w _ hx205_4)).trans hx205_4
                 replace p205 := eq_true p205
                 replace q205 := eq_true q205
                 go_wp2
                 (try simp only [px_add0] at *)
                 go_roundg k3
                 case measure => have := HK1.out;have := HJ5.out;have := HK3.out;omega
                 case rel => exact ⟨(x5_3), (wrap64 (x11_1 + 1)), (by first|rfl|(simp;done)|(simp [*];done)), H', ⟨by have := HK1.out;have := HJ5.out;have := HK3.out;omega⟩, ⟨by (with_reducible repeat (first|apply Kd.R_alloc|apply Kd.R_drewN|apply Kd.R_drew));exact HO_5.out⟩, ⟨by repeat (first|(with_reducible first|exact HB.out|apply xa|apply xb|apply xc|refine below_set ?_ GE196.out)|exact HB.out)⟩⟩
                ·rw [if_neg c20] at H
                 have c20b0 : (((rd_T84 l0 x8_3).f0) == 7) = false := beq_eq_false_iff_ne.mpr c20
                 have c20b1 : (((rd_T84 l0 x8_3).f0) != 7) = true := bne_iff_ne.mpr c20
                 by_cases c21 : ((rd_T84 l0 x8_3).f0) = 6
                 ·rw [if_pos c21] at H
                  have c21b0 : (((rd_T84 l0 x8_3).f0) == 6) = true := beq_iff_eq.mpr c21
                  have c21b1 : (((rd_T84 l0 x8_3).f0) != 6) = false := bne_eq_false_iff_eq.mpr c21
                  clear c21
                  have H' := Aside0.mk H
                  clear H
                  have p197 : 0 ≤ (x8_3 : Int) := of_decide_eq_true (by assumption)
                  have q197 : x8_3 < (l0.length : Int) := of_decide_eq_true (by assumption)
                  obtain ⟨ad197, e197, hx197_0, hx197_1, hx197_2, hx197_3, hx197_4⟩ := at_T84 HR0.out x8_3 p197 q197
                  obtain rfl : ad195 = ad197 := (by injection e197)
                  replace hx197_0 := (HB.out.cell (World.block_lt_of_cell? w _ hx197_0)).trans hx197_0
                  replace hx197_1 := (HB.out.cell (World.block_lt_of_cell? w _ hx197_1)).trans hx197_1
                  replace hx197_2 := (HB.out.cell (World.block_lt_of_cell? w _ hx197_2)).trans hx197_2
                  replace hx197_3 := (HB.out.cell (World.block_lt_of_cell? w _ hx197_3)).trans hx197_3
                  replace hx197_4 := (HB.out.cell (World.block_lt_of_cell? w _ hx197_4)).trans hx197_4
                  replace p197 := eq_true p197
                  replace q197 := eq_true q197
                  have p198 : 0 ≤ (x8_3 : Int) := of_decide_eq_true (by assumption)
                  have q198 : x8_3 < (l0.length : Int) := of_decide_eq_true (by assumption)
                  obtain ⟨ad198, e198, hx198_0, hx198_1, hx198_2, hx198_3, hx198_4⟩ := at_T84 HR0.out x8_3 p198 q198
                  obtain rfl : ad195 = ad198 := (by injection e198)
                  replace hx198_0 := (HB.out.cell (World.block_lt_of_cell? w _ hx198_0)).trans hx198_0
                  replace hx198_1 := (HB.out.cell (World.block_lt_of_cell? w _ hx198_1)).trans hx198_1
                  replace hx198_2 := (HB.out.cell (World.block_lt_of_cell? w _ hx198_2)).trans hx198_2
                  replace hx198_3 := (HB.out.cell (World.block_lt_of_cell? w _ hx198_3)).trans hx198_3
                  replace hx198_4 := (HB.out.cell (World.block_lt_of_cell? w _ hx198_4)).trans hx198_4
                  replace p198 := eq_true p198
                  replace q198 := eq_true q198
                  have p203 : 0 ≤ (x8_3 : Int) := of_decide_eq_true (by assumption)
                  have q203 : x8_3 < (l0.length : Int) := of_decide_eq_true (by assumption)
                  obtain ⟨ad203, e203, hx203_0, hx203_1, hx203_2, hx203_3, hx203_4⟩ := at_T84 HR0.out x8_3 p203 q203
                  obtain rfl : ad195 = ad203 := (by injection e203)
                  replace hx203_0 := (HB.out.cell (World.block_lt_of_cell? w _ hx203_0)).trans hx203_0
                  replace hx203_1 := (HB.out.cell (World.block_lt_of_cell? w _ hx203_1)).trans hx203_1
                  replace hx203_2 := (HB.out.cell (World.block_lt_of_cell? w _ hx203_2)).trans hx203_2
                  replace hx203_3 := (HB.out.cell (World.block_lt_of_cell? w _ hx203_3)).trans hx203_3
                  replace hx203_4 := (HB.out.cell (World.block_lt_of_cell? w _ hx203_4)).trans hx203_4
                  replace p203 := eq_true p203
                  replace q203 := eq_true q203
                  have p204 : 0 ≤ (x8_3 : Int) := of_decide_eq_true (by assumption)
                  have q204 : x8_3 < (l0.length : Int) := of_decide_eq_true (by assumption)
                  obtain ⟨ad204, e204, hx204_0, hx204_1, hx204_2, hx204_3, hx204_4⟩ := at_T84 HR0.out x8_3 p204 q204
                  obtain rfl : ad195 = ad204 := (by injection e204)
                  replace hx204_0 := (HB.out.cell (World.block_lt_of_cell? w _ hx204_0)).trans hx204_0
                  replace hx204_1 := (HB.out.cell (World.block_lt_of_cell? w _ hx204_1)).trans hx204_1
                  replace hx204_2 := (HB.out.cell (World.block_lt_of_cell? w _ hx204_2)).trans hx204_2
                  replace hx204_3 := (HB.out.cell (World.block_lt_of_cell? w _ hx204_3)).trans hx204_3
                  replace hx204_4 := (HB.out.cell (World.block_lt_of_cell? w _ hx204_4)).trans hx204_4
                  replace p204 := eq_true p204
                  replace q204 := eq_true q204
                  have p205 : 0 ≤ (x8_3 : Int) := of_decide_eq_true (by assumption)
                  have q205 : x8_3 < (l0.length : Int) := of_decide_eq_true (by assumption)
                  obtain ⟨ad205, e205, hx205_0, hx205_1, hx205_2, hx205_3, hx205_4⟩ := at_T84 HR0.out x8_3 p205 q205
                  obtain rfl : ad195 = ad205 := (by injection e205)
                  replace hx205_0 := (HB.out.cell (World.block_lt_of_cell? w _ hx205_0)).trans hx205_0
                  replace hx205_1 := (HB.out.cell (World.block_lt_of_cell? w _ hx205_1)).trans hx205_1
                  replace hx205_2 := (HB.out.cell (World.block_lt_of_cell? w _ hx205_2)).trans hx205_2
                  replace hx205_3 := (HB.out.cell (World.block_lt_of_cell? w _ hx205_3)).trans hx205_3
                  replace hx205_4 := (HB.out.cell (World.block_lt_of_cell? w _ hx205_4)).trans hx205_4
                  replace p205 := eq_true p205
                  replace q205 := eq_true q205
                  have p206 : 0 ≤ (x8_3 : Int) := of_decide_eq_true (by assumption)
                  have q206 : x8_3 < (l0.length : Int) := of_decide_eq_true (by assumption)
                  obtain ⟨ad206, e206, hx206_0, hx206_1, hx206_2, hx206_3, hx206_4⟩ := at_T84 HR0.out x8_3 p206 q206
                  obtain rfl : ad195 = ad206 := (by injection e206)
                  replace hx206_0 := (HB.out.cell (World.block_lt_of_cell? w _ hx206_0)).trans hx206_0
                  replace hx206_1 := (HB.out.cell (World.block_lt_of_cell? w _ hx206_1)).trans hx206_1
                  replace hx206_2 := (HB.out.cell (World.block_lt_of_cell? w _ hx206_2)).trans hx206_2
                  replace hx206_3 := (HB.out.cell (World.block_lt_of_cell? w _ hx206_3)).trans hx206_3
                  replace hx206_4 := (HB.out.cell (World.block_lt_of_cell? w _ hx206_4)).trans hx206_4
                  replace p206 := eq_true p206
                  replace q206 := eq_true q206
                  go_wp2
                  (try simp only [px_add0] at *)
                  go_roundg k3
                  case measure => have := HK1.out;have := HJ5.out;have := HK3.out;omega
                  case rel => exact ⟨(x5_3), (wrap64 (x11_1 + 1)), (by first|rfl|(simp;done)|(simp [*];done)), H', ⟨by have := HK1.out;have := HJ5.out;have := HK3.out;omega⟩, ⟨by (with_reducible repeat (first|apply Kd.R_alloc|apply Kd.R_drewN|apply Kd.R_drew));exact HO_5.out⟩, ⟨by repeat (first|(with_reducible first|exact HB.out|apply xa|apply xb|apply xc|refine below_set ?_ GE196.out)|exact HB.out)⟩⟩
                 ·rw [if_neg c21] at H
                  have c21b0 : (((rd_T84 l0 x8_3).f0) == 6) = false := beq_eq_false_iff_ne.mpr c21
                  have c21b1 : (((rd_T84 l0 x8_3).f0) != 6) = true := bne_iff_ne.mpr c21
                  by_cases c22 : ((rd_T84 l0 x8_3).f0) = 13
                  ·rw [if_pos c22] at H
                   have c22b0 : (((rd_T84 l0 x8_3).f0) == 13) = true := beq_iff_eq.mpr c22
                   have c22b1 : (((rd_T84 l0 x8_3).f0) != 13) = false := bne_eq_false_iff_eq.mpr c22
                   clear c22
                   have H' := Aside0.mk H
                   clear H
                   have p197 : 0 ≤ (x8_3 : Int) := of_decide_eq_true (by assumption)
                   have q197 : x8_3 < (l0.length : Int) := of_decide_eq_true (by assumption)
                   obtain ⟨ad197, e197, hx197_0, hx197_1, hx197_2, hx197_3, hx197_4⟩ := at_T84 HR0.out x8_3 p197 q197
                   obtain rfl : ad195 = ad197 := (by injection e197)
                   replace hx197_0 := (HB.out.cell (World.block_lt_of_cell? w _ hx197_0)).trans hx197_0
                   replace hx197_1 := (HB.out.cell (World.block_lt_of_cell? w _ hx197_1)).trans hx197_1
                   replace hx197_2 := (HB.out.cell (World.block_lt_of_cell? w _ hx197_2)).trans hx197_2
                   replace hx197_3 := (HB.out.cell (World.block_lt_of_cell? w _ hx197_3)).trans hx197_3
                   replace hx197_4 := (HB.out.cell (World.block_lt_of_cell? w _ hx197_4)).trans hx197_4
                   replace p197 := eq_true p197
                   replace q197 := eq_true q197
                   have p198 : 0 ≤ (x8_3 : Int) := of_decide_eq_true (by assumption)
                   have q198 : x8_3 < (l0.length : Int) := of_decide_eq_true (by assumption)
                   obtain ⟨ad198, e198, hx198_0, hx198_1, hx198_2, hx198_3, hx198_4⟩ := at_T84 HR0.out x8_3 p198 q198
                   obtain rfl : ad195 = ad198 := (by injection e198)
                   replace hx198_0 := (HB.out.cell (World.block_lt_of_cell? w _ hx198_0)).trans hx198_0
                   replace hx198_1 := (HB.out.cell (World.block_lt_of_cell? w _ hx198_1)).trans hx198_1
                   replace hx198_2 := (HB.out.cell (World.block_lt_of_cell? w _ hx198_2)).trans hx198_2
                   replace hx198_3 := (HB.out.cell (World.block_lt_of_cell? w _ hx198_3)).trans hx198_3
                   replace hx198_4 := (HB.out.cell (World.block_lt_of_cell? w _ hx198_4)).trans hx198_4
                   replace p198 := eq_true p198
                   replace q198 := eq_true q198
                   have p203 : 0 ≤ (x8_3 : Int) := of_decide_eq_true (by assumption)
                   have q203 : x8_3 < (l0.length : Int) := of_decide_eq_true (by assumption)
                   obtain ⟨ad203, e203, hx203_0, hx203_1, hx203_2, hx203_3, hx203_4⟩ := at_T84 HR0.out x8_3 p203 q203
                   obtain rfl : ad195 = ad203 := (by injection e203)
                   replace hx203_0 := (HB.out.cell (World.block_lt_of_cell? w _ hx203_0)).trans hx203_0
                   replace hx203_1 := (HB.out.cell (World.block_lt_of_cell? w _ hx203_1)).trans hx203_1
                   replace hx203_2 := (HB.out.cell (World.block_lt_of_cell? w _ hx203_2)).trans hx203_2
                   replace hx203_3 := (HB.out.cell (World.block_lt_of_cell? w _ hx203_3)).trans hx203_3
                   replace hx203_4 := (HB.out.cell (World.block_lt_of_cell? w _ hx203_4)).trans hx203_4
                   replace p203 := eq_true p203
                   replace q203 := eq_true q203
                   have p204 : 0 ≤ (x8_3 : Int) := of_decide_eq_true (by assumption)
                   have q204 : x8_3 < (l0.length : Int) := of_decide_eq_true (by assumption)
                   obtain ⟨ad204, e204, hx204_0, hx204_1, hx204_2, hx204_3, hx204_4⟩ := at_T84 HR0.out x8_3 p204 q204
                   obtain rfl : ad195 = ad204 := (by injection e204)
                   replace hx204_0 := (HB.out.cell (World.block_lt_of_cell? w _ hx204_0)).trans hx204_0
                   replace hx204_1 := (HB.out.cell (World.block_lt_of_cell? w _ hx204_1)).trans hx204_1
                   replace hx204_2 := (HB.out.cell (World.block_lt_of_cell? w _ hx204_2)).trans hx204_2
                   replace hx204_3 := (HB.out.cell (World.block_lt_of_cell? w _ hx204_3)).trans hx204_3
                   replace hx204_4 := (HB.out.cell (World.block_lt_of_cell? w _ hx204_4)).trans hx204_4
                   replace p204 := eq_true p204
                   replace q204 := eq_true q204
                   have p205 : 0 ≤ (x8_3 : Int) := of_decide_eq_true (by assumption)
                   have q205 : x8_3 < (l0.length : Int) := of_decide_eq_true (by assumption)
                   obtain ⟨ad205, e205, hx205_0, hx205_1, hx205_2, hx205_3, hx205_4⟩ := at_T84 HR0.out x8_3 p205 q205
                   obtain rfl : ad195 = ad205 := (by injection e205)
                   replace hx205_0 := (HB.out.cell (World.block_lt_of_cell? w _ hx205_0)).trans hx205_0
                   replace hx205_1 := (HB.out.cell (World.block_lt_of_cell? w _ hx205_1)).trans hx205_1
                   replace hx205_2 := (HB.out.cell (World.block_lt_of_cell? w _ hx205_2)).trans hx205_2
                   replace hx205_3 := (HB.out.cell (World.block_lt_of_cell? w _ hx205_3)).trans hx205_3
                   replace hx205_4 := (HB.out.cell (World.block_lt_of_cell? w _ hx205_4)).trans hx205_4
                   replace p205 := eq_true p205
                   replace q205 := eq_true q205
                   have p206 : 0 ≤ (x8_3 : Int) := of_decide_eq_true (by assumption)
                   have q206 : x8_3 < (l0.length : Int) := of_decide_eq_true (by assumption)
                   obtain ⟨ad206, e206, hx206_0, hx206_1, hx206_2, hx206_3, hx206_4⟩ := at_T84 HR0.out x8_3 p206 q206
                   obtain rfl : ad195 = ad206 := (by injection e206)
                   replace hx206_0 := (HB.out.cell (World.block_lt_of_cell? w _ hx206_0)).trans hx206_0
                   replace hx206_1 := (HB.out.cell (World.block_lt_of_cell? w _ hx206_1)).trans hx206_1
                   replace hx206_2 := (HB.out.cell (World.block_lt_of_cell? w _ hx206_2)).trans hx206_2
                   replace hx206_3 := (HB.out.cell (World.block_lt_of_cell? w _ hx206_3)).trans hx206_3
                   replace hx206_4 := (HB.out.cell (World.block_lt_of_cell? w _ hx206_4)).trans hx206_4
                   replace p206 := eq_true p206
                   replace q206 := eq_true q206
                   have p207 : 0 ≤ (x8_3 : Int) := of_decide_eq_true (by assumption)
                   have q207 : x8_3 < (l0.length : Int) := of_decide_eq_true (by assumption)
                   obtain ⟨ad207, e207, hx207_0, hx207_1, hx207_2, hx207_3, hx207_4⟩ := at_T84 HR0.out x8_3 p207 q207
                   obtain rfl : ad195 = ad207 := (by injection e207)
                   replace hx207_0 := (HB.out.cell (World.block_lt_of_cell? w _ hx207_0)).trans hx207_0
                   replace hx207_1 := (HB.out.cell (World.block_lt_of_cell? w _ hx207_1)).trans hx207_1
                   replace hx207_2 := (HB.out.cell (World.block_lt_of_cell? w _ hx207_2)).trans hx207_2
                   replace hx207_3 := (HB.out.cell (World.block_lt_of_cell? w _ hx207_3)).trans hx207_3
                   replace hx207_4 := (HB.out.cell (World.block_lt_of_cell? w _ hx207_4)).trans hx207_4
                   replace p207 := eq_true p207
                   replace q207 := eq_true q207
                   go_wp2
                   (try simp only [px_add0] at *)
                   go_roundg k3
                   case measure => have := HK1.out;have := HJ5.out;have := HK3.out;omega
                   case rel => exact ⟨(x5_3), (wrap64 (x11_1 + 1)), (by first|rfl|(simp;done)|(simp [*];done)), H', ⟨by have := HK1.out;have := HJ5.out;have := HK3.out;omega⟩, ⟨by (with_reducible repeat (first|apply Kd.R_alloc|apply Kd.R_drewN|apply Kd.R_drew));exact HO_5.out⟩, ⟨by repeat (first|(with_reducible first|exact HB.out|apply xa|apply xb|apply xc|refine below_set ?_ GE196.out)|exact HB.out)⟩⟩
                  ·rw [if_neg c22] at H
                   have c22b0 : (((rd_T84 l0 x8_3).f0) == 13) = false := beq_eq_false_iff_ne.mpr c22
                   have c22b1 : (((rd_T84 l0 x8_3).f0) != 13) = true := bne_iff_ne.mpr c22
                   have H' := Aside0.mk H
                   clear H
                   have p197 : 0 ≤ (x8_3 : Int) := of_decide_eq_true (by assumption)
                   have q197 : x8_3 < (l0.length : Int) := of_decide_eq_true (by assumption)
                   obtain ⟨ad197, e197, hx197_0, hx197_1, hx197_2, hx197_3, hx197_4⟩ := at_T84 HR0.out x8_3 p197 q197
                   obtain rfl : ad195 = ad197 := (by injection e197)
                   replace hx197_0 := (HB.out.cell (World.block_lt_of_cell? w _ hx197_0)).trans hx197_0
                   replace hx197_1 := (HB.out.cell (World.block_lt_of_cell? w _ hx197_1)).trans hx197_1
                   replace hx197_2 := (HB.out.cell (World.block_lt_of_cell? w _ hx197_2)).trans hx197_2
                   replace hx197_3 := (HB.out.cell (World.block_lt_of_cell? w _ hx197_3)).trans hx197_3
                   replace hx197_4 := (HB.out.cell (World.block_lt_of_cell? w _ hx197_4)).trans hx197_4
                   replace p197 := eq_true p197
                   replace q197 := eq_true q197
                   have p198 : 0 ≤ (x8_3 : Int) := of_decide_eq_true (by assumption)
                   have q198 : x8_3 < (l0.length : Int) := of_decide_eq_true (by assumption)
                   obtain ⟨ad198, e198, hx198_0, hx198_1, hx198_2, hx198_3, hx198_4⟩ := at_T84 HR0.out x8_3 p198 q198
                   obtain rfl : ad195 = ad198 := (by injection e198)
                   replace hx198_0 := (HB.out.cell (World.block_lt_of_cell? w _ hx198_0)).trans hx198_0
                   replace hx198_1 := (HB.out.cell (World.block_lt_of_cell? w _ hx198_1)).trans hx198_1
                   replace hx198_2 := (HB.out.cell (World.block_lt_of_cell? w _ hx198_2)).trans hx198_2
                   replace hx198_3 := (HB.out.cell (World.block_lt_of_cell? w _ hx198_3)).trans hx198_3
                   replace hx198_4 := (HB.out.cell (World.block_lt_of_cell? w _ hx198_4)).trans hx198_4
                   replace p198 := eq_true p198
                   replace q198 := eq_true q198
                   have p203 : 0 ≤ (x8_3 : Int) := of_decide_eq_true (by assumption)
                   have q203 : x8_3 < (l0.length : Int) := of_decide_eq_true (by assumption)
                   obtain ⟨ad203, e203, hx203_0, hx203_1, hx203_2, hx203_3, hx203_4⟩ := at_T84 HR0.out x8_3 p203 q203
                   obtain rfl : ad195 = ad203 := (by injection e203)
                   replace hx203_0 := (HB.out.cell (World.block_lt_of_cell? w _ hx203_0)).trans hx203_0
                   replace hx203_1 := (HB.out.cell (World.block_lt_of_cell? w _ hx203_1)).trans hx203_1
                   replace hx203_2 := (HB.out.cell (World.block_lt_of_cell? w _ hx203_2)).trans hx203_2
                   replace hx203_3 := (HB.out.cell (World.block_lt_of_cell? w _ hx203_3)).trans hx203_3
                   replace hx203_4 := (HB.out.cell (World.block_lt_of_cell? w _ hx203_4)).trans hx203_4
                   replace p203 := eq_true p203
                   replace q203 := eq_true q203
                   have p204 : 0 ≤ (x8_3 : Int) := of_decide_eq_true (by assumption)
                   have q204 : x8_3 < (l0.length : Int) := of_decide_eq_true (by assumption)
                   obtain ⟨ad204, e204, hx204_0, hx204_1, hx204_2, hx204_3, hx204_4⟩ := at_T84 HR0.out x8_3 p204 q204
                   obtain rfl : ad195 = ad204 := (by injection e204)
                   replace hx204_0 := (HB.out.cell (World.block_lt_of_cell? w _ hx204_0)).trans hx204_0
                   replace hx204_1 := (HB.out.cell (World.block_lt_of_cell? w _ hx204_1)).trans hx204_1
                   replace hx204_2 := (HB.out.cell (World.block_lt_of_cell? w _ hx204_2)).trans hx204_2
                   replace hx204_3 := (HB.out.cell (World.block_lt_of_cell? w _ hx204_3)).trans hx204_3
                   replace hx204_4 := (HB.out.cell (World.block_lt_of_cell? w _ hx204_4)).trans hx204_4
                   replace p204 := eq_true p204
                   replace q204 := eq_true q204
                   have p205 : 0 ≤ (x8_3 : Int) := of_decide_eq_true (by assumption)
                   have q205 : x8_3 < (l0.length : Int) := of_decide_eq_true (by assumption)
                   obtain ⟨ad205, e205, hx205_0, hx205_1, hx205_2, hx205_3, hx205_4⟩ := at_T84 HR0.out x8_3 p205 q205
                   obtain rfl : ad195 = ad205 := (by injection e205)
                   replace hx205_0 := (HB.out.cell (World.block_lt_of_cell? w _ hx205_0)).trans hx205_0
                   replace hx205_1 := (HB.out.cell (World.block_lt_of_cell? w _ hx205_1)).trans hx205_1
                   replace hx205_2 := (HB.out.cell (World.block_lt_of_cell? w _ hx205_2)).trans hx205_2
                   replace hx205_3 := (HB.out.cell (World.block_lt_of_cell? w _ hx205_3)).trans hx205_3
                   replace hx205_4 := (HB.out.cell (World.block_lt_of_cell? w _ hx205_4)).trans hx205_4
                   replace p205 := eq_true p205
                   replace q205 := eq_true q205
                   have p206 : 0 ≤ (x8_3 : Int) := of_decide_eq_true (by assumption)
                   have q206 : x8_3 < (l0.length : Int) := of_decide_eq_true (by assumption)
                   obtain ⟨ad206, e206, hx206_0, hx206_1, hx206_2, hx206_3, hx206_4⟩ := at_T84 HR0.out x8_3 p206 q206
                   obtain rfl : ad195 = ad206 := (by injection e206)
                   replace hx206_0 := (HB.out.cell (World.block_lt_of_cell? w _ hx206_0)).trans hx206_0
                   replace hx206_1 := (HB.out.cell (World.block_lt_of_cell? w _ hx206_1)).trans hx206_1
                   replace hx206_2 := (HB.out.cell (World.block_lt_of_cell? w _ hx206_2)).trans hx206_2
                   replace hx206_3 := (HB.out.cell (World.block_lt_of_cell? w _ hx206_3)).trans hx206_3
                   replace hx206_4 := (HB.out.cell (World.block_lt_of_cell? w _ hx206_4)).trans hx206_4
                   replace p206 := eq_true p206
                   replace q206 := eq_true q206
                   have p207 : 0 ≤ (x8_3 : Int) := of_decide_eq_true (by assumption)
                   have q207 : x8_3 < (l0.length : Int) := of_decide_eq_true (by assumption)
                   obtain ⟨ad207, e207, hx207_0, hx207_1, hx207_2, hx207_3, hx207_4⟩ := at_T84 HR0.out x8_3 p207 q207
                   obtain rfl : ad195 = ad207 := (by injection e207)
                   replace hx207_0 := (HB.out.cell (World.block_lt_of_cell? w _ hx207_0)).trans hx207_0
                   replace hx207_1 := (HB.out.cell (World.block_lt_of_cell? w _ hx207_1)).trans hx207_1
                   replace hx207_2 := (HB.out.cell (World.block_lt_of_cell? w _ hx207_2)).trans hx207_2
                   replace hx207_3 := (HB.out.cell (World.block_lt_of_cell? w _ hx207_3)).trans hx207_3
                   replace hx207_4 := (HB.out.cell (World.block_lt_of_cell? w _ hx207_4)).trans hx207_4
                   replace p207 := eq_true p207
                   replace q207 := eq_true q207
                   go_wp2
                   (try simp only [px_add0] at *)
                   go_roundg k3
                   case measure => have := HK1.out;have := HJ5.out;have := HK3.out;omega
                   case rel => exact ⟨(x5_3), (wrap64 (x8_3 + 1)), (by first|rfl|(simp;done)|(simp [*];done)), H', ⟨by have := HK1.out;have := HJ5.out;have := HK3.out;omega⟩, ⟨by (with_reducible repeat (first|apply Kd.R_alloc|apply Kd.R_drewN|apply Kd.R_drew));exact HO_5.out⟩, ⟨by (with_reducible repeat (first|apply blk_drewN|apply blk_drew|apply blk_alloc));exact BK196.out⟩, ⟨by repeat (first|(with_reducible first|exact HB.out|apply xa|apply xb|apply xc|refine below_set ?_ GE196.out)|exact HB.out)⟩⟩
             ·rw [if_neg c15] at H
              have c15b0 : (((rd_T84 l0 x8_3).f1) == a1) = false := beq_eq_false_iff_ne.mpr c15
              have c15b1 : (((rd_T84 l0 x8_3).f1) != a1) = true := bne_iff_ne.mpr c15
              have H' := Aside0.mk H
              clear H
              have p197 : 0 ≤ (x8_3 : Int) := of_decide_eq_true (by assumption)
              have q197 : x8_3 < (l0.length : Int) := of_decide_eq_true (by assumption)
              obtain ⟨ad197, e197, hx197_0, hx197_1, hx197_2, hx197_3, hx197_4⟩ := at_T84 HR0.out x8_3 p197 q197
              obtain rfl : ad195 = ad197 := (by injection e197)
              replace hx197_0 := (HB.out.cell (World.block_lt_of_cell? w _ hx197_0)).trans hx197_0
              replace hx197_1 := (HB.out.cell (World.block_lt_of_cell? w _ hx197_1)).trans hx197_1
              replace hx197_2 := (HB.out.cell (World.block_lt_of_cell? w _ hx197_2)).trans hx197_2
              replace hx197_3 := (HB.out.cell (World.block_lt_of_cell? w _ hx197_3)).trans hx197_3
              replace hx197_4 := (HB.out.cell (World.block_lt_of_cell? w _ hx197_4)).trans hx197_4
              replace p197 := eq_true p197
              replace q197 := eq_true q197
              go_wp2
              (try simp only [px_add0] at *)
              go_roundg k3
              case measure => have := HK1.out;have := HJ5.out;have := HK3.out;omega
              case rel => exact ⟨(x5_3), (wrap64 (x8_3 + 1)), (by first|rfl|(simp;done)|(simp [*];done)), H', ⟨by have := HK1.out;have := HJ5.out;have := HK3.out;omega⟩, ⟨by (with_reducible repeat (first|apply Kd.R_alloc|apply Kd.R_drewN|apply Kd.R_drew));exact HO_5.out⟩, ⟨by (with_reducible repeat (first|apply blk_drewN|apply blk_drew|apply blk_alloc));exact BK196.out⟩, ⟨by repeat (first|(with_reducible first|exact HB.out|apply xa|apply xb|apply xc|refine below_set ?_ GE196.out)|exact HB.out)⟩⟩
            ·rw [if_neg c14] at H
             exact absurd H (by simp)
           ·rw [if_neg c13] at H
            have c13b0 : decide (x8_3 < (l0.length : Int)) = false := decide_eq_false c13
            clear c13
            have H' := Aside0.mk H
            clear H
            go_wp2
            (try simp only [px_add0] at *)
            go_roundg k3
            case measure => have := HK1.out;have := HJ5.out;have := HK3.out;omega
            case rel => exact ⟨(x5_3), (wrap64 (x11_1 + 1)), (by first|rfl|(simp;done)|(simp [*];done)), H', ⟨by have := HK1.out;have := HJ5.out;have := HK3.out;omega⟩, ⟨by (with_reducible repeat (first|apply Kd.R_alloc|apply Kd.R_drewN|apply Kd.R_drew));exact HO_5.out⟩, ⟨by repeat (first|(with_reducible first|exact HB.out|apply xa|apply xb|apply xc|refine below_set ?_ GE196.out)|exact HB.out)⟩⟩
     ·rw [if_neg c5] at H
      exact absurd H (by simp)
    ·rw [if_neg c4] at H
     exact absurd H (by simp)
   ·rw [if_neg c3] at H
    have c3b0 : decide (x11_1 < (l0.length : Int)) = false := decide_eq_false c3
    clear c3
    obtain rfl := Option.some.inj H
    go_wp2
    go_ret
    exact ⟨_, by first|rfl|(simp [errW_none, errW_some] <;> rfl)|(simp [*, errW_none, errW_some] <;> rfl), by (with_reducible repeat (first|apply Kd.R_alloc|apply Kd.R_drewN|apply Kd.R_drew));exact HO_5.out, by repeat (with_reducible first|exact HB.out|apply xa|apply xb|apply xc)⟩

end Go.Proofs.Ytidhcdifmcffcaa.PCen
