/- Functions of the program as Lean functions, and proofs that the code comes to their answers: printed by this session's program. -/
import Derived.Test.YtidhcdifmcffcaaGEvents
import Derived.Test.YtidhcdifmcffcaaGJoin
import Derived.Test.YtidhcdifmcffcaaPCenx0
import Derived.Test.YtidhcdifmcffcaaPCenx1
namespace Go.Proofs.Ytidhcdifmcffcaa.PCen
open Go.RowKit Go.Proofs.YtidhcdifmcffcaaW.PrintWords Go.Proofs.YtidhcdifmcffcaaW.PrintLast Go.Proofs.YtidhcdifmcffcaaW.PrintMore
attribute [local go_sem] max2_int min2_int max_two min_two max_three min_three max_four min_four   -- for this text's walks alone
set_option linter.unusedVariables false
set_option linter.unusedSimpArgs false

/-! ### event_someCount: function 95 -/
def event_someCount.l0 : Nat → Int → Int → List (S84) → List (S84) → Int → Int → Option ((List (S84)))
 | 0, _, _, _, _, _, _ => none
 | k + 1, x1, x2, x4, x7, x8, x9 => if x9 < x8 then (if 0 ≤ x9 then (if x9 < (x7.length : Int) then ((event_Count_1.f ((rd_T84 x7 x9).f0) ((rd_T84 x7 x9).f1) ((rd_T84 x7 x9).f2) ((rd_T84 x7 x9).f3) ((rd_T84 x7 x9).f4) x1 x2).bind fun t160 => (if t160 = true then (if x4.length < 3518437208883 then (event_someCount.l0 k x1 x2 (x4 ++ [(⟨(rd_T84 x7 x9).f0, (rd_T84 x7 x9).f1, (rd_T84 x7 x9).f2, (rd_T84 x7 x9).f3, (rd_T84 x7 x9).f4⟩ : S84)]) x7 x8 (wrap64 (x9 + 1))) else (none)) else (event_someCount.l0 k x1 x2 x4 x7 x8 (wrap64 (x9 + 1))))) else (none)) else (none)) else (some x4)
def event_someCount.f (k : Nat) (l0 : List (S84)) (a1 : Int) (a2 : Int) : Option ((List (S84))) := event_someCount.l0 k a1 a2 ([] : List (S84)) l0 (l0.length : Int) 0
theorem event_someCount.mono_l : ∀ k, (∀ y0 y1 y2 y3 y4 y5, LeO (event_someCount.l0 k y0 y1 y2 y3 y4 y5) (event_someCount.l0 (k + 1) y0 y1 y2 y3 y4 y5))
 | 0 => fun _ _ _ _ _ _ r h => by simp [event_someCount.l0] at h
 | k + 1 => by
  have ih0 := event_someCount.mono_l k
  ·intro y0 y1 y2 y3 y4 y5
   unfold event_someCount.l0
   repeat' first
   | (with_reducible exact ih0 _ _ _ _ _ _)
   | (with_reducible exact LeO.refl _)
   | (with_reducible exact LeO.none _)
   | (with_reducible refine LeO.ite ?_ ?_)
   | (with_reducible refine LeO.bind ?_ (fun _ => ?_))
   | exact ih0 _ _ _ _ _ _
   | exact LeO.none _
   | refine LeO.ite ?_ ?_
   | refine LeO.bind ?_ (fun _ => ?_)
theorem event_someCount.mono : ∀ a0 a1 a2 k, LeO (event_someCount.f k a0 a1 a2) (event_someCount.f (k + 1) a0 a1 a2) := by
 intro a0 a1 a2 k
 have ih0 := event_someCount.mono_l k
 unfold event_someCount.f
 repeat' first
   | (with_reducible exact ih0 _ _ _ _ _ _)
   | (with_reducible exact LeO.refl _)
   | (with_reducible exact LeO.none _)
   | (with_reducible refine LeO.ite ?_ ?_)
   | (with_reducible refine LeO.bind ?_ (fun _ => ?_))
   | exact ih0 _ _ _ _ _ _
   | exact LeO.none _
   | refine LeO.ite ?_ ?_
   | refine LeO.bind ?_ (fun _ => ?_)
set_option maxHeartbeats 8000000 in
set_option maxRecDepth 100000 in
theorem event_someCount.calls (k : Nat) (A0 : Option Addr) (c0 : Nat) (l0 : List (S84)) (a1 : Int) (a2 : Int) (r : List (S84)) (w : World) (hr0 : Kd.C k84 w A0 l0.length l0) (hc0 : l0.length ≤ c0) (h : event_someCount.f k l0 a1 a2 = some r) (cap_ : Addr) (hcap_ : w.cell? cap_ = some (.int .i64 a1)) (cap2_ : Addr) (hcap2_ : w.cell? cap2_ = some (.int .i64 a2)) :
  Calls Try.prog 95 #[.slice A0 l0.length c0, .func (.func 97) #[] #[.pointer (some cap_), .pointer (some cap2_)]] w fun e w' => ∃ v0_ : Value, e = .returned (v0_) ∧ Kd.R k84 84 w' w.heap.size (fun _ => True) v0_ r ∧ Below w.heap.size w w' := by
 have hu84 := Try.underlying84
 have HR0 := Aside0.mk hr0
 have HC0 := Aside0.mk hc0
 clear hr0 hc0
 have HB := Aside0.mk (Below.refl w.heap.size w)
 have HCAP := Aside0.mk hcap_
 clear hcap_
 have HCAP2 := Aside0.mk hcap2_
 clear hcap2_
 have H : (event_someCount.l0 k a1 a2 ([] : List (S84)) l0 (l0.length : Int) 0) = some r := h
 clear h
 have H' := Aside0.mk H
 clear H
 go_enter Try.func95, Try.ntmps95
 go_wp2
 go_loopg [4, 9] k (fun kq v4 v9 w' => ∃ (x4_1 : List (S84)) (x9_1 : Int), v9 = .int .i64 x9_1 ∧ Aside0 (event_someCount.l0 kq a1 a2 x4_1 l0 (l0.length : Int) x9_1 = some r) ∧ Aside0 (kq ≤ k) ∧ Aside0 (Kd.R k84 84 w' w.heap.size (fun _ => True) v4 x4_1) ∧ Aside0 (Below w.heap.size w w'))
 case atStart => exact ⟨(([] : List (S84))), (0), (by first|rfl|(simp;done)|(simp [*];done)), H', ⟨Nat.le_refl _⟩, ⟨by first|exact Kd.R_nil _ _ _ _ _|exact Kd.N_nil _ _ _ _ _|exact Kd.V_nil _ _ _ _ _|exact Kd.Q_nil _ _ _ _ _|exact Kd.S_nil _ _ _ _ _⟩, ⟨by repeat (with_reducible first|exact HB.out|apply xa|apply xb|apply xc)⟩⟩
 case round =>
  clear H'
  try clear c1
  try clear p2
  obtain ⟨x4_1, x9_1, rfl, HA, HK1, HO_4, HB⟩ := hrel
  cases gk with
  | zero => exact absurd HA.out (by simp [event_someCount.l0])
  | succ k1 =>
   have H := HA.out
   clear HA
   simp only [event_someCount.l0] at H
   by_cases c4 : x9_1 < (l0.length : Int)
   ·rw [if_pos c4] at H
    have c4b0 : decide (x9_1 < (l0.length : Int)) = true := decide_eq_true c4
    clear c4
    by_cases c5 : 0 ≤ x9_1
    ·rw [if_pos c5] at H
     have c5b0 : decide (0 ≤ x9_1) = true := decide_eq_true c5
     clear c5
     by_cases c6 : x9_1 < (l0.length : Int)
     ·rw [if_pos c6] at H
      have c6b0 : decide (x9_1 < (l0.length : Int)) = true := decide_eq_true c6
      clear c6
      replace H := Option.bind_eq_some_iff.mp H
      obtain ⟨t160, A70, H⟩ := H
      replace H : (if t160 = true then (if x4_1.length < 3518437208883 then (event_someCount.l0 k1 a1 a2 (x4_1 ++ [(⟨(rd_T84 l0 x9_1).f0, (rd_T84 l0 x9_1).f1, (rd_T84 l0 x9_1).f2, (rd_T84 l0 x9_1).f3, (rd_T84 l0 x9_1).f4⟩ : S84)]) l0 (l0.length : Int) (wrap64 (x9_1 + 1))) else (none)) else (event_someCount.l0 k1 a1 a2 x4_1 l0 (l0.length : Int) (wrap64 (x9_1 + 1)))) = some r := H
      have A7 := Aside0.mk A70
      clear A70
      by_cases c8 : t160 = true
      ·subst c8
       have H1 : (if x4_1.length < 3518437208883 then (event_someCount.l0 k1 a1 a2 (x4_1 ++ [(⟨(rd_T84 l0 x9_1).f0, (rd_T84 l0 x9_1).f1, (rd_T84 l0 x9_1).f2, (rd_T84 l0 x9_1).f3, (rd_T84 l0 x9_1).f4⟩ : S84)]) l0 (l0.length : Int) (wrap64 (x9_1 + 1))) else (none)) = some r := by rw [if_pos rfl] at H;exact H
       clear H
       have H := H1
       clear H1
       by_cases c9 : x4_1.length < 3518437208883
       ·rw [if_pos c9] at H
        have LMc9 := Aside0.mk c9
        clear c9
        obtain ⟨y161, hy161⟩ : ∃ y_ : List (S84), y_ = (x4_1 ++ [(⟨(rd_T84 l0 x9_1).f0, (rd_T84 l0 x9_1).f1, (rd_T84 l0 x9_1).f2, (rd_T84 l0 x9_1).f3, (rd_T84 l0 x9_1).f4⟩ : S84)]) := ⟨_, rfl⟩
        replace H : (event_someCount.l0 k1 a1 a2 y161 l0 (l0.length : Int) (wrap64 (x9_1 + 1))) = some r := by first|(rw [hy161];with_reducible exact H)|(have H2_ := (Option.bind_some _ _).symm.trans H;rw [hy161];with_reducible exact H2_)|(have H2_ := (Option.bind_some _ _).symm.trans H;with_reducible exact H2_)|with_reducible exact H|(rw [hy161];exact H)|exact H
        have Ny161 := Aside0.mk hy161
        clear hy161
        have H' := Aside0.mk H
        clear H
        have p158 : 0 ≤ (x9_1 : Int) := of_decide_eq_true (by assumption)
        have q158 : x9_1 < (l0.length : Int) := of_decide_eq_true (by assumption)
        obtain ⟨ad158, e158, hx158_0, hx158_1, hx158_2, hx158_3, hx158_4⟩ := at_T84 HR0.out x9_1 p158 q158
        cases e158
        replace hx158_0 := (HB.out.cell (World.block_lt_of_cell? w _ hx158_0)).trans hx158_0
        replace hx158_1 := (HB.out.cell (World.block_lt_of_cell? w _ hx158_1)).trans hx158_1
        replace hx158_2 := (HB.out.cell (World.block_lt_of_cell? w _ hx158_2)).trans hx158_2
        replace hx158_3 := (HB.out.cell (World.block_lt_of_cell? w _ hx158_3)).trans hx158_3
        replace hx158_4 := (HB.out.cell (World.block_lt_of_cell? w _ hx158_4)).trans hx158_4
        replace p158 := eq_true p158
        replace q158 := eq_true q158
        go_wp2_with (first|((with_reducible refine gate_dst (N := 6) rfl ?_);refine box_event ?hg (N := 6) ?hd (cs := #[.int .i64 0, .int .i64 0, .int .i64 0, .int .i64 0, .int .i64 0]) (t := 84) ?hr ?_;(case hd => rfl);(case hg => rfl);(case hr => first|(go_simp;done)|(go_simp;rfl));intro gb159 hg w10 hbox hb;have n0_ := Aside0.mk (Kd.R_below (Kd.R_elderB (by (with_reducible repeat (first|apply Kd.R_alloc|apply Kd.R_drewN|apply Kd.R_drew));exact HO_4.out) gb159 (Nat.le_of_eq hg.symm)) hb);have n1_ := Aside0.mk (below_step (by repeat (with_reducible first|exact HB.out|apply xa|apply xb|apply xc)) hb);have n2_ := Aside0.mk (hbox);have n3_ := Aside0.mk ((by rw [hg];exact (below_size (by repeat (with_reducible first|exact HB.out|apply xa|apply xb|apply xc))) : w.heap.size ≤ gb159));have n4_ := Aside0.mk ((by rw [hg];exact (below_size (by repeat (with_reducible first|exact HB.out|apply xa|apply xb|apply xc))) : w.heap.size ≤ gb159));clear HO_4;clear HB;have HO_4 := n0_;have HB := n1_;have BK159 := n2_;have GW159 := n3_;have GE159 := n4_;clear n0_ n1_ n2_ n3_ n4_;clear hb hbox hg;have hcz11_0 : w10.cell? ⟨gb159, 0, none⟩ = some (.int .i64 0) := (blk_cell BK159.out 0).trans rfl;have hcz11_1 : w10.cell? ⟨gb159, 1, none⟩ = some (.int .i64 0) := (blk_cell BK159.out 1).trans rfl;have hcz11_2 : w10.cell? ⟨gb159, 2, none⟩ = some (.int .i64 0) := (blk_cell BK159.out 2).trans rfl;have hcz11_3 : w10.cell? ⟨gb159, 3, none⟩ = some (.int .i64 0) := (blk_cell BK159.out 3).trans rfl;have hcz11_4 : w10.cell? ⟨gb159, 4, none⟩ = some (.int .i64 0) := (blk_cell BK159.out 4).trans rfl;have hfz11_0 := blk_frozen BK159.out 0;have hfz11_1 := blk_frozen BK159.out 1;have hfz11_2 := blk_frozen BK159.out 2;have hfz11_3 := blk_frozen BK159.out 3;have hfz11_4 := blk_frozen BK159.out 4)|(go_at_call 97;(with_reducible refine (event_Count_1.calls ((rd_T84 l0 x9_1).f0) ((rd_T84 l0 x9_1).f1) ((rd_T84 l0 x9_1).f2) ((rd_T84 l0 x9_1).f3) ((rd_T84 l0 x9_1).f4) a1 a2 true _ A7.out cap_ cap2_ ?cap9 ?cap8).mono ?_);(case cap9 => exact ((show Below w.heap.size w _ from (by repeat (first|(with_reducible first|exact HB.out|apply xa|apply xb|apply xc|refine below_set ?_ GE159.out)|exact HB.out))).cell (World.block_lt_of_cell? _ _ HCAP.out)).trans HCAP.out);(case cap8 => exact ((show Below w.heap.size w _ from (by repeat (first|(with_reducible first|exact HB.out|apply xa|apply xb|apply xc|refine below_set ?_ GE159.out)|exact HB.out))).cell (World.block_lt_of_cell? _ _ HCAP2.out)).trans HCAP2.out);rintro e w12 ⟨rfl, hb⟩;have n0_ := Aside0.mk (Kd.R_below (by (with_reducible repeat (first|apply Kd.R_alloc|apply Kd.R_drewN|apply Kd.R_drew));exact (Kd.R_mono (Kd.R_far (p := ⟨gb159, 4, none⟩) (Kd.R_far (p := ⟨gb159, 3, none⟩) (Kd.R_far (p := ⟨gb159, 2, none⟩) (Kd.R_far (p := ⟨gb159, 1, none⟩) (Kd.R_far (p := ⟨gb159, 0, none⟩) (Kd.R_mono HO_4.out (fun k_ hk => (⟨hk, hk.2⟩ : _ ∧ k_ ≠ gb159))) (fun _ hk => hk.2) (.int .i64 ((rd_T84 l0 x9_1).f0))) (fun _ hk => hk.2) (.int .i64 ((rd_T84 l0 x9_1).f1))) (fun _ hk => hk.2) (.int .i64 ((rd_T84 l0 x9_1).f2))) (fun _ hk => hk.2) (.int .i64 ((rd_T84 l0 x9_1).f3))) (fun _ hk => hk.2) (.int .i64 ((rd_T84 l0 x9_1).f4))) (fun _ h_ => h_.1))) hb);have n1_ := Aside0.mk (blk_below (g := gb159) (o := .cells #[.int .i64 ((rd_T84 l0 x9_1).f0), .int .i64 ((rd_T84 l0 x9_1).f1), .int .i64 ((rd_T84 l0 x9_1).f2), .int .i64 ((rd_T84 l0 x9_1).f3), .int .i64 ((rd_T84 l0 x9_1).f4)] 84 (0, 0)) (by (with_reducible repeat (first|apply blk_drewN|apply blk_drew|apply blk_alloc));refine blk_put (cs := #[.int .i64 ((rd_T84 l0 x9_1).f0), .int .i64 ((rd_T84 l0 x9_1).f1), .int .i64 ((rd_T84 l0 x9_1).f2), .int .i64 ((rd_T84 l0 x9_1).f3), .int .i64 0]) ?_ 4 _ rfl;(with_reducible repeat (first|apply blk_drewN|apply blk_drew|apply blk_alloc));refine blk_put (cs := #[.int .i64 ((rd_T84 l0 x9_1).f0), .int .i64 ((rd_T84 l0 x9_1).f1), .int .i64 ((rd_T84 l0 x9_1).f2), .int .i64 0, .int .i64 0]) ?_ 3 _ rfl;(with_reducible repeat (first|apply blk_drewN|apply blk_drew|apply blk_alloc));refine blk_put (cs := #[.int .i64 ((rd_T84 l0 x9_1).f0), .int .i64 ((rd_T84 l0 x9_1).f1), .int .i64 0, .int .i64 0, .int .i64 0]) ?_ 2 _ rfl;(with_reducible repeat (first|apply blk_drewN|apply blk_drew|apply blk_alloc));refine blk_put (cs := #[.int .i64 ((rd_T84 l0 x9_1).f0), .int .i64 0, .int .i64 0, .int .i64 0, .int .i64 0]) ?_ 1 _ rfl;(with_reducible repeat (first|apply blk_drewN|apply blk_drew|apply blk_alloc));refine blk_put (cs := #[.int .i64 0, .int .i64 0, .int .i64 0, .int .i64 0, .int .i64 0]) ?_ 0 _ rfl;(with_reducible repeat (first|apply blk_drewN|apply blk_drew|apply blk_alloc));exact BK159.out) hb);have n2_ := Aside0.mk (below_step (by repeat (first|(with_reducible first|exact HB.out|apply xa|apply xb|apply xc|refine below_set ?_ GE159.out)|exact HB.out)) hb);clear HO_4;clear BK159;clear HB;have HO_4 := n0_;have BK159 := n1_;have HB := n2_;clear n0_ n1_ n2_;(try clear hb);(try clear hb2);(try clear hk);(try clear hi);have hcz13_0 : w12.cell? ⟨gb159, 0, none⟩ = some (.int .i64 ((rd_T84 l0 x9_1).f0)) := (blk_cell BK159.out 0).trans rfl;have hcz13_1 : w12.cell? ⟨gb159, 1, none⟩ = some (.int .i64 ((rd_T84 l0 x9_1).f1)) := (blk_cell BK159.out 1).trans rfl;have hcz13_2 : w12.cell? ⟨gb159, 2, none⟩ = some (.int .i64 ((rd_T84 l0 x9_1).f2)) := (blk_cell BK159.out 2).trans rfl;have hcz13_3 : w12.cell? ⟨gb159, 3, none⟩ = some (.int .i64 ((rd_T84 l0 x9_1).f3)) := (blk_cell BK159.out 3).trans rfl;have hcz13_4 : w12.cell? ⟨gb159, 4, none⟩ = some (.int .i64 ((rd_T84 l0 x9_1).f4)) := (blk_cell BK159.out 4).trans rfl;have hfz13_0 := blk_frozen BK159.out 0;have hfz13_1 := blk_frozen BK159.out 1;have hfz13_2 := blk_frozen BK159.out 2;have hfz13_3 := blk_frozen BK159.out 3;have hfz13_4 := blk_frozen BK159.out 4)|((with_reducible refine gate_builtin (b := .append) (xs := #[.tmp 16, .tmp 18]) rfl ?_);at_builtin;refine Kd.R_append k84 (w0 := w) w.heap.size rfl (.tmp 16) (.tmp 18) 76 84 (.agg #[(.int .i64 0), (.int .i64 0), (.int .i64 0), (.int .i64 0), (.int .i64 0)]) 40 rfl Try.underlying76 info84 rfl (by decide) (by omega) u4 x4_1 (⟨(rd_T84 l0 x9_1).f0, (rd_T84 l0 x9_1).f1, (rd_T84 l0 x9_1).f2, (rd_T84 l0 x9_1).f3, (rd_T84 l0 x9_1).f4⟩ : S84) [.int .i64 ((rd_T84 l0 x9_1).f0), .int .i64 ((rd_T84 l0 x9_1).f1), .int .i64 ((rd_T84 l0 x9_1).f2), .int .i64 ((rd_T84 l0 x9_1).f3), .int .i64 ((rd_T84 l0 x9_1).f4)] (fun k_ => k_ ≠ gb159) (fun _ => False) rfl rfl ?aP (fun _ hk => hk.elim) ?aF ?aO ?aB ?aS ?aL ?_;(case aP => exact k84_mkM _ _ _ (⟨(rd_T84 l0 x9_1).f0, (rd_T84 l0 x9_1).f1, (rd_T84 l0 x9_1).f2, (rd_T84 l0 x9_1).f3, (rd_T84 l0 x9_1).f4⟩ : S84));(case aB => exact (by repeat (first|(with_reducible first|exact HB.out|apply xa|apply xb|apply xc|refine below_set ?_ GE159.out)|exact HB.out)));(case aF => exact (fun k_ hk => Kd.freshB (g := gb159) (o := .cells #[.int .i64 ((rd_T84 l0 x9_1).f0), .int .i64 ((rd_T84 l0 x9_1).f1), .int .i64 ((rd_T84 l0 x9_1).f2), .int .i64 ((rd_T84 l0 x9_1).f3), .int .i64 ((rd_T84 l0 x9_1).f4)] 84 (0, 0)) (by (with_reducible repeat (first|apply blk_drewN|apply blk_drew|apply blk_alloc));exact BK159.out) k_ hk));(case aO => exact (by (with_reducible repeat (first|apply Kd.R_alloc|apply Kd.R_drewN|apply Kd.R_drew));exact Kd.R_mono HO_4.out (fun _ hk => hk.2)));(case aS => exact (below_size (by repeat (first|(with_reducible first|exact HB.out|apply xa|apply xb|apply xc|refine below_set ?_ GE159.out)|exact HB.out))));(case aL => have := LMc9.out;omega);intro v162 w14 ho hb hg hat;rw [← Ny161.out] at ho;have n0_ := Aside0.mk (blk_grown (g := gb159) (o := .cells #[.int .i64 ((rd_T84 l0 x9_1).f0), .int .i64 ((rd_T84 l0 x9_1).f1), .int .i64 ((rd_T84 l0 x9_1).f2), .int .i64 ((rd_T84 l0 x9_1).f3), .int .i64 ((rd_T84 l0 x9_1).f4)] 84 (0, 0)) (by (with_reducible repeat (first|apply blk_drewN|apply blk_drew|apply blk_alloc));exact BK159.out) hg (Kd.R_away HO_4.out (fun _ hk => hk.2)));have n1_ := Aside0.mk (hb);have n2_ := Aside0.mk (ho);clear BK159;clear HB;clear HO_4;have BK159 := n0_;have HB := n1_;have HO163 := n2_;clear n0_ n1_ n2_;clear ho hb hg hat))
        (try simp only [px_add0] at *)
        go_roundg k1
        case measure => have := HK1.out;omega
        case rel => exact ⟨(y161), (wrap64 (x9_1 + 1)), (by first|rfl|(simp;done)|(simp [*];done)), H', ⟨by have := HK1.out;omega⟩, ⟨by (with_reducible repeat (first|apply Kd.R_alloc|apply Kd.R_drewN|apply Kd.R_drew));exact Kd.R_mono HO163.out (fun _ hk => trivial)⟩, ⟨by repeat (first|(with_reducible first|exact HB.out|apply xa|apply xb|apply xc|refine below_set ?_ GE159.out)|exact HB.out)⟩⟩
       ·rw [if_neg c9] at H
        exact absurd H (by simp)
      ·replace c8 := Bool.eq_false_iff.mpr c8
       subst c8
       have H1 : (event_someCount.l0 k1 a1 a2 x4_1 l0 (l0.length : Int) (wrap64 (x9_1 + 1))) = some r := by rw [if_neg (show ¬ (false = true) by decide)] at H;exact H
       clear H
       have H := H1
       clear H1
       have H' := Aside0.mk H
       clear H
       have p158 : 0 ≤ (x9_1 : Int) := of_decide_eq_true (by assumption)
       have q158 : x9_1 < (l0.length : Int) := of_decide_eq_true (by assumption)
       obtain ⟨ad158, e158, hx158_0, hx158_1, hx158_2, hx158_3, hx158_4⟩ := at_T84 HR0.out x9_1 p158 q158
       cases e158
       replace hx158_0 := (HB.out.cell (World.block_lt_of_cell? w _ hx158_0)).trans hx158_0
       replace hx158_1 := (HB.out.cell (World.block_lt_of_cell? w _ hx158_1)).trans hx158_1
       replace hx158_2 := (HB.out.cell (World.block_lt_of_cell? w _ hx158_2)).trans hx158_2
       replace hx158_3 := (HB.out.cell (World.block_lt_of_cell? w _ hx158_3)).trans hx158_3
       replace hx158_4 := (HB.out.cell (World.block_lt_of_cell? w _ hx158_4)).trans hx158_4
       replace p158 := eq_true p158
       replace q158 := eq_true q158
       go_wp2_with (first|((with_reducible refine gate_dst (N := 6) rfl ?_);refine box_event ?hg (N := 6) ?hd (cs := #[.int .i64 0, .int .i64 0, .int .i64 0, .int .i64 0, .int .i64 0]) (t := 84) ?hr ?_;(case hd => rfl);(case hg => rfl);(case hr => first|(go_simp;done)|(go_simp;rfl));intro gb159 hg w15 hbox hb;have n0_ := Aside0.mk (Kd.R_below (Kd.R_elderB (by (with_reducible repeat (first|apply Kd.R_alloc|apply Kd.R_drewN|apply Kd.R_drew));exact HO_4.out) gb159 (Nat.le_of_eq hg.symm)) hb);have n1_ := Aside0.mk (below_step (by repeat (with_reducible first|exact HB.out|apply xa|apply xb|apply xc)) hb);have n2_ := Aside0.mk (hbox);have n3_ := Aside0.mk ((by rw [hg];exact (below_size (by repeat (with_reducible first|exact HB.out|apply xa|apply xb|apply xc))) : w.heap.size ≤ gb159));have n4_ := Aside0.mk ((by rw [hg];exact (below_size (by repeat (with_reducible first|exact HB.out|apply xa|apply xb|apply xc))) : w.heap.size ≤ gb159));clear HO_4;clear HB;have HO_4 := n0_;have HB := n1_;have BK159 := n2_;have GW159 := n3_;have GE159 := n4_;clear n0_ n1_ n2_ n3_ n4_;clear hb hbox hg;have hcz16_0 : w15.cell? ⟨gb159, 0, none⟩ = some (.int .i64 0) := (blk_cell BK159.out 0).trans rfl;have hcz16_1 : w15.cell? ⟨gb159, 1, none⟩ = some (.int .i64 0) := (blk_cell BK159.out 1).trans rfl;have hcz16_2 : w15.cell? ⟨gb159, 2, none⟩ = some (.int .i64 0) := (blk_cell BK159.out 2).trans rfl;have hcz16_3 : w15.cell? ⟨gb159, 3, none⟩ = some (.int .i64 0) := (blk_cell BK159.out 3).trans rfl;have hcz16_4 : w15.cell? ⟨gb159, 4, none⟩ = some (.int .i64 0) := (blk_cell BK159.out 4).trans rfl;have hfz16_0 := blk_frozen BK159.out 0;have hfz16_1 := blk_frozen BK159.out 1;have hfz16_2 := blk_frozen BK159.out 2;have hfz16_3 := blk_frozen BK159.out 3;have hfz16_4 := blk_frozen BK159.out 4)|(go_at_call 97;(with_reducible refine (event_Count_1.calls ((rd_T84 l0 x9_1).f0) ((rd_T84 l0 x9_1).f1) ((rd_T84 l0 x9_1).f2) ((rd_T84 l0 x9_1).f3) ((rd_T84 l0 x9_1).f4) a1 a2 false _ A7.out cap_ cap2_ ?cap9 ?cap8).mono ?_);(case cap9 => exact ((show Below w.heap.size w _ from (by repeat (first|(with_reducible first|exact HB.out|apply xa|apply xb|apply xc|refine below_set ?_ GE159.out)|exact HB.out))).cell (World.block_lt_of_cell? _ _ HCAP.out)).trans HCAP.out);(case cap8 => exact ((show Below w.heap.size w _ from (by repeat (first|(with_reducible first|exact HB.out|apply xa|apply xb|apply xc|refine below_set ?_ GE159.out)|exact HB.out))).cell (World.block_lt_of_cell? _ _ HCAP2.out)).trans HCAP2.out);rintro e w17 ⟨rfl, hb⟩;have n0_ := Aside0.mk (Kd.R_below (by (with_reducible repeat (first|apply Kd.R_alloc|apply Kd.R_drewN|apply Kd.R_drew));exact (Kd.R_mono (Kd.R_far (p := ⟨gb159, 4, none⟩) (Kd.R_far (p := ⟨gb159, 3, none⟩) (Kd.R_far (p := ⟨gb159, 2, none⟩) (Kd.R_far (p := ⟨gb159, 1, none⟩) (Kd.R_far (p := ⟨gb159, 0, none⟩) (Kd.R_mono HO_4.out (fun k_ hk => (⟨hk, hk.2⟩ : _ ∧ k_ ≠ gb159))) (fun _ hk => hk.2) (.int .i64 ((rd_T84 l0 x9_1).f0))) (fun _ hk => hk.2) (.int .i64 ((rd_T84 l0 x9_1).f1))) (fun _ hk => hk.2) (.int .i64 ((rd_T84 l0 x9_1).f2))) (fun _ hk => hk.2) (.int .i64 ((rd_T84 l0 x9_1).f3))) (fun _ hk => hk.2) (.int .i64 ((rd_T84 l0 x9_1).f4))) (fun _ h_ => h_.1))) hb);have n1_ := Aside0.mk (blk_below (g := gb159) (o := .cells #[.int .i64 ((rd_T84 l0 x9_1).f0), .int .i64 ((rd_T84 l0 x9_1).f1), .int .i64 ((rd_T84 l0 x9_1).f2), .int .i64 ((rd_T84 l0 x9_1).f3), .int .i64 ((rd_T84 l0 x9_1).f4)] 84 (0, 0)) (by (with_reducible repeat (first|apply blk_drewN|apply blk_drew|apply blk_alloc));refine blk_put (cs := #[.int .i64 ((rd_T84 l0 x9_1).f0), .int .i64 ((rd_T84 l0 x9_1).f1), .int .i64 ((rd_T84 l0 x9_1).f2), .int .i64 ((rd_T84 l0 x9_1).f3), .int .i64 0]) ?_ 4 _ rfl;(with_reducible repeat (first|apply blk_drewN|apply blk_drew|apply blk_alloc));refine blk_put (cs := #[.int .i64 ((rd_T84 l0 x9_1).f0), .int .i64 ((rd_T84 l0 x9_1).f1), .int .i64 ((rd_T84 l0 x9_1).f2), .int .i64 0, .int .i64 0]) ?_ 3 _ rfl;(with_reducible repeat (first|apply blk_drewN|apply blk_drew|apply blk_alloc));refine blk_put (cs := #[.int .i64 ((rd_T84 l0 x9_1).f0), .int .i64 ((rd_T84 l0 x9_1).f1), .int .i64 0, .int .i64 0, .int .i64 0]) ?_ 2 _ rfl;(with_reducible repeat (first|apply blk_drewN|apply blk_drew|apply blk_alloc));refine blk_put (cs := #[.int .i64 ((rd_T84 l0 x9_1).f0), .int .i64 0, .int .i64 0, .int .i64 0, .int .i64 0]) ?_ 1 _ rfl;(with_reducible repeat (first|apply blk_drewN|apply blk_drew|apply blk_alloc));refine blk_put (cs := #[.int .i64 0, .int .i64 0, .int .i64 0, .int .i64 0, .int .i64 0]) ?_ 0 _ rfl;(with_reducible repeat (first|apply blk_drewN|apply blk_drew|apply blk_alloc));exact BK159.out) hb);have n2_ := Aside0.mk (below_step (by repeat (first|(with_reducible first|exact HB.out|apply xa|apply xb|apply xc|refine below_set ?_ GE159.out)|exact HB.out)) hb);clear HO_4;clear BK159;clear HB;have HO_4 := n0_;have BK159 := n1_;have HB := n2_;clear n0_ n1_ n2_;(try clear hb);(try clear hb2);(try clear hk);(try clear hi)))
       (try simp only [px_add0] at *)
       go_roundg k1
       case measure => have := HK1.out;omega
       case rel => exact ⟨(x4_1), (wrap64 (x9_1 + 1)), (by first|rfl|(simp;done)|(simp [*];done)), H', ⟨by have := HK1.out;omega⟩, ⟨by (with_reducible repeat (first|apply Kd.R_alloc|apply Kd.R_drewN|apply Kd.R_drew));exact Kd.R_mono HO_4.out (fun _ hk => trivial)⟩, ⟨by repeat (first|(with_reducible first|exact HB.out|apply xa|apply xb|apply xc|refine below_set ?_ GE159.out)|exact HB.out)⟩⟩
     ·rw [if_neg c6] at H
      exact absurd H (by simp)
    ·rw [if_neg c5] at H
     exact absurd H (by simp)
   ·rw [if_neg c4] at H
    have c4b0 : decide (x9_1 < (l0.length : Int)) = false := decide_eq_false c4
    clear c4
    obtain rfl := Option.some.inj H
    go_wp2
    go_ret
    exact ⟨_, by first|rfl|(simp [errW_none, errW_some] <;> rfl)|(simp [*, errW_none, errW_some] <;> rfl), by (with_reducible repeat (first|apply Kd.R_alloc|apply Kd.R_drewN|apply Kd.R_drew));exact HO_4.out, by repeat (with_reducible first|exact HB.out|apply xa|apply xb|apply xc)⟩

/-! ### event_Count: function 76 -/
def event_Count.f (k : Nat) (l0 : List (S84)) (a1 : Int) (a2 : Int) : Option (Int) := (event_someCount.f k l0 a1 a2).bind fun t164 => (some (t164.length : Int))
theorem event_Count.mono : ∀ a0 a1 a2 k, LeO (event_Count.f k a0 a1 a2) (event_Count.f (k + 1) a0 a1 a2) := by
 intro a0 a1 a2 k
 unfold event_Count.f
 repeat' first
   | (with_reducible exact event_someCount.mono _ _ _ _)
   | (with_reducible exact LeO.refl _)
   | (with_reducible exact LeO.none _)
   | (with_reducible refine LeO.ite ?_ ?_)
   | (with_reducible refine LeO.bind ?_ (fun _ => ?_))
   | exact event_someCount.mono _ _ _ _
   | exact LeO.none _
   | refine LeO.ite ?_ ?_
   | refine LeO.bind ?_ (fun _ => ?_)
set_option maxHeartbeats 8000000 in
set_option maxRecDepth 100000 in
theorem event_Count.calls (k : Nat) (A0 : Option Addr) (c0 : Nat) (l0 : List (S84)) (a1 : Int) (a2 : Int) (r : Int) (w : World) (hr0 : Kd.C k84 w A0 l0.length l0) (hc0 : l0.length ≤ c0) (h : event_Count.f k l0 a1 a2 = some r) :
  Calls Try.prog 76 #[.slice A0 l0.length c0, .int .i64 a1, .int .i64 a2] w fun e w' => e = .returned (.int .i64 r) ∧ Below w.heap.size w w' := by
 have HR0 := Aside0.mk hr0
 have HC0 := Aside0.mk hc0
 clear hr0 hc0
 have HB := Aside0.mk (Below.refl w.heap.size w)
 have H : ((event_someCount.f k l0 a1 a2).bind fun t164 => (some (t164.length : Int))) = some r := h
 clear h
 replace H := Option.bind_eq_some_iff.mp H
 obtain ⟨t164, A40, H⟩ := H
 replace H : (some (t164.length : Int)) = some r := H
 have A4 := Aside0.mk A40
 clear A40
 obtain rfl := Option.some.inj H
 have hmf : ∀ (fn : Fn) (first cap : Array Value) (w : World), (Instr.makeFunc fn first cap).run Try.prog w = .ok (.func fn first cap) w := fun _ _ _ _ => rfl
 go_enter Try.func76, Try.ntmps76
 go_wp2_with (first|(go_at_call 95;(with_reducible refine (event_someCount.calls k _ _ l0 a1 a2 t164 _ ?side1 ?side2 A4.out _ ?cap9 _ ?cap8).mono ?_);(case cap9 => first|(simp;done)|rfl|exact cap_on (by simp) _);(case cap8 => first|(simp;done)|rfl|exact cap_on (by simp) _);(case side1 => repeat (first|exact HR0.out|(with_reducible refine Kd.C_alloc ?_ _)|(with_reducible refine Kd.C_drewN ?_ _)|(with_reducible refine Kd.C_drew ?_)));(case side2 => exact HC0.out);rintro e w5 ⟨v165, rfl, ho0, hb⟩;have n0_ := Aside0.mk (Kd.R_lower ho0 (below_size (by repeat (with_reducible first|exact HB.out|apply xa|apply xb|apply xc))));have n1_ := Aside0.mk (below_step (by repeat (with_reducible first|exact HB.out|apply xa|apply xb|apply xc)) hb);clear HB;have HO166 := n0_;have HB := n1_;clear n0_ n1_;(try clear hb);(try clear hb2);(try clear hk);(try clear hi);(try clear ho0);obtain ⟨Ao6, co6, eo6⟩ := Kd.R_slice HO166.out;subst eo6))
 go_ret
 exact ⟨by first|rfl|(simp [errW_none, errW_some] <;> rfl)|(simp [*, errW_none, errW_some] <;> rfl), by repeat (with_reducible first|exact HB.out|apply xa|apply xb|apply xc)⟩

-- GIVEN 77 strings_Join

/-! ### census_Table: function 43 -/
mutual
def census_Table.l0 : Nat → List (S84) → List ByteArray → List Int → Int → Int → Option (List ByteArray)
 | 0, _, _, _, _, _ => none
 | k + 1, x0, x4, x5, x14, x15 => if x15 < x14 then ((event_Task.f k x0 x15).bind fun t173 => ((census_digits.f k (IntKind.u64.wrap (x15))).bind fun t176 => (census_Table.l1 k x0 x4 x5 x15 t173 (([t176] : List ByteArray)) x14 x15 x5 (x5.length : Int) 0))) else (some x4)
def census_Table.l1 : Nat → List (S84) → List ByteArray → List Int → Int → List (S84) → List ByteArray → Int → Int → List Int → Int → Int → Option (List ByteArray)
 | 0, _, _, _, _, _, _, _, _, _, _, _ => none
 | k + 1, x0, x4, x5, x6, x7, x8, x14, x15, x25, x26, x27 => if x27 < x26 then (if 0 ≤ x27 then (if x27 < (x25.length : Int) then ((event_Count.f k x7 (rd x25 x27) x6).bind fun t181 => ((census_digits.f k (IntKind.u64.wrap (t181))).bind fun t182 => (if x8.length < 8796093022208 then (census_Table.l1 k x0 x4 x5 x6 x7 (x8 ++ [t182]) x14 x15 x25 x26 (wrap64 (x27 + 1))) else (none)))) else (none)) else (none)) else ((strings_Join.f x8 (⟨#[32]⟩ : ByteArray)).bind fun t186 => (if x4.length < 8796093022208 then (census_Table.l0 k x0 (x4 ++ [t186]) x5 x14 (wrap64 (x15 + 1))) else (none)))
end
def census_Table.f (k : Nat) (l0 : List (S84)) (a1 : Int) : Option (List ByteArray) := census_Table.l0 k l0 ([] : List ByteArray) (([3, 2, 4, 5, 8, 11] : List Int)) (mx 0 (mn a1 256)) 0
theorem census_Table.mono_l : ∀ k, (∀ y0 y1 y2 y3 y4, LeO (census_Table.l0 k y0 y1 y2 y3 y4) (census_Table.l0 (k + 1) y0 y1 y2 y3 y4)) ∧ (∀ y0 y1 y2 y3 y4 y5 y6 y7 y8 y9 y10, LeO (census_Table.l1 k y0 y1 y2 y3 y4 y5 y6 y7 y8 y9 y10) (census_Table.l1 (k + 1) y0 y1 y2 y3 y4 y5 y6 y7 y8 y9 y10))
 | 0 => ⟨fun _ _ _ _ _ r h => by simp [census_Table.l0] at h, fun _ _ _ _ _ _ _ _ _ _ _ r h => by simp [census_Table.l1] at h⟩
 | k + 1 => by
  obtain ⟨ih0, ih1⟩ := census_Table.mono_l k
  refine ⟨?_, ?_⟩
  ·intro y0 y1 y2 y3 y4
   unfold census_Table.l0
   repeat' first
   | (with_reducible exact ih0 _ _ _ _ _)
   | (with_reducible exact ih1 _ _ _ _ _ _ _ _ _ _ _)
   | (with_reducible exact census_digits.mono _ _)
   | (with_reducible exact event_Count.mono _ _ _ _)
   | (with_reducible exact event_Task.mono _ _ _)
   | (with_reducible exact LeO.refl _)
   | (with_reducible exact LeO.none _)
   | (with_reducible refine LeO.ite ?_ ?_)
   | (with_reducible refine LeO.bind ?_ (fun _ => ?_))
   | exact ih0 _ _ _ _ _
   | exact ih1 _ _ _ _ _ _ _ _ _ _ _
   | exact census_digits.mono _ _
   | exact event_Count.mono _ _ _ _
   | exact event_Task.mono _ _ _
   | exact LeO.none _
   | refine LeO.ite ?_ ?_
   | refine LeO.bind ?_ (fun _ => ?_)
  ·intro y0 y1 y2 y3 y4 y5 y6 y7 y8 y9 y10
   unfold census_Table.l1
   repeat' first
   | (with_reducible exact ih0 _ _ _ _ _)
   | (with_reducible exact ih1 _ _ _ _ _ _ _ _ _ _ _)
   | (with_reducible exact census_digits.mono _ _)
   | (with_reducible exact event_Count.mono _ _ _ _)
   | (with_reducible exact event_Task.mono _ _ _)
   | (with_reducible exact LeO.refl _)
   | (with_reducible exact LeO.none _)
   | (with_reducible refine LeO.ite ?_ ?_)
   | (with_reducible refine LeO.bind ?_ (fun _ => ?_))
   | exact ih0 _ _ _ _ _
   | exact ih1 _ _ _ _ _ _ _ _ _ _ _
   | exact census_digits.mono _ _
   | exact event_Count.mono _ _ _ _
   | exact event_Task.mono _ _ _
   | exact LeO.none _
   | refine LeO.ite ?_ ?_
   | refine LeO.bind ?_ (fun _ => ?_)
theorem census_Table.mono : ∀ a0 a1 k, LeO (census_Table.f k a0 a1) (census_Table.f (k + 1) a0 a1) := by
 intro a0 a1 k
 obtain ⟨ih0, ih1⟩ := census_Table.mono_l k
 unfold census_Table.f
 repeat' first
   | (with_reducible exact ih0 _ _ _ _ _)
   | (with_reducible exact ih1 _ _ _ _ _ _ _ _ _ _ _)
   | (with_reducible exact census_digits.mono _ _)
   | (with_reducible exact event_Count.mono _ _ _ _)
   | (with_reducible exact event_Task.mono _ _ _)
   | (with_reducible exact LeO.refl _)
   | (with_reducible exact LeO.none _)
   | (with_reducible refine LeO.ite ?_ ?_)
   | (with_reducible refine LeO.bind ?_ (fun _ => ?_))
   | exact ih0 _ _ _ _ _
   | exact ih1 _ _ _ _ _ _ _ _ _ _ _
   | exact census_digits.mono _ _
   | exact event_Count.mono _ _ _ _
   | exact event_Task.mono _ _ _
   | exact LeO.none _
   | refine LeO.ite ?_ ?_
   | refine LeO.bind ?_ (fun _ => ?_)
set_option maxHeartbeats 8000000 in
set_option maxRecDepth 100000 in
theorem census_Table.calls (k : Nat) (A0 : Option Addr) (c0 : Nat) (l0 : List (S84)) (a1 : Int) (r : List ByteArray) (w : World) (hr0 : Kd.C k84 w A0 l0.length l0) (hc0 : l0.length ≤ c0) (h : census_Table.f k l0 a1 = some r) :
  Calls Try.prog 43 #[.slice A0 l0.length c0, .int .i64 a1] w fun e w' => ∃ v0_ : Value, e = .returned (v0_) ∧ Kd.R Kd.string 9 w' w.heap.size (fun _ => True) v0_ r ∧ Below w.heap.size w w' := by
 have HR0 := Aside0.mk hr0
 have HC0 := Aside0.mk hc0
 clear hr0 hc0
 have HB := Aside0.mk (Below.refl w.heap.size w)
 have H : (census_Table.l0 k l0 ([] : List ByteArray) (([3, 2, 4, 5, 8, 11] : List Int)) (mx 0 (mn a1 256)) 0) = some r := h
 clear h
 obtain ⟨y170, hy170⟩ : ∃ y_ : List Int, y_ = (([3, 2, 4, 5, 8, 11] : List Int)) := ⟨_, rfl⟩
 replace H : (census_Table.l0 k l0 ([] : List ByteArray) y170 (mx 0 (mn a1 256)) 0) = some r := by first|(rw [hy170];with_reducible exact H)|(have H2_ := (Option.bind_some _ _).symm.trans H;rw [hy170];with_reducible exact H2_)|(have H2_ := (Option.bind_some _ _).symm.trans H;with_reducible exact H2_)|with_reducible exact H|(rw [hy170];exact H)|exact H
 have Ny170 := Aside0.mk hy170
 clear hy170
 obtain ⟨ji3, hji3⟩ : ∃ j_ : Int, (mn a1 256) = j_ := ⟨_, rfl⟩
 replace H : (census_Table.l0 k l0 ([] : List ByteArray) y170 (mx 0 (ji3)) 0) = some r := by first|(rw [hji3] at H;exact H)|(simp only [hji3] at H ⊢;exact H)
 (try (have hji3h : ji3 ≤ 256 := by (rw [← hji3];unfold mn;(repeat' split) <;> omega)))
 (try (have hji3g : ji3 ≤ 64 := by omega))
 have hji3_ : (if 256 < a1 then 256 else a1) = ji3 := hji3
 obtain ⟨ji4, hji4⟩ : ∃ j_ : Int, (mx 0 (ji3)) = j_ := ⟨_, rfl⟩
 replace H : (census_Table.l0 k l0 ([] : List ByteArray) y170 ji4 0) = some r := by first|(rw [hji4] at H;exact H)|(simp only [hji4] at H ⊢;exact H)
 have hji4_ : (if 0 < (ji3) then (ji3) else 0) = ji4 := hji4
 have H' := Aside0.mk H
 clear H
 go_enter Try.func43, Try.ntmps43
 go_wp2_with (first|((with_reducible refine gate_dst (N := 11) rfl ?_);refine Kd.R_lit (Kd.int .i64) _ 3 ?hg (N := 11) ?hd (xs := ([3, 2, 4, 5, 8, 11] : List Int)) (inner := [.int .i64 3, .int .i64 2, .int .i64 4, .int .i64 5, .int .i64 8, .int .i64 11]) (ok := fun _ => True) (okp := fun _ => True) ?hr ?hp (fun _ hk => hk) trivial (Below.refl _ _) (Nat.le_refl _) (by simp) ?_;(case hd => rfl);(case hg => rfl);(case hr => first|(go_simp;done)|(go_simp;rfl));(case hp => exact (Reps.one (show Kd.M (Kd.int .i64) _ _ _ 3 [.int .i64 3] from rfl) (Reps.one (show Kd.M (Kd.int .i64) _ _ _ 2 [.int .i64 2] from rfl) (Reps.one (show Kd.M (Kd.int .i64) _ _ _ 4 [.int .i64 4] from rfl) (Reps.one (show Kd.M (Kd.int .i64) _ _ _ 5 [.int .i64 5] from rfl) (Reps.one (show Kd.M (Kd.int .i64) _ _ _ 8 [.int .i64 8] from rfl) (Reps.one (show Kd.M (Kd.int .i64) _ _ _ 11 [.int .i64 11] from rfl) (Reps.none _ _))))))));intro v171 w5 ho6 hb hg_ hnew_;clear hg_ hnew_;(first|rw [← Ny170.out] at ho6|(simp only [Int.reduceToNat] at ho6;rw [← Ny170.out] at ho6));have n0_ := Aside0.mk (Kd.R_lower ho6 (below_size (by repeat (with_reducible first|exact HB.out|apply xa|apply xb|apply xc))));have n1_ := Aside0.mk (below_step (by repeat (with_reducible first|exact HB.out|apply xa|apply xb|apply xc)) hb);clear HB;have HO172 := n0_;have HB := n1_;clear n0_ n1_;clear hb ho6))
 go_loopg [4, 15] k (fun kq v4 v15 w' => ∃ (x4_1 : List ByteArray) (x15_1 : Int), v15 = .int .i64 x15_1 ∧ Aside0 (census_Table.l0 kq l0 x4_1 y170 ji4 x15_1 = some r) ∧ Aside0 (kq ≤ k) ∧ Aside0 (Kd.R Kd.string 9 w' w.heap.size (fun _ => True) v4 x4_1) ∧ Aside0 (Kd.R (Kd.int .i64) 3 w' w.heap.size (fun _ => True) v171 y170) ∧ Aside0 (Below w.heap.size w w'))
 case atStart => exact ⟨(([] : List ByteArray)), (0), (by first|rfl|(simp;done)|(simp [*];done)), H', ⟨Nat.le_refl _⟩, ⟨by first|exact Kd.R_nil _ _ _ _ _|exact Kd.N_nil _ _ _ _ _|exact Kd.V_nil _ _ _ _ _|exact Kd.Q_nil _ _ _ _ _|exact Kd.S_nil _ _ _ _ _⟩, ⟨by (with_reducible repeat (first|apply Kd.R_alloc|apply Kd.R_drewN|apply Kd.R_drew));exact HO172.out⟩, ⟨by repeat (with_reducible first|exact HB.out|apply xa|apply xb|apply xc)⟩⟩
 case round =>
  clear H'
  try clear p2
  try clear c4
  obtain ⟨x4_1, x15_1, rfl, HA, HK1, HO_4, HO_5, HB⟩ := hrel
  cases gk with
  | zero => exact absurd HA.out (by simp [census_Table.l0])
  | succ k1 =>
   have H := HA.out
   clear HA
   simp only [census_Table.l0] at H
   by_cases c7 : x15_1 < ji4
   ·rw [if_pos c7] at H
    have c7b0 : decide (x15_1 < ji4) = true := decide_eq_true c7
    clear c7
    replace H := Option.bind_eq_some_iff.mp H
    obtain ⟨t173, A80, H⟩ := H
    replace H : ((census_digits.f k1 (IntKind.u64.wrap (x15_1))).bind fun t176 => (census_Table.l1 k1 l0 x4_1 y170 x15_1 t173 (([t176] : List ByteArray)) ji4 x15_1 y170 (y170.length : Int) 0)) = some r := H
    have A8 := Aside0.mk A80
    clear A80
    replace H := Option.bind_eq_some_iff.mp H
    obtain ⟨t176, A90, H⟩ := H
    replace H : (census_Table.l1 k1 l0 x4_1 y170 x15_1 t173 (([t176] : List ByteArray)) ji4 x15_1 y170 (y170.length : Int) 0) = some r := H
    have A9 := Aside0.mk A90
    clear A90
    obtain ⟨y177, hy177⟩ : ∃ y_ : List ByteArray, y_ = (([t176] : List ByteArray)) := ⟨_, rfl⟩
    replace H : (census_Table.l1 k1 l0 x4_1 y170 x15_1 t173 y177 ji4 x15_1 y170 (y170.length : Int) 0) = some r := by first|(rw [hy177];with_reducible exact H)|(have H2_ := (Option.bind_some _ _).symm.trans H;rw [hy177];with_reducible exact H2_)|(have H2_ := (Option.bind_some _ _).symm.trans H;with_reducible exact H2_)|with_reducible exact H|(rw [hy177];exact H)|exact H
    have Ny177 := Aside0.mk hy177
    clear hy177
    have H' := Aside0.mk H
    clear H
    go_wp2_with (first|((with_reducible refine gate_callee (f := 74) rfl ?_);refine goesL_ (some 20) rfl rfl Try.func74 (by kernel_rfl) rfl #[.slice A0 l0.length c0, .int .i64 x15_1] rfl (by (try simp only [List.map_toArray, List.map_cons, List.map_nil]);first|done|rfl|(simp only [List.length_drop, List.length_take];rfl)) ?_;(with_reducible refine (event_Task.calls k1 _ _ l0 x15_1 t173 _ ?side1 ?side2 A8.out).mono ?_);(case side1 => repeat (first|exact (Kd.C_below HR0.out HB.out)|(with_reducible refine Kd.C_alloc ?_ _)|(with_reducible refine Kd.C_drewN ?_ _)|(with_reducible refine Kd.C_drew ?_)));(case side2 => exact HC0.out);rintro e w10 ⟨v174, rfl, ho0, hb⟩;refine ⟨_, rfl, ?_⟩;have n0_ := Aside0.mk (Kd.R_below (by (with_reducible repeat (first|apply Kd.R_alloc|apply Kd.R_drewN|apply Kd.R_drew));exact HO_4.out) hb);have n1_ := Aside0.mk (Kd.R_below (by (with_reducible repeat (first|apply Kd.R_alloc|apply Kd.R_drewN|apply Kd.R_drew));exact HO_5.out) hb);have n2_ := Aside0.mk (Kd.R_lower ho0 (below_size (by repeat (with_reducible first|exact HB.out|apply xa|apply xb|apply xc))));have n3_ := Aside0.mk (below_step (by repeat (with_reducible first|exact HB.out|apply xa|apply xb|apply xc)) hb);clear HO_4;clear HO_5;clear HB;have HO_4 := n0_;have HO_5 := n1_;have HO175 := n2_;have HB := n3_;clear n0_ n1_ n2_ n3_;(try clear hb);(try clear hb2);(try clear hk);(try clear hi);(try clear ho0))|((with_reducible refine gate_callee (f := 75) rfl ?_);refine goesL_ (some 23) rfl rfl Try.func75 (by kernel_rfl) rfl #[.int .u64 (IntKind.u64.wrap (x15_1))] rfl (by (try simp only [List.map_toArray, List.map_cons, List.map_nil]);first|done|rfl|(simp only [List.length_drop, List.length_take];rfl)) ?_;(with_reducible refine (census_digits.calls k1 (IntKind.u64.wrap (x15_1)) t176 _ A9.out).mono ?_);rintro e w' ⟨rfl, ⟨nd, rfl⟩⟩;refine ⟨_, rfl, ?_⟩)|((with_reducible refine gate_dst (N := 24) rfl ?_);refine Kd.R_lit Kd.string _ 9 ?hg (N := 24) ?hd (xs := ([t176] : List ByteArray)) (inner := [.string t176]) (ok := fun _ => True) (okp := fun _ => True) ?hr ?hp (fun _ hk => hk) trivial (Below.refl _ _) (Nat.le_refl _) (by simp) ?_;(case hd => rfl);(case hg => rfl);(case hr => first|(go_simp;done)|(go_simp;rfl));(case hp => exact (Reps.one (show Kd.M Kd.string _ _ _ t176 [.string t176] from rfl) (Reps.none _ _)));intro v178 w11 ho12 hb hg_ hnew_;clear hg_ hnew_;(first|rw [← Ny177.out] at ho12|(simp only [Int.reduceToNat] at ho12;rw [← Ny177.out] at ho12));have n0_ := Aside0.mk (Kd.R_elder' (by (with_reducible repeat (first|apply Kd.R_alloc|apply Kd.R_drewN|apply Kd.R_drew));exact HO_4.out) (Kd.R_base ho12) hb);have n1_ := Aside0.mk (Kd.R_below (by (with_reducible repeat (first|apply Kd.R_alloc|apply Kd.R_drewN|apply Kd.R_drew));exact HO_5.out) hb);have n2_ := Aside0.mk (Kd.R_below (by (with_reducible repeat (first|apply Kd.R_alloc|apply Kd.R_drewN|apply Kd.R_drew));exact HO175.out) hb);have n3_ := Aside0.mk (Kd.R_lower (Kd.R_new' ho12 (Kd.R_lt (by (with_reducible repeat (first|apply Kd.R_alloc|apply Kd.R_drewN|apply Kd.R_drew));exact HO_4.out))) (below_size (by repeat (with_reducible first|exact HB.out|apply xa|apply xb|apply xc))));have n4_ := Aside0.mk (below_step (by repeat (with_reducible first|exact HB.out|apply xa|apply xb|apply xc)) hb);clear HO_4;clear HO_5;clear HO175;clear HB;have HO_4 := n0_;have HO_5 := n1_;have HO175 := n2_;have HO179 := n3_;have HB := n4_;clear n0_ n1_ n2_ n3_ n4_;clear hb ho12;obtain ⟨Ao13, co13, eo13⟩ := Kd.R_slice HO_5.out;subst eo13))
    go_loopg [8, 27] k1 (fun kq v8 v27 w' => ∃ (x8_2 : List ByteArray) (x27_2 : Int), v27 = .int .i64 x27_2 ∧ Aside0 (census_Table.l1 kq l0 x4_1 y170 x15_1 t173 x8_2 ji4 x15_1 y170 (y170.length : Int) x27_2 = some r) ∧ Aside0 (kq ≤ k1) ∧ Aside0 (Kd.R Kd.string 9 w' w.heap.size (fun k_ => some k_ ≠ (v8 : Value).ownBlock) u4 x4_1) ∧ Aside0 (Kd.R (Kd.int .i64) 3 w' w.heap.size (fun _ => True) (.slice Ao13 y170.length co13) y170) ∧ Aside0 (Kd.R k84 84 w' w.heap.size (fun _ => True) v174 t173) ∧ Aside0 (Kd.R Kd.string 9 w' w.heap.size (fun k_ => some k_ ≠ (u4 : Value).ownBlock) v8 x8_2) ∧ Aside0 (Kd.R (Kd.int .i64) 3 w' w.heap.size (fun _ => True) (.slice Ao13 y170.length co13) y170) ∧ Aside0 (Below w.heap.size w w'))
    case atStart => exact ⟨(y177), (0), (by first|rfl|(simp;done)|(simp [*];done)), H', ⟨Nat.le_refl _⟩, ⟨by (with_reducible repeat (first|apply Kd.R_alloc|apply Kd.R_drewN|apply Kd.R_drew));exact Kd.R_mono HO_4.out (fun _ hk => hk.2)⟩, ⟨by (with_reducible repeat (first|apply Kd.R_alloc|apply Kd.R_drewN|apply Kd.R_drew));exact HO_5.out⟩, ⟨by (with_reducible repeat (first|apply Kd.R_alloc|apply Kd.R_drewN|apply Kd.R_drew));exact HO175.out⟩, ⟨by (with_reducible repeat (first|apply Kd.R_alloc|apply Kd.R_drewN|apply Kd.R_drew));exact Kd.R_mono HO179.out (fun _ hk => hk.2)⟩, ⟨by (with_reducible repeat (first|apply Kd.R_alloc|apply Kd.R_drewN|apply Kd.R_drew));exact HO_5.out⟩, ⟨by repeat (with_reducible first|exact HB.out|apply xa|apply xb|apply xc)⟩⟩
    case round =>
     clear H'
     try clear p2
     try clear c4
     try clear c7
     try clear c7b0
     try clear p2
     obtain ⟨x8_2, x27_2, rfl, HA, HK2, HO_4, HO_5, HO_7, HO_8, HO_25, HB⟩ := hrel
     cases gk with
     | zero => exact absurd HA.out (by simp [census_Table.l1])
     | succ k2 =>
      have H := HA.out
      clear HA
      simp only [census_Table.l1] at H
      by_cases c14 : x27_2 < (y170.length : Int)
      ·rw [if_pos c14] at H
       have c14b0 : decide (x27_2 < (y170.length : Int)) = true := decide_eq_true c14
       clear c14
       by_cases c15 : 0 ≤ x27_2
       ·rw [if_pos c15] at H
        have c15b0 : decide (0 ≤ x27_2) = true := decide_eq_true c15
        clear c15
        by_cases c16 : x27_2 < (y170.length : Int)
        ·rw [if_pos c16] at H
         have c16b0 : decide (x27_2 < (y170.length : Int)) = true := decide_eq_true c16
         clear c16
         replace H := Option.bind_eq_some_iff.mp H
         obtain ⟨t181, A170, H⟩ := H
         replace H : ((census_digits.f k2 (IntKind.u64.wrap (t181))).bind fun t182 => (if x8_2.length < 8796093022208 then (census_Table.l1 k2 l0 x4_1 y170 x15_1 t173 (x8_2 ++ [t182]) ji4 x15_1 y170 (y170.length : Int) (wrap64 (x27_2 + 1))) else (none))) = some r := H
         have A17 := Aside0.mk A170
         clear A170
         replace H := Option.bind_eq_some_iff.mp H
         obtain ⟨t182, A180, H⟩ := H
         replace H : (if x8_2.length < 8796093022208 then (census_Table.l1 k2 l0 x4_1 y170 x15_1 t173 (x8_2 ++ [t182]) ji4 x15_1 y170 (y170.length : Int) (wrap64 (x27_2 + 1))) else (none)) = some r := H
         have A18 := Aside0.mk A180
         clear A180
         by_cases c19 : x8_2.length < 8796093022208
         ·rw [if_pos c19] at H
          have LMc19 := Aside0.mk c19
          clear c19
          obtain ⟨y183, hy183⟩ : ∃ y_ : List ByteArray, y_ = (x8_2 ++ [t182]) := ⟨_, rfl⟩
          replace H : (census_Table.l1 k2 l0 x4_1 y170 x15_1 t173 y183 ji4 x15_1 y170 (y170.length : Int) (wrap64 (x27_2 + 1))) = some r := by first|(rw [hy183];with_reducible exact H)|(have H2_ := (Option.bind_some _ _).symm.trans H;rw [hy183];with_reducible exact H2_)|(have H2_ := (Option.bind_some _ _).symm.trans H;with_reducible exact H2_)|with_reducible exact H|(rw [hy183];exact H)|exact H
          have Ny183 := Aside0.mk hy183
          clear hy183
          have H' := Aside0.mk H
          clear H
          have p180 : 0 ≤ (x27_2 : Int) := of_decide_eq_true (by assumption)
          have q180 : x27_2 < (y170.length : Int) := of_decide_eq_true (by assumption)
          obtain ⟨ad180, e180, hx180_0⟩ := Kd.at_int (Kd.R_reads' HO_25.out).2.2 x27_2 p180 q180
          cases e180
          replace p180 := eq_true p180
          replace q180 := eq_true q180
          obtain ⟨Ao20, co20, eo20⟩ := Kd.R_slice HO_7.out
          subst eo20
          go_wp2_with (first|((with_reducible refine gate_callee (f := 76) rfl ?_);refine goesL_ (some 35) rfl rfl Try.func76 (by kernel_rfl) rfl #[.slice Ao20 t173.length co20, .int .i64 (rd y170 x27_2), .int .i64 x15_1] rfl (by (try simp only [List.map_toArray, List.map_cons, List.map_nil]);first|done|rfl|(simp only [List.length_drop, List.length_take];rfl)) ?_;(with_reducible refine (event_Count.calls k2 _ _ t173 (rd y170 x27_2) x15_1 t181 _ ?side1 ?side2 A17.out).mono ?_);(case side1 => repeat (first|exact (Kd.R_reads' HO_7.out).2.2|(with_reducible refine Kd.C_alloc ?_ _)|(with_reducible refine Kd.C_drewN ?_ _)|(with_reducible refine Kd.C_drew ?_)));(case side2 => exact (Kd.R_reads' HO_7.out).2.1);rintro e w21 ⟨rfl, hb⟩;refine ⟨_, rfl, ?_⟩;have n0_ := Aside0.mk (Kd.R_below (by (with_reducible repeat (first|apply Kd.R_alloc|apply Kd.R_drewN|apply Kd.R_drew));exact HO_4.out) hb);have n1_ := Aside0.mk (Kd.R_below (by (with_reducible repeat (first|apply Kd.R_alloc|apply Kd.R_drewN|apply Kd.R_drew));exact HO_5.out) hb);have n2_ := Aside0.mk (Kd.R_below (by (with_reducible repeat (first|apply Kd.R_alloc|apply Kd.R_drewN|apply Kd.R_drew));exact HO_7.out) hb);have n3_ := Aside0.mk (Kd.R_below (by (with_reducible repeat (first|apply Kd.R_alloc|apply Kd.R_drewN|apply Kd.R_drew));exact HO_8.out) hb);have n4_ := Aside0.mk (Kd.R_below (by (with_reducible repeat (first|apply Kd.R_alloc|apply Kd.R_drewN|apply Kd.R_drew));exact HO_25.out) hb);have n5_ := Aside0.mk (below_step (by repeat (with_reducible first|exact HB.out|apply xa|apply xb|apply xc)) hb);clear HO_4;clear HO_5;clear HO_7;clear HO_8;clear HO_25;clear HB;have HO_4 := n0_;have HO_5 := n1_;have HO_7 := n2_;have HO_8 := n3_;have HO_25 := n4_;have HB := n5_;clear n0_ n1_ n2_ n3_ n4_ n5_;(try clear hb);(try clear hb2);(try clear hk);(try clear hi))|((with_reducible refine gate_callee (f := 75) rfl ?_);refine goesL_ (some 37) rfl rfl Try.func75 (by kernel_rfl) rfl #[.int .u64 (IntKind.u64.wrap (t181))] rfl (by (try simp only [List.map_toArray, List.map_cons, List.map_nil]);first|done|rfl|(simp only [List.length_drop, List.length_take];rfl)) ?_;(with_reducible refine (census_digits.calls k2 (IntKind.u64.wrap (t181)) t182 _ A18.out).mono ?_);rintro e w' ⟨rfl, ⟨nd, rfl⟩⟩;refine ⟨_, rfl, ?_⟩)|((with_reducible refine gate_builtin (b := .append) (xs := #[.tmp 31, .tmp 38]) rfl ?_);at_builtin;refine Kd.R_append Kd.string (w0 := w) w.heap.size rfl (.tmp 31) (.tmp 38) 77 9 (.string ⟨#[]⟩) 16 rfl Try.underlying77 info9 rfl (by decide) (by omega) u8 x8_2 t182 [.string t182] (fun k_ => some k_ ≠ (u4 : Value).ownBlock) (fun _ => False) rfl rfl ?aP (fun _ hk => hk.elim) ?aF ?aO ?aB ?aS ?aL ?_;(case aP => exact rfl);(case aB => exact (by repeat (with_reducible first|exact HB.out|apply xa|apply xb|apply xc)));(case aF => exact (fun k_ hk => Kd.fresh' (Kd.R_lt (by (with_reducible repeat (first|apply Kd.R_alloc|apply Kd.R_drewN|apply Kd.R_drew));exact HO_4.out)) k_ hk));(case aO => exact (by (with_reducible repeat (first|apply Kd.R_alloc|apply Kd.R_drewN|apply Kd.R_drew));exact HO_8.out));(case aS => exact (below_size (by repeat (with_reducible first|exact HB.out|apply xa|apply xb|apply xc))));(case aL => have := LMc19.out;omega);intro v184 w22 ho hb hg hat;rw [← Ny183.out] at ho;have n0_ := Aside0.mk (Kd.R_after (ok := (fun _ => True)) (by (with_reducible repeat (first|apply Kd.R_alloc|apply Kd.R_drewN|apply Kd.R_drew));exact Kd.R_mono HO_4.out (fun _ hk => ⟨trivial, hk⟩)) hg hat);have n1_ := Aside0.mk (Kd.R_over' (by (with_reducible repeat (first|apply Kd.R_alloc|apply Kd.R_drewN|apply Kd.R_drew));exact HO_5.out) (Kd.R_typed (by (with_reducible repeat (first|apply Kd.R_alloc|apply Kd.R_drewN|apply Kd.R_drew));exact HO_8.out)) (by decide) hg);have n2_ := Aside0.mk (Kd.R_over' (by (with_reducible repeat (first|apply Kd.R_alloc|apply Kd.R_drewN|apply Kd.R_drew));exact HO_7.out) (Kd.R_typed (by (with_reducible repeat (first|apply Kd.R_alloc|apply Kd.R_drewN|apply Kd.R_drew));exact HO_8.out)) (by decide) hg);have n3_ := Aside0.mk (Kd.R_over' (by (with_reducible repeat (first|apply Kd.R_alloc|apply Kd.R_drewN|apply Kd.R_drew));exact HO_25.out) (Kd.R_typed (by (with_reducible repeat (first|apply Kd.R_alloc|apply Kd.R_drewN|apply Kd.R_drew));exact HO_8.out)) (by decide) hg);have n4_ := Aside0.mk (hb);have n5_ := Aside0.mk (ho);clear HO_4;clear HO_5;clear HO_7;clear HO_25;clear HB;clear HO_8;have HO_4 := n0_;have HO_5 := n1_;have HO_7 := n2_;have HO_25 := n3_;have HB := n4_;have HO185 := n5_;clear n0_ n1_ n2_ n3_ n4_ n5_;clear ho hb hg hat))
          (try simp only [px_add0] at *)
          go_roundg k2
          case measure => have := HK1.out;have := HK2.out;omega
          case rel => exact ⟨(y183), (wrap64 (x27_2 + 1)), (by first|rfl|(simp;done)|(simp [*];done)), H', ⟨by have := HK1.out;have := HK2.out;omega⟩, ⟨by (with_reducible repeat (first|apply Kd.R_alloc|apply Kd.R_drewN|apply Kd.R_drew));exact Kd.R_mono HO_4.out (fun _ hk => hk.2)⟩, ⟨by (with_reducible repeat (first|apply Kd.R_alloc|apply Kd.R_drewN|apply Kd.R_drew));exact HO_5.out⟩, ⟨by (with_reducible repeat (first|apply Kd.R_alloc|apply Kd.R_drewN|apply Kd.R_drew));exact HO_7.out⟩, ⟨by (with_reducible repeat (first|apply Kd.R_alloc|apply Kd.R_drewN|apply Kd.R_drew));exact HO185.out⟩, ⟨by (with_reducible repeat (first|apply Kd.R_alloc|apply Kd.R_drewN|apply Kd.R_drew));exact HO_25.out⟩, ⟨by repeat (with_reducible first|exact HB.out|apply xa|apply xb|apply xc)⟩⟩
         ·rw [if_neg c19] at H
          exact absurd H (by simp)
        ·rw [if_neg c16] at H
         exact absurd H (by simp)
       ·rw [if_neg c15] at H
        exact absurd H (by simp)
      ·rw [if_neg c14] at H
       have c14b0 : decide (x27_2 < (y170.length : Int)) = false := decide_eq_false c14
       clear c14
       replace H := Option.bind_eq_some_iff.mp H
       obtain ⟨t186, A230, H⟩ := H
       replace H : (if x4_1.length < 8796093022208 then (census_Table.l0 k2 l0 (x4_1 ++ [t186]) y170 ji4 (wrap64 (x15_1 + 1))) else (none)) = some r := H
       have A23 := Aside0.mk A230
       clear A230
       by_cases c24 : x4_1.length < 8796093022208
       ·rw [if_pos c24] at H
        have LMc24 := Aside0.mk c24
        clear c24
        obtain ⟨y187, hy187⟩ : ∃ y_ : List ByteArray, y_ = (x4_1 ++ [t186]) := ⟨_, rfl⟩
        replace H : (census_Table.l0 k2 l0 y187 y170 ji4 (wrap64 (x15_1 + 1))) = some r := by first|(rw [hy187];with_reducible exact H)|(have H2_ := (Option.bind_some _ _).symm.trans H;rw [hy187];with_reducible exact H2_)|(have H2_ := (Option.bind_some _ _).symm.trans H;with_reducible exact H2_)|with_reducible exact H|(rw [hy187];exact H)|exact H
        have Ny187 := Aside0.mk hy187
        clear hy187
        have H' := Aside0.mk H
        clear H
        obtain ⟨Ao25, co25, eo25⟩ := Kd.R_slice HO_8.out
        subst eo25
        go_wp2_with (first|((with_reducible refine gate_callee (f := 77) rfl ?_);refine goesL_ (some 43) rfl rfl Try.func77 (by kernel_rfl) rfl #[.slice Ao25 x8_2.length co25, .string (⟨#[32]⟩ : ByteArray)] rfl (by (try simp only [List.map_toArray, List.map_cons, List.map_nil]);first|done|rfl|(simp only [List.length_drop, List.length_take];rfl)) ?_;(with_reducible refine (strings_Join.calls _ _ x8_2 (⟨#[32]⟩ : ByteArray) t186 _ ?side1 ?side2 A23.out).mono ?_);(case side1 => repeat (first|exact (Kd.R_reads' HO_8.out).2.2|(with_reducible refine Kd.C_alloc ?_ _)|(with_reducible refine Kd.C_drewN ?_ _)|(with_reducible refine Kd.C_drew ?_)));(case side2 => exact (Kd.R_reads' HO_8.out).2.1);rintro e w26 ⟨rfl, hb⟩;refine ⟨_, rfl, ?_⟩;have n0_ := Aside0.mk (Kd.R_below (by (with_reducible repeat (first|apply Kd.R_alloc|apply Kd.R_drewN|apply Kd.R_drew));exact HO_4.out) hb);have n1_ := Aside0.mk (Kd.R_below (by (with_reducible repeat (first|apply Kd.R_alloc|apply Kd.R_drewN|apply Kd.R_drew));exact HO_5.out) hb);have n2_ := Aside0.mk (Kd.R_below (by (with_reducible repeat (first|apply Kd.R_alloc|apply Kd.R_drewN|apply Kd.R_drew));exact HO_7.out) hb);have n3_ := Aside0.mk (Kd.R_below (by (with_reducible repeat (first|apply Kd.R_alloc|apply Kd.R_drewN|apply Kd.R_drew));exact HO_8.out) hb);have n4_ := Aside0.mk (Kd.R_below (by (with_reducible repeat (first|apply Kd.R_alloc|apply Kd.R_drewN|apply Kd.R_drew));exact HO_25.out) hb);have n5_ := Aside0.mk (below_step (by repeat (with_reducible first|exact HB.out|apply xa|apply xb|apply xc)) hb);clear HO_4;clear HO_5;clear HO_7;clear HO_8;clear HO_25;clear HB;have HO_4 := n0_;have HO_5 := n1_;have HO_7 := n2_;have HO_8 := n3_;have HO_25 := n4_;have HB := n5_;clear n0_ n1_ n2_ n3_ n4_ n5_;(try clear hb);(try clear hb2);(try clear hk);(try clear hi))|((with_reducible refine gate_builtin (b := .append) (xs := #[.tmp 41, .tmp 44]) rfl ?_);at_builtin;refine Kd.R_append Kd.string (w0 := w) w.heap.size rfl (.tmp 41) (.tmp 44) 77 9 (.string ⟨#[]⟩) 16 rfl Try.underlying77 info9 rfl (by decide) (by omega) u4 x4_1 t186 [.string t186] (fun k_ => some k_ ≠ (.slice Ao25 x8_2.length co25 : Value).ownBlock) (fun _ => False) rfl rfl ?aP (fun _ hk => hk.elim) ?aF ?aO ?aB ?aS ?aL ?_;(case aP => exact rfl);(case aB => exact (by repeat (with_reducible first|exact HB.out|apply xa|apply xb|apply xc)));(case aF => exact (fun k_ hk => Kd.fresh' (Kd.R_lt (by (with_reducible repeat (first|apply Kd.R_alloc|apply Kd.R_drewN|apply Kd.R_drew));exact HO_8.out)) k_ hk));(case aO => exact (by (with_reducible repeat (first|apply Kd.R_alloc|apply Kd.R_drewN|apply Kd.R_drew));exact HO_4.out));(case aS => exact (below_size (by repeat (with_reducible first|exact HB.out|apply xa|apply xb|apply xc))));(case aL => have := LMc24.out;omega);intro v188 w27 ho hb hg hat;rw [← Ny187.out] at ho;have n0_ := Aside0.mk (Kd.R_over' (by (with_reducible repeat (first|apply Kd.R_alloc|apply Kd.R_drewN|apply Kd.R_drew));exact HO_5.out) (Kd.R_typed (by (with_reducible repeat (first|apply Kd.R_alloc|apply Kd.R_drewN|apply Kd.R_drew));exact HO_4.out)) (by decide) hg);have n1_ := Aside0.mk (Kd.R_over' (by (with_reducible repeat (first|apply Kd.R_alloc|apply Kd.R_drewN|apply Kd.R_drew));exact HO_7.out) (Kd.R_typed (by (with_reducible repeat (first|apply Kd.R_alloc|apply Kd.R_drewN|apply Kd.R_drew));exact HO_4.out)) (by decide) hg);have n2_ := Aside0.mk (Kd.R_after (ok := (fun _ => True)) (by (with_reducible repeat (first|apply Kd.R_alloc|apply Kd.R_drewN|apply Kd.R_drew));exact Kd.R_mono HO_8.out (fun _ hk => ⟨trivial, hk⟩)) hg hat);have n3_ := Aside0.mk (Kd.R_over' (by (with_reducible repeat (first|apply Kd.R_alloc|apply Kd.R_drewN|apply Kd.R_drew));exact HO_25.out) (Kd.R_typed (by (with_reducible repeat (first|apply Kd.R_alloc|apply Kd.R_drewN|apply Kd.R_drew));exact HO_4.out)) (by decide) hg);have n4_ := Aside0.mk (hb);have n5_ := Aside0.mk (ho);clear HO_5;clear HO_7;clear HO_8;clear HO_25;clear HB;clear HO_4;have HO_5 := n0_;have HO_7 := n1_;have HO_8 := n2_;have HO_25 := n3_;have HB := n4_;have HO189 := n5_;clear n0_ n1_ n2_ n3_ n4_ n5_;clear ho hb hg hat))
        (try simp only [px_add0] at *)
        go_roundg k2
        case measure => have := HK1.out;have := HK2.out;omega
        case rel => exact ⟨(y187), (wrap64 (x15_1 + 1)), (by first|rfl|(simp;done)|(simp [*];done)), H', ⟨by have := HK1.out;have := HK2.out;omega⟩, ⟨by (with_reducible repeat (first|apply Kd.R_alloc|apply Kd.R_drewN|apply Kd.R_drew));exact Kd.R_mono HO189.out (fun _ hk => trivial)⟩, ⟨by (with_reducible repeat (first|apply Kd.R_alloc|apply Kd.R_drewN|apply Kd.R_drew));exact HO_5.out⟩, ⟨by repeat (with_reducible first|exact HB.out|apply xa|apply xb|apply xc)⟩⟩
       ·rw [if_neg c24] at H
        exact absurd H (by simp)
   ·rw [if_neg c7] at H
    have c7b0 : decide (x15_1 < ji4) = false := decide_eq_false c7
    clear c7
    obtain rfl := Option.some.inj H
    go_wp2
    go_ret
    exact ⟨_, by first|rfl|(simp [errW_none, errW_some] <;> rfl)|(simp only [← hji3, ← hji4];first|rfl|(simp [errW_none, errW_some] <;> rfl))|(simp [*, errW_none, errW_some] <;> rfl), by (with_reducible repeat (first|apply Kd.R_alloc|apply Kd.R_drewN|apply Kd.R_drew));exact HO_4.out, by repeat (with_reducible first|exact HB.out|apply xa|apply xb|apply xc)⟩

/-! ### census_Delays: function 44 -/
def census_Delays.l0 : Nat → Int → List Int → Int → List (S84) → Int → Int → Option (List Int)
 | 0, _, _, _, _, _, _ => none
 | k + 1, x1, x4, x5, x8, x9, x10 => if x10 < x9 then (if 0 ≤ x10 then (if x10 < (x8.length : Int) then (if ((rd_T84 x8 x10).f1) = x1 then (if ((rd_T84 x8 x10).f0) = 5 then (census_Delays.l0 k x1 x4 x10 x8 x9 (wrap64 (x10 + 1))) else (if ((rd_T84 x8 x10).f0) = 2 then (if x5 ≥ 0 then (if x4.length < 17592186044416 then (census_Delays.l0 k x1 (x4 ++ [wrap64 ((wrap64 (x10 - x5)) - 1)]) (-1) x8 x9 (wrap64 (x10 + 1))) else (none)) else (census_Delays.l0 k x1 x4 (-1) x8 x9 (wrap64 (x10 + 1)))) else (if ((rd_T84 x8 x10).f0) = 7 then (census_Delays.l0 k x1 x4 (-1) x8 x9 (wrap64 (x10 + 1))) else (if ((rd_T84 x8 x10).f0) = 6 then (census_Delays.l0 k x1 x4 (-1) x8 x9 (wrap64 (x10 + 1))) else (if ((rd_T84 x8 x10).f0) = 13 then (census_Delays.l0 k x1 x4 (-1) x8 x9 (wrap64 (x10 + 1))) else (census_Delays.l0 k x1 x4 x5 x8 x9 (wrap64 (x10 + 1)))))))) else (census_Delays.l0 k x1 x4 x5 x8 x9 (wrap64 (x10 + 1)))) else (none)) else (none)) else (some x4)
def census_Delays.f (k : Nat) (l0 : List (S84)) (a1 : Int) : Option (List Int) := census_Delays.l0 k a1 ([] : List Int) (-1) l0 (l0.length : Int) 0
theorem census_Delays.mono_l : ∀ k, (∀ y0 y1 y2 y3 y4 y5, LeO (census_Delays.l0 k y0 y1 y2 y3 y4 y5) (census_Delays.l0 (k + 1) y0 y1 y2 y3 y4 y5))
 | 0 => fun _ _ _ _ _ _ r h => by simp [census_Delays.l0] at h
 | k + 1 => by
  have ih0 := census_Delays.mono_l k
  ·intro y0 y1 y2 y3 y4 y5
   unfold census_Delays.l0
   repeat' first
   | (with_reducible exact ih0 _ _ _ _ _ _)
   | (with_reducible exact LeO.refl _)
   | (with_reducible exact LeO.none _)
   | (with_reducible refine LeO.ite ?_ ?_)
   | (with_reducible refine LeO.bind ?_ (fun _ => ?_))
   | exact ih0 _ _ _ _ _ _
   | exact LeO.none _
   | refine LeO.ite ?_ ?_
   | refine LeO.bind ?_ (fun _ => ?_)
theorem census_Delays.mono : ∀ a0 a1 k, LeO (census_Delays.f k a0 a1) (census_Delays.f (k + 1) a0 a1) := by
 intro a0 a1 k
 have ih0 := census_Delays.mono_l k
 unfold census_Delays.f
 repeat' first
   | (with_reducible exact ih0 _ _ _ _ _ _)
   | (with_reducible exact LeO.refl _)
   | (with_reducible exact LeO.none _)
   | (with_reducible refine LeO.ite ?_ ?_)
   | (with_reducible refine LeO.bind ?_ (fun _ => ?_))
   | exact ih0 _ _ _ _ _ _
   | exact LeO.none _
   | refine LeO.ite ?_ ?_
   | refine LeO.bind ?_ (fun _ => ?_)
set_option maxHeartbeats 8000000 in
set_option maxRecDepth 100000 in
theorem census_Delays.calls (k : Nat) (A0 : Option Addr) (c0 : Nat) (l0 : List (S84)) (a1 : Int) (r : List Int) (w : World) (hr0 : Kd.C k84 w A0 l0.length l0) (hc0 : l0.length ≤ c0) (h : census_Delays.f k l0 a1 = some r) :
  Calls Try.prog 44 #[.slice A0 l0.length c0, .int .i64 a1] w fun e w' => ∃ v0_ : Value, e = .returned (v0_) ∧ Kd.R (Kd.int .i64) 3 w' w.heap.size (fun _ => True) v0_ r ∧ Below w.heap.size w w' := by
 have hu84 := Try.underlying84
 have HR0 := Aside0.mk hr0
 have HC0 := Aside0.mk hc0
 clear hr0 hc0
 have HB := Aside0.mk (Below.refl w.heap.size w)
 have H : (census_Delays.l0 k a1 ([] : List Int) (-1) l0 (l0.length : Int) 0) = some r := h
 clear h
 have H' := Aside0.mk H
 clear H
 go_enter Try.func44, Try.ntmps44
 go_wp2
 go_loopg [4, 5, 10] k (fun kq v4 v5 v10 w' => ∃ (x4_1 : List Int) (x5_1 : Int) (x10_1 : Int), v5 = .int .i64 x5_1 ∧ v10 = .int .i64 x10_1 ∧ Aside0 (census_Delays.l0 kq a1 x4_1 x5_1 l0 (l0.length : Int) x10_1 = some r) ∧ Aside0 (kq ≤ k) ∧ Aside0 (Kd.R (Kd.int .i64) 3 w' w.heap.size (fun _ => True) v4 x4_1) ∧ Aside0 (Below w.heap.size w w'))
 case atStart => exact ⟨(([] : List Int)), ((-1)), (0), (by first|rfl|(simp;done)|(simp [*];done)), (by first|rfl|(simp;done)|(simp [*];done)), H', ⟨Nat.le_refl _⟩, ⟨by first|exact Kd.R_nil _ _ _ _ _|exact Kd.N_nil _ _ _ _ _|exact Kd.V_nil _ _ _ _ _|exact Kd.Q_nil _ _ _ _ _|exact Kd.S_nil _ _ _ _ _⟩, ⟨by repeat (with_reducible first|exact HB.out|apply xa|apply xb|apply xc)⟩⟩
 case round =>
  clear H'
  try clear p2
  obtain ⟨x4_1, x5_1, x10_1, rfl, rfl, HA, HK1, HO_4, HB⟩ := hrel
  cases gk with
  | zero => exact absurd HA.out (by simp [census_Delays.l0])
  | succ k1 =>
   have H := HA.out
   clear HA
   simp only [census_Delays.l0] at H
   by_cases c3 : x10_1 < (l0.length : Int)
   ·rw [if_pos c3] at H
    have c3b0 : decide (x10_1 < (l0.length : Int)) = true := decide_eq_true c3
    clear c3
    by_cases c4 : 0 ≤ x10_1
    ·rw [if_pos c4] at H
     have c4b0 : decide (0 ≤ x10_1) = true := decide_eq_true c4
     clear c4
     by_cases c5 : x10_1 < (l0.length : Int)
     ·rw [if_pos c5] at H
      have c5b0 : decide (x10_1 < (l0.length : Int)) = true := decide_eq_true c5
      clear c5
      by_cases c6 : ((rd_T84 l0 x10_1).f1) = a1
      ·rw [if_pos c6] at H
       have c6b0 : (((rd_T84 l0 x10_1).f1) == a1) = true := beq_iff_eq.mpr c6
       have c6b1 : (((rd_T84 l0 x10_1).f1) != a1) = false := bne_eq_false_iff_eq.mpr c6
       clear c6
       by_cases c7 : ((rd_T84 l0 x10_1).f0) = 5
       ·rw [if_pos c7] at H
        have c7b0 : (((rd_T84 l0 x10_1).f0) == 5) = true := beq_iff_eq.mpr c7
        have c7b1 : (((rd_T84 l0 x10_1).f0) != 5) = false := bne_eq_false_iff_eq.mpr c7
        clear c7
        have H' := Aside0.mk H
        clear H
        have p190 : 0 ≤ (x10_1 : Int) := of_decide_eq_true (by assumption)
        have q190 : x10_1 < (l0.length : Int) := of_decide_eq_true (by assumption)
        obtain ⟨ad190, e190, hx190_0, hx190_1, hx190_2, hx190_3, hx190_4⟩ := at_T84 HR0.out x10_1 p190 q190
        cases e190
        replace hx190_0 := (HB.out.cell (World.block_lt_of_cell? w _ hx190_0)).trans hx190_0
        replace hx190_1 := (HB.out.cell (World.block_lt_of_cell? w _ hx190_1)).trans hx190_1
        replace hx190_2 := (HB.out.cell (World.block_lt_of_cell? w _ hx190_2)).trans hx190_2
        replace hx190_3 := (HB.out.cell (World.block_lt_of_cell? w _ hx190_3)).trans hx190_3
        replace hx190_4 := (HB.out.cell (World.block_lt_of_cell? w _ hx190_4)).trans hx190_4
        replace p190 := eq_true p190
        replace q190 := eq_true q190
        go_wp2_with (first|((with_reducible refine gate_dst (N := 7) rfl ?_);refine box_event ?hg (N := 7) ?hd (cs := #[.int .i64 0, .int .i64 0, .int .i64 0, .int .i64 0, .int .i64 0]) (t := 84) ?hr ?_;(case hd => rfl);(case hg => rfl);(case hr => first|(go_simp;done)|(go_simp;rfl));intro gb191 hg w8 hbox hb;have n0_ := Aside0.mk (Kd.R_below (by (with_reducible repeat (first|apply Kd.R_alloc|apply Kd.R_drewN|apply Kd.R_drew));exact HO_4.out) hb);have n1_ := Aside0.mk (below_step (by repeat (with_reducible first|exact HB.out|apply xa|apply xb|apply xc)) hb);have n2_ := Aside0.mk (hbox);have n3_ := Aside0.mk ((by rw [hg];exact (below_size (by repeat (with_reducible first|exact HB.out|apply xa|apply xb|apply xc))) : w.heap.size ≤ gb191));have n4_ := Aside0.mk ((by rw [hg];exact (below_size (by repeat (with_reducible first|exact HB.out|apply xa|apply xb|apply xc))) : w.heap.size ≤ gb191));clear HO_4;clear HB;have HO_4 := n0_;have HB := n1_;have BK191 := n2_;have GW191 := n3_;have GE191 := n4_;clear n0_ n1_ n2_ n3_ n4_;clear hb hbox hg;have hcz9_0 : w8.cell? ⟨gb191, 0, none⟩ = some (.int .i64 0) := (blk_cell BK191.out 0).trans rfl;have hcz9_1 : w8.cell? ⟨gb191, 1, none⟩ = some (.int .i64 0) := (blk_cell BK191.out 1).trans rfl;have hcz9_2 : w8.cell? ⟨gb191, 2, none⟩ = some (.int .i64 0) := (blk_cell BK191.out 2).trans rfl;have hcz9_3 : w8.cell? ⟨gb191, 3, none⟩ = some (.int .i64 0) := (blk_cell BK191.out 3).trans rfl;have hcz9_4 : w8.cell? ⟨gb191, 4, none⟩ = some (.int .i64 0) := (blk_cell BK191.out 4).trans rfl;have hfz9_0 := blk_frozen BK191.out 0;have hfz9_1 := blk_frozen BK191.out 1;have hfz9_2 := blk_frozen BK191.out 2;have hfz9_3 := blk_frozen BK191.out 3;have hfz9_4 := blk_frozen BK191.out 4))
        (try simp only [px_add0] at *)
        go_roundg k1
        case measure => have := HK1.out;omega
        case rel => exact ⟨(x4_1), (x10_1), (wrap64 (x10_1 + 1)), (by first|rfl|(simp;done)|(simp [*];done)), (by first|rfl|(simp;done)|(simp [*];done)), H', ⟨by have := HK1.out;omega⟩, ⟨by (with_reducible repeat (first|apply Kd.R_alloc|apply Kd.R_drewN|apply Kd.R_drew));exact Kd.R_mono (Kd.R_far (p := ⟨gb191, 4, none⟩) (Kd.R_far (p := ⟨gb191, 3, none⟩) (Kd.R_far (p := ⟨gb191, 2, none⟩) (Kd.R_far (p := ⟨gb191, 1, none⟩) (Kd.R_far (p := ⟨gb191, 0, none⟩) (Kd.R_types HO_4.out BK191.out (by decide)) (fun _ hk => hk.2) (.int .i64 ((rd_T84 l0 x10_1).f0))) (fun _ hk => hk.2) (.int .i64 ((rd_T84 l0 x10_1).f1))) (fun _ hk => hk.2) (.int .i64 ((rd_T84 l0 x10_1).f2))) (fun _ hk => hk.2) (.int .i64 ((rd_T84 l0 x10_1).f3))) (fun _ hk => hk.2) (.int .i64 ((rd_T84 l0 x10_1).f4))) (fun _ hk => trivial)⟩, ⟨by repeat (first|(with_reducible first|exact HB.out|apply xa|apply xb|apply xc|refine below_set ?_ GE191.out)|exact HB.out)⟩⟩
       ·rw [if_neg c7] at H
        have c7b0 : (((rd_T84 l0 x10_1).f0) == 5) = false := beq_eq_false_iff_ne.mpr c7
        have c7b1 : (((rd_T84 l0 x10_1).f0) != 5) = true := bne_iff_ne.mpr c7
        by_cases c10 : ((rd_T84 l0 x10_1).f0) = 2
        ·rw [if_pos c10] at H
         have c10b0 : (((rd_T84 l0 x10_1).f0) == 2) = true := beq_iff_eq.mpr c10
         have c10b1 : (((rd_T84 l0 x10_1).f0) != 2) = false := bne_eq_false_iff_eq.mpr c10
         clear c10
         by_cases c11 : x5_1 ≥ 0
         ·rw [if_pos c11] at H
          have c11b0 : decide (0 ≤ x5_1) = true := decide_eq_true c11
          clear c11
          by_cases c12 : x4_1.length < 17592186044416
          ·rw [if_pos c12] at H
           have LMc12 := Aside0.mk c12
           clear c12
           obtain ⟨y192, hy192⟩ : ∃ y_ : List Int, y_ = (x4_1 ++ [wrap64 ((wrap64 (x10_1 - x5_1)) - 1)]) := ⟨_, rfl⟩
           replace H : (census_Delays.l0 k1 a1 y192 (-1) l0 (l0.length : Int) (wrap64 (x10_1 + 1))) = some r := by first|(rw [hy192];with_reducible exact H)|(have H2_ := (Option.bind_some _ _).symm.trans H;rw [hy192];with_reducible exact H2_)|(have H2_ := (Option.bind_some _ _).symm.trans H;with_reducible exact H2_)|with_reducible exact H|(rw [hy192];exact H)|exact H
           have Ny192 := Aside0.mk hy192
           clear hy192
           have H' := Aside0.mk H
           clear H
           have p190 : 0 ≤ (x10_1 : Int) := of_decide_eq_true (by assumption)
           have q190 : x10_1 < (l0.length : Int) := of_decide_eq_true (by assumption)
           obtain ⟨ad190, e190, hx190_0, hx190_1, hx190_2, hx190_3, hx190_4⟩ := at_T84 HR0.out x10_1 p190 q190
           cases e190
           replace hx190_0 := (HB.out.cell (World.block_lt_of_cell? w _ hx190_0)).trans hx190_0
           replace hx190_1 := (HB.out.cell (World.block_lt_of_cell? w _ hx190_1)).trans hx190_1
           replace hx190_2 := (HB.out.cell (World.block_lt_of_cell? w _ hx190_2)).trans hx190_2
           replace hx190_3 := (HB.out.cell (World.block_lt_of_cell? w _ hx190_3)).trans hx190_3
           replace hx190_4 := (HB.out.cell (World.block_lt_of_cell? w _ hx190_4)).trans hx190_4
           replace p190 := eq_true p190
           replace q190 := eq_true q190
           go_wp2_with (first|((with_reducible refine gate_dst (N := 7) rfl ?_);refine box_event ?hg (N := 7) ?hd (cs := #[.int .i64 0, .int .i64 0, .int .i64 0, .int .i64 0, .int .i64 0]) (t := 84) ?hr ?_;(case hd => rfl);(case hg => rfl);(case hr => first|(go_simp;done)|(go_simp;rfl));intro gb191 hg w13 hbox hb;have n0_ := Aside0.mk (Kd.R_below (by (with_reducible repeat (first|apply Kd.R_alloc|apply Kd.R_drewN|apply Kd.R_drew));exact HO_4.out) hb);have n1_ := Aside0.mk (below_step (by repeat (with_reducible first|exact HB.out|apply xa|apply xb|apply xc)) hb);have n2_ := Aside0.mk (hbox);have n3_ := Aside0.mk ((by rw [hg];exact (below_size (by repeat (with_reducible first|exact HB.out|apply xa|apply xb|apply xc))) : w.heap.size ≤ gb191));have n4_ := Aside0.mk ((by rw [hg];exact (below_size (by repeat (with_reducible first|exact HB.out|apply xa|apply xb|apply xc))) : w.heap.size ≤ gb191));clear HO_4;clear HB;have HO_4 := n0_;have HB := n1_;have BK191 := n2_;have GW191 := n3_;have GE191 := n4_;clear n0_ n1_ n2_ n3_ n4_;clear hb hbox hg;have hcz14_0 : w13.cell? ⟨gb191, 0, none⟩ = some (.int .i64 0) := (blk_cell BK191.out 0).trans rfl;have hcz14_1 : w13.cell? ⟨gb191, 1, none⟩ = some (.int .i64 0) := (blk_cell BK191.out 1).trans rfl;have hcz14_2 : w13.cell? ⟨gb191, 2, none⟩ = some (.int .i64 0) := (blk_cell BK191.out 2).trans rfl;have hcz14_3 : w13.cell? ⟨gb191, 3, none⟩ = some (.int .i64 0) := (blk_cell BK191.out 3).trans rfl;have hcz14_4 : w13.cell? ⟨gb191, 4, none⟩ = some (.int .i64 0) := (blk_cell BK191.out 4).trans rfl;have hfz14_0 := blk_frozen BK191.out 0;have hfz14_1 := blk_frozen BK191.out 1;have hfz14_2 := blk_frozen BK191.out 2;have hfz14_3 := blk_frozen BK191.out 3;have hfz14_4 := blk_frozen BK191.out 4)|((with_reducible refine gate_builtin (b := .append) (xs := #[.tmp 28, .tmp 33]) rfl ?_);at_builtin;refine Kd.R_append (Kd.int .i64) (w0 := w) w.heap.size rfl (.tmp 28) (.tmp 33) 29 3 (.int .i64 0) 8 rfl Try.underlying29 info3 rfl (by decide) (by omega) u4 x4_1 (wrap64 ((wrap64 (x10_1 - x5_1)) - 1)) [.int .i64 (wrap64 ((wrap64 (x10_1 - x5_1)) - 1))] (fun _ => True) (fun _ => False) rfl (by first|(go_simp;done)|(go_simp;rfl)) ?aP (fun _ hk => hk.elim) ?aF ?aO ?aB ?aS ?aL ?_;(case aP => exact rfl);(case aB => exact (by repeat (first|(with_reducible first|exact HB.out|apply xa|apply xb|apply xc|refine below_set ?_ GE191.out)|exact HB.out)));(case aF => exact (fun _ _ => trivial));(case aO => exact (by (with_reducible repeat (first|apply Kd.R_alloc|apply Kd.R_drewN|apply Kd.R_drew));exact Kd.R_mono (Kd.R_far (p := ⟨gb191, 4, none⟩) (Kd.R_far (p := ⟨gb191, 3, none⟩) (Kd.R_far (p := ⟨gb191, 2, none⟩) (Kd.R_far (p := ⟨gb191, 1, none⟩) (Kd.R_far (p := ⟨gb191, 0, none⟩) (Kd.R_types HO_4.out BK191.out (by decide)) (fun _ hk => hk.2) (.int .i64 ((rd_T84 l0 x10_1).f0))) (fun _ hk => hk.2) (.int .i64 ((rd_T84 l0 x10_1).f1))) (fun _ hk => hk.2) (.int .i64 ((rd_T84 l0 x10_1).f2))) (fun _ hk => hk.2) (.int .i64 ((rd_T84 l0 x10_1).f3))) (fun _ hk => hk.2) (.int .i64 ((rd_T84 l0 x10_1).f4))) (fun _ hk => trivial)));(case aS => exact (below_size (by repeat (first|(with_reducible first|exact HB.out|apply xa|apply xb|apply xc|refine below_set ?_ GE191.out)|exact HB.out))));(case aL => have := LMc12.out;omega);intro v193 w15 ho hb hg hat;rw [← Ny192.out] at ho;have n0_ := Aside0.mk (blk_grown (g := gb191) (o := .cells #[.int .i64 ((rd_T84 l0 x10_1).f0), .int .i64 ((rd_T84 l0 x10_1).f1), .int .i64 ((rd_T84 l0 x10_1).f2), .int .i64 ((rd_T84 l0 x10_1).f3), .int .i64 ((rd_T84 l0 x10_1).f4)] 84 (0, 0)) (by (with_reducible repeat (first|apply blk_drewN|apply blk_drew|apply blk_alloc));refine blk_put (cs := #[.int .i64 ((rd_T84 l0 x10_1).f0), .int .i64 ((rd_T84 l0 x10_1).f1), .int .i64 ((rd_T84 l0 x10_1).f2), .int .i64 ((rd_T84 l0 x10_1).f3), .int .i64 0]) ?_ 4 _ rfl;(with_reducible repeat (first|apply blk_drewN|apply blk_drew|apply blk_alloc));refine blk_put (cs := #[.int .i64 ((rd_T84 l0 x10_1).f0), .int .i64 ((rd_T84 l0 x10_1).f1), .int .i64 ((rd_T84 l0 x10_1).f2), .int .i64 0, .int .i64 0]) ?_ 3 _ rfl;(with_reducible repeat (first|apply blk_drewN|apply blk_drew|apply blk_alloc));refine blk_put (cs := #[.int .i64 ((rd_T84 l0 x10_1).f0), .int .i64 ((rd_T84 l0 x10_1).f1), .int .i64 0, .int .i64 0, .int .i64 0]) ?_ 2 _ rfl;(with_reducible repeat (first|apply blk_drewN|apply blk_drew|apply blk_alloc));refine blk_put (cs := #[.int .i64 ((rd_T84 l0 x10_1).f0), .int .i64 0, .int .i64 0, .int .i64 0, .int .i64 0]) ?_ 1 _ rfl;(with_reducible repeat (first|apply blk_drewN|apply blk_drew|apply blk_alloc));refine blk_put (cs := #[.int .i64 0, .int .i64 0, .int .i64 0, .int .i64 0, .int .i64 0]) ?_ 0 _ rfl;(with_reducible repeat (first|apply blk_drewN|apply blk_drew|apply blk_alloc));exact BK191.out) hg (Kd.R_ne HO_4.out BK191.out (by decide)));have n1_ := Aside0.mk (hb);have n2_ := Aside0.mk (ho);clear BK191;clear HB;clear HO_4;have BK191 := n0_;have HB := n1_;have HO194 := n2_;clear n0_ n1_ n2_;clear ho hb hg hat))
           (try simp only [px_add0] at *)
           go_roundg k1
           case measure => have := HK1.out;omega
           case rel => exact ⟨(y192), ((-1)), (wrap64 (x10_1 + 1)), (by first|rfl|(simp;done)|(simp [*];done)), (by first|rfl|(simp;done)|(simp [*];done)), H', ⟨by have := HK1.out;omega⟩, ⟨by (with_reducible repeat (first|apply Kd.R_alloc|apply Kd.R_drewN|apply Kd.R_drew));exact HO194.out⟩, ⟨by repeat (first|(with_reducible first|exact HB.out|apply xa|apply xb|apply xc|refine below_set ?_ GE191.out)|exact HB.out)⟩⟩
          ·rw [if_neg c12] at H
           exact absurd H (by simp)
         ·rw [if_neg c11] at H
          have c11b0 : decide (0 ≤ x5_1) = false := decide_eq_false c11
          clear c11
          have H' := Aside0.mk H
          clear H
          have p190 : 0 ≤ (x10_1 : Int) := of_decide_eq_true (by assumption)
          have q190 : x10_1 < (l0.length : Int) := of_decide_eq_true (by assumption)
          obtain ⟨ad190, e190, hx190_0, hx190_1, hx190_2, hx190_3, hx190_4⟩ := at_T84 HR0.out x10_1 p190 q190
          cases e190
          replace hx190_0 := (HB.out.cell (World.block_lt_of_cell? w _ hx190_0)).trans hx190_0
          replace hx190_1 := (HB.out.cell (World.block_lt_of_cell? w _ hx190_1)).trans hx190_1
          replace hx190_2 := (HB.out.cell (World.block_lt_of_cell? w _ hx190_2)).trans hx190_2
          replace hx190_3 := (HB.out.cell (World.block_lt_of_cell? w _ hx190_3)).trans hx190_3
          replace hx190_4 := (HB.out.cell (World.block_lt_of_cell? w _ hx190_4)).trans hx190_4
          replace p190 := eq_true p190
          replace q190 := eq_true q190
          go_wp2_with (first|((with_reducible refine gate_dst (N := 7) rfl ?_);refine box_event ?hg (N := 7) ?hd (cs := #[.int .i64 0, .int .i64 0, .int .i64 0, .int .i64 0, .int .i64 0]) (t := 84) ?hr ?_;(case hd => rfl);(case hg => rfl);(case hr => first|(go_simp;done)|(go_simp;rfl));intro gb191 hg w16 hbox hb;have n0_ := Aside0.mk (Kd.R_below (by (with_reducible repeat (first|apply Kd.R_alloc|apply Kd.R_drewN|apply Kd.R_drew));exact HO_4.out) hb);have n1_ := Aside0.mk (below_step (by repeat (with_reducible first|exact HB.out|apply xa|apply xb|apply xc)) hb);have n2_ := Aside0.mk (hbox);have n3_ := Aside0.mk ((by rw [hg];exact (below_size (by repeat (with_reducible first|exact HB.out|apply xa|apply xb|apply xc))) : w.heap.size ≤ gb191));have n4_ := Aside0.mk ((by rw [hg];exact (below_size (by repeat (with_reducible first|exact HB.out|apply xa|apply xb|apply xc))) : w.heap.size ≤ gb191));clear HO_4;clear HB;have HO_4 := n0_;have HB := n1_;have BK191 := n2_;have GW191 := n3_;have GE191 := n4_;clear n0_ n1_ n2_ n3_ n4_;clear hb hbox hg;have hcz17_0 : w16.cell? ⟨gb191, 0, none⟩ = some (.int .i64 0) := (blk_cell BK191.out 0).trans rfl;have hcz17_1 : w16.cell? ⟨gb191, 1, none⟩ = some (.int .i64 0) := (blk_cell BK191.out 1).trans rfl;have hcz17_2 : w16.cell? ⟨gb191, 2, none⟩ = some (.int .i64 0) := (blk_cell BK191.out 2).trans rfl;have hcz17_3 : w16.cell? ⟨gb191, 3, none⟩ = some (.int .i64 0) := (blk_cell BK191.out 3).trans rfl;have hcz17_4 : w16.cell? ⟨gb191, 4, none⟩ = some (.int .i64 0) := (blk_cell BK191.out 4).trans rfl;have hfz17_0 := blk_frozen BK191.out 0;have hfz17_1 := blk_frozen BK191.out 1;have hfz17_2 := blk_frozen BK191.out 2;have hfz17_3 := blk_frozen BK191.out 3;have hfz17_4 := blk_frozen BK191.out 4))
          (try simp only [px_add0] at *)
          go_roundg k1
          case measure => have := HK1.out;omega
          case rel => exact ⟨(x4_1), ((-1)), (wrap64 (x10_1 + 1)), (by first|rfl|(simp;done)|(simp [*];done)), (by first|rfl|(simp;done)|(simp [*];done)), H', ⟨by have := HK1.out;omega⟩, ⟨by (with_reducible repeat (first|apply Kd.R_alloc|apply Kd.R_drewN|apply Kd.R_drew));exact Kd.R_mono (Kd.R_far (p := ⟨gb191, 4, none⟩) (Kd.R_far (p := ⟨gb191, 3, none⟩) (Kd.R_far (p := ⟨gb191, 2, none⟩) (Kd.R_far (p := ⟨gb191, 1, none⟩) (Kd.R_far (p := ⟨gb191, 0, none⟩) (Kd.R_types HO_4.out BK191.out (by decide)) (fun _ hk => hk.2) (.int .i64 ((rd_T84 l0 x10_1).f0))) (fun _ hk => hk.2) (.int .i64 ((rd_T84 l0 x10_1).f1))) (fun _ hk => hk.2) (.int .i64 ((rd_T84 l0 x10_1).f2))) (fun _ hk => hk.2) (.int .i64 ((rd_T84 l0 x10_1).f3))) (fun _ hk => hk.2) (.int .i64 ((rd_T84 l0 x10_1).f4))) (fun _ hk => trivial)⟩, ⟨by repeat (first|(with_reducible first|exact HB.out|apply xa|apply xb|apply xc|refine below_set ?_ GE191.out)|exact HB.out)⟩⟩
        ·rw [if_neg c10] at H
         have c10b0 : (((rd_T84 l0 x10_1).f0) == 2) = false := beq_eq_false_iff_ne.mpr c10
         have c10b1 : (((rd_T84 l0 x10_1).f0) != 2) = true := bne_iff_ne.mpr c10
         by_cases c18 : ((rd_T84 l0 x10_1).f0) = 7
         ·rw [if_pos c18] at H
          have c18b0 : (((rd_T84 l0 x10_1).f0) == 7) = true := beq_iff_eq.mpr c18
          have c18b1 : (((rd_T84 l0 x10_1).f0) != 7) = false := bne_eq_false_iff_eq.mpr c18
          clear c18
          have H' := Aside0.mk H
          clear H
          have p190 : 0 ≤ (x10_1 : Int) := of_decide_eq_true (by assumption)
          have q190 : x10_1 < (l0.length : Int) := of_decide_eq_true (by assumption)
          obtain ⟨ad190, e190, hx190_0, hx190_1, hx190_2, hx190_3, hx190_4⟩ := at_T84 HR0.out x10_1 p190 q190
          cases e190
          replace hx190_0 := (HB.out.cell (World.block_lt_of_cell? w _ hx190_0)).trans hx190_0
          replace hx190_1 := (HB.out.cell (World.block_lt_of_cell? w _ hx190_1)).trans hx190_1
          replace hx190_2 := (HB.out.cell (World.block_lt_of_cell? w _ hx190_2)).trans hx190_2
          replace hx190_3 := (HB.out.cell (World.block_lt_of_cell? w _ hx190_3)).trans hx190_3
          replace hx190_4 := (HB.out.cell (World.block_lt_of_cell? w _ hx190_4)).trans hx190_4
          replace p190 := eq_true p190
          replace q190 := eq_true q190
          go_wp2_with (first|((with_reducible refine gate_dst (N := 7) rfl ?_);refine box_event ?hg (N := 7) ?hd (cs := #[.int .i64 0, .int .i64 0, .int .i64 0, .int .i64 0, .int .i64 0]) (t := 84) ?hr ?_;(case hd => rfl);(case hg => rfl);(case hr => first|(go_simp;done)|(go_simp;rfl));intro gb191 hg w19 hbox hb;have n0_ := Aside0.mk (Kd.R_below (by (with_reducible repeat (first|apply Kd.R_alloc|apply Kd.R_drewN|apply Kd.R_drew));exact HO_4.out) hb);have n1_ := Aside0.mk (below_step (by repeat (with_reducible first|exact HB.out|apply xa|apply xb|apply xc)) hb);have n2_ := Aside0.mk (hbox);have n3_ := Aside0.mk ((by rw [hg];exact (below_size (by repeat (with_reducible first|exact HB.out|apply xa|apply xb|apply xc))) : w.heap.size ≤ gb191));have n4_ := Aside0.mk ((by rw [hg];exact (below_size (by repeat (with_reducible first|exact HB.out|apply xa|apply xb|apply xc))) : w.heap.size ≤ gb191));clear HO_4;clear HB;have HO_4 := n0_;have HB := n1_;have BK191 := n2_;have GW191 := n3_;have GE191 := n4_;clear n0_ n1_ n2_ n3_ n4_;clear hb hbox hg;have hcz20_0 : w19.cell? ⟨gb191, 0, none⟩ = some (.int .i64 0) := (blk_cell BK191.out 0).trans rfl;have hcz20_1 : w19.cell? ⟨gb191, 1, none⟩ = some (.int .i64 0) := (blk_cell BK191.out 1).trans rfl;have hcz20_2 : w19.cell? ⟨gb191, 2, none⟩ = some (.int .i64 0) := (blk_cell BK191.out 2).trans rfl;have hcz20_3 : w19.cell? ⟨gb191, 3, none⟩ = some (.int .i64 0) := (blk_cell BK191.out 3).trans rfl;have hcz20_4 : w19.cell? ⟨gb191, 4, none⟩ = some (.int .i64 0) := (blk_cell BK191.out 4).trans rfl;have hfz20_0 := blk_frozen BK191.out 0;have hfz20_1 := blk_frozen BK191.out 1;have hfz20_2 := blk_frozen BK191.out 2;have hfz20_3 := blk_frozen BK191.out 3;have hfz20_4 := blk_frozen BK191.out 4))
          (try simp only [px_add0] at *)
          go_roundg k1
          case measure => have := HK1.out;omega
          case rel => exact ⟨(x4_1), ((-1)), (wrap64 (x10_1 + 1)), (by first|rfl|(simp;done)|(simp [*];done)), (by first|rfl|(simp;done)|(simp [*];done)), H', ⟨by have := HK1.out;omega⟩, ⟨by (with_reducible repeat (first|apply Kd.R_alloc|apply Kd.R_drewN|apply Kd.R_drew));exact Kd.R_mono (Kd.R_far (p := ⟨gb191, 4, none⟩) (Kd.R_far (p := ⟨gb191, 3, none⟩) (Kd.R_far (p := ⟨gb191, 2, none⟩) (Kd.R_far (p := ⟨gb191, 1, none⟩) (Kd.R_far (p := ⟨gb191, 0, none⟩) (Kd.R_types HO_4.out BK191.out (by decide)) (fun _ hk => hk.2) (.int .i64 ((rd_T84 l0 x10_1).f0))) (fun _ hk => hk.2) (.int .i64 ((rd_T84 l0 x10_1).f1))) (fun _ hk => hk.2) (.int .i64 ((rd_T84 l0 x10_1).f2))) (fun _ hk => hk.2) (.int .i64 ((rd_T84 l0 x10_1).f3))) (fun _ hk => hk.2) (.int .i64 ((rd_T84 l0 x10_1).f4))) (fun _ hk => trivial)⟩, ⟨by repeat (first|(with_reducible first|exact HB.out|apply xa|apply xb|apply xc|refine below_set ?_ GE191.out)|exact HB.out)⟩⟩
         ·rw [if_neg c18] at H
          have c18b0 : (((rd_T84 l0 x10_1).f0) == 7) = false := beq_eq_false_iff_ne.mpr c18
          have c18b1 : (((rd_T84 l0 x10_1).f0) != 7) = true := bne_iff_ne.mpr c18
          by_cases c21 : ((rd_T84 l0 x10_1).f0) = 6
          ·rw [if_pos c21] at H
           have c21b0 : (((rd_T84 l0 x10_1).f0) == 6) = true := beq_iff_eq.mpr c21
           have c21b1 : (((rd_T84 l0 x10_1).f0) != 6) = false := bne_eq_false_iff_eq.mpr c21
           clear c21
           have H' := Aside0.mk H
           clear H
           have p190 : 0 ≤ (x10_1 : Int) := of_decide_eq_true (by assumption)
           have q190 : x10_1 < (l0.length : Int) := of_decide_eq_true (by assumption)
           obtain ⟨ad190, e190, hx190_0, hx190_1, hx190_2, hx190_3, hx190_4⟩ := at_T84 HR0.out x10_1 p190 q190
           cases e190
           replace hx190_0 := (HB.out.cell (World.block_lt_of_cell? w _ hx190_0)).trans hx190_0
           replace hx190_1 := (HB.out.cell (World.block_lt_of_cell? w _ hx190_1)).trans hx190_1
           replace hx190_2 := (HB.out.cell (World.block_lt_of_cell? w _ hx190_2)).trans hx190_2
           replace hx190_3 := (HB.out.cell (World.block_lt_of_cell? w _ hx190_3)).trans hx190_3
           replace hx190_4 := (HB.out.cell (World.block_lt_of_cell? w _ hx190_4)).trans hx190_4
           replace p190 := eq_true p190
           replace q190 := eq_true q190
           go_wp2_with (first|((with_reducible refine gate_dst (N := 7) rfl ?_);refine box_event ?hg (N := 7) ?hd (cs := #[.int .i64 0, .int .i64 0, .int .i64 0, .int .i64 0, .int .i64 0]) (t := 84) ?hr ?_;(case hd => rfl);(case hg => rfl);(case hr => first|(go_simp;done)|(go_simp;rfl));intro gb191 hg w22 hbox hb;have n0_ := Aside0.mk (Kd.R_below (by (with_reducible repeat (first|apply Kd.R_alloc|apply Kd.R_drewN|apply Kd.R_drew));exact HO_4.out) hb);have n1_ := Aside0.mk (below_step (by repeat (with_reducible first|exact HB.out|apply xa|apply xb|apply xc)) hb);have n2_ := Aside0.mk (hbox);have n3_ := Aside0.mk ((by rw [hg];exact (below_size (by repeat (with_reducible first|exact HB.out|apply xa|apply xb|apply xc))) : w.heap.size ≤ gb191));have n4_ := Aside0.mk ((by rw [hg];exact (below_size (by repeat (with_reducible first|exact HB.out|apply xa|apply xb|apply xc))) : w.heap.size ≤ gb191));clear HO_4;clear HB;have HO_4 := n0_;have HB := n1_;have BK191 := n2_;have GW191 := n3_;have GE191 := n4_;clear n0_ n1_ n2_ n3_ n4_;clear hb hbox hg;have hcz23_0 : w22.cell? ⟨gb191, 0, none⟩ = some (.int .i64 0) := (blk_cell BK191.out 0).trans rfl;have hcz23_1 : w22.cell? ⟨gb191, 1, none⟩ = some (.int .i64 0) := (blk_cell BK191.out 1).trans rfl;have hcz23_2 : w22.cell? ⟨gb191, 2, none⟩ = some (.int .i64 0) := (blk_cell BK191.out 2).trans rfl;have hcz23_3 : w22.cell? ⟨gb191, 3, none⟩ = some (.int .i64 0) := (blk_cell BK191.out 3).trans rfl;have hcz23_4 : w22.cell? ⟨gb191, 4, none⟩ = some (.int .i64 0) := (blk_cell BK191.out 4).trans rfl;have hfz23_0 := blk_frozen BK191.out 0;have hfz23_1 := blk_frozen BK191.out 1;have hfz23_2 := blk_frozen BK191.out 2;have hfz23_3 := blk_frozen BK191.out 3;have hfz23_4 := blk_frozen BK191.out 4))
           (try simp only [px_add0] at *)
           go_roundg k1
           case measure => have := HK1.out;omega
           case rel => exact ⟨(x4_1), ((-1)), (wrap64 (x10_1 + 1)), (by first|rfl|(simp;done)|(simp [*];done)), (by first|rfl|(simp;done)|(simp [*];done)), H', ⟨by have := HK1.out;omega⟩, ⟨by (with_reducible repeat (first|apply Kd.R_alloc|apply Kd.R_drewN|apply Kd.R_drew));exact Kd.R_mono (Kd.R_far (p := ⟨gb191, 4, none⟩) (Kd.R_far (p := ⟨gb191, 3, none⟩) (Kd.R_far (p := ⟨gb191, 2, none⟩) (Kd.R_far (p := ⟨gb191, 1, none⟩) (Kd.R_far (p := ⟨gb191, 0, none⟩) (Kd.R_types HO_4.out BK191.out (by decide)) (fun _ hk => hk.2) (.int .i64 ((rd_T84 l0 x10_1).f0))) (fun _ hk => hk.2) (.int .i64 ((rd_T84 l0 x10_1).f1))) (fun _ hk => hk.2) (.int .i64 ((rd_T84 l0 x10_1).f2))) (fun _ hk => hk.2) (.int .i64 ((rd_T84 l0 x10_1).f3))) (fun _ hk => hk.2) (.int .i64 ((rd_T84 l0 x10_1).f4))) (fun _ hk => trivial)⟩, ⟨by repeat (first|(with_reducible first|exact HB.out|apply xa|apply xb|apply xc|refine below_set ?_ GE191.out)|exact HB.out)⟩⟩
          ·rw [if_neg c21] at H
           have c21b0 : (((rd_T84 l0 x10_1).f0) == 6) = false := beq_eq_false_iff_ne.mpr c21
           have c21b1 : (((rd_T84 l0 x10_1).f0) != 6) = true := bne_iff_ne.mpr c21
           by_cases c24 : ((rd_T84 l0 x10_1).f0) = 13
           ·rw [if_pos c24] at H
            have c24b0 : (((rd_T84 l0 x10_1).f0) == 13) = true := beq_iff_eq.mpr c24
            have c24b1 : (((rd_T84 l0 x10_1).f0) != 13) = false := bne_eq_false_iff_eq.mpr c24
            clear c24
            have H' := Aside0.mk H
            clear H
            have p190 : 0 ≤ (x10_1 : Int) := of_decide_eq_true (by assumption)
            have q190 : x10_1 < (l0.length : Int) := of_decide_eq_true (by assumption)
            obtain ⟨ad190, e190, hx190_0, hx190_1, hx190_2, hx190_3, hx190_4⟩ := at_T84 HR0.out x10_1 p190 q190
            cases e190
            replace hx190_0 := (HB.out.cell (World.block_lt_of_cell? w _ hx190_0)).trans hx190_0
            replace hx190_1 := (HB.out.cell (World.block_lt_of_cell? w _ hx190_1)).trans hx190_1
            replace hx190_2 := (HB.out.cell (World.block_lt_of_cell? w _ hx190_2)).trans hx190_2
            replace hx190_3 := (HB.out.cell (World.block_lt_of_cell? w _ hx190_3)).trans hx190_3
            replace hx190_4 := (HB.out.cell (World.block_lt_of_cell? w _ hx190_4)).trans hx190_4
            replace p190 := eq_true p190
            replace q190 := eq_true q190
            go_wp2_with (first|((with_reducible refine gate_dst (N := 7) rfl ?_);refine box_event ?hg (N := 7) ?hd (cs := #[.int .i64 0, .int .i64 0, .int .i64 0, .int .i64 0, .int .i64 0]) (t := 84) ?hr ?_;(case hd => rfl);(case hg => rfl);(case hr => first|(go_simp;done)|(go_simp;rfl));intro gb191 hg w25 hbox hb;have n0_ := Aside0.mk (Kd.R_below (by (with_reducible repeat (first|apply Kd.R_alloc|apply Kd.R_drewN|apply Kd.R_drew));exact HO_4.out) hb);have n1_ := Aside0.mk (below_step (by repeat (with_reducible first|exact HB.out|apply xa|apply xb|apply xc)) hb);have n2_ := Aside0.mk (hbox);have n3_ := Aside0.mk ((by rw [hg];exact (below_size (by repeat (with_reducible first|exact HB.out|apply xa|apply xb|apply xc))) : w.heap.size ≤ gb191));have n4_ := Aside0.mk ((by rw [hg];exact (below_size (by repeat (with_reducible first|exact HB.out|apply xa|apply xb|apply xc))) : w.heap.size ≤ gb191));clear HO_4;clear HB;have HO_4 := n0_;have HB := n1_;have BK191 := n2_;have GW191 := n3_;have GE191 := n4_;clear n0_ n1_ n2_ n3_ n4_;clear hb hbox hg;have hcz26_0 : w25.cell? ⟨gb191, 0, none⟩ = some (.int .i64 0) := (blk_cell BK191.out 0).trans rfl;have hcz26_1 : w25.cell? ⟨gb191, 1, none⟩ = some (.int .i64 0) := (blk_cell BK191.out 1).trans rfl;have hcz26_2 : w25.cell? ⟨gb191, 2, none⟩ = some (.int .i64 0) := (blk_cell BK191.out 2).trans rfl;have hcz26_3 : w25.cell? ⟨gb191, 3, none⟩ = some (.int .i64 0) := (blk_cell BK191.out 3).trans rfl;have hcz26_4 : w25.cell? ⟨gb191, 4, none⟩ = some (.int .i64 0) := (blk_cell BK191.out 4).trans rfl;have hfz26_0 := blk_frozen BK191.out 0;have hfz26_1 := blk_frozen BK191.out 1;have hfz26_2 := blk_frozen BK191.out 2;have hfz26_3 := blk_frozen BK191.out 3;have hfz26_4 := blk_frozen BK191.out 4))
            (try simp only [px_add0] at *)
            go_roundg k1
            case measure => have := HK1.out;omega
            case rel => exact ⟨(x4_1), ((-1)), (wrap64 (x10_1 + 1)), (by first|rfl|(simp;done)|(simp [*];done)), (by first|rfl|(simp;done)|(simp [*];done)), H', ⟨by have := HK1.out;omega⟩, ⟨by (with_reducible repeat (first|apply Kd.R_alloc|apply Kd.R_drewN|apply Kd.R_drew));exact Kd.R_mono (Kd.R_far (p := ⟨gb191, 4, none⟩) (Kd.R_far (p := ⟨gb191, 3, none⟩) (Kd.R_far (p := ⟨gb191, 2, none⟩) (Kd.R_far (p := ⟨gb191, 1, none⟩) (Kd.R_far (p := ⟨gb191, 0, none⟩) (Kd.R_types HO_4.out BK191.out (by decide)) (fun _ hk => hk.2) (.int .i64 ((rd_T84 l0 x10_1).f0))) (fun _ hk => hk.2) (.int .i64 ((rd_T84 l0 x10_1).f1))) (fun _ hk => hk.2) (.int .i64 ((rd_T84 l0 x10_1).f2))) (fun _ hk => hk.2) (.int .i64 ((rd_T84 l0 x10_1).f3))) (fun _ hk => hk.2) (.int .i64 ((rd_T84 l0 x10_1).f4))) (fun _ hk => trivial)⟩, ⟨by repeat (first|(with_reducible first|exact HB.out|apply xa|apply xb|apply xc|refine below_set ?_ GE191.out)|exact HB.out)⟩⟩
           ·rw [if_neg c24] at H
            have c24b0 : (((rd_T84 l0 x10_1).f0) == 13) = false := beq_eq_false_iff_ne.mpr c24
            have c24b1 : (((rd_T84 l0 x10_1).f0) != 13) = true := bne_iff_ne.mpr c24
            have H' := Aside0.mk H
            clear H
            have p190 : 0 ≤ (x10_1 : Int) := of_decide_eq_true (by assumption)
            have q190 : x10_1 < (l0.length : Int) := of_decide_eq_true (by assumption)
            obtain ⟨ad190, e190, hx190_0, hx190_1, hx190_2, hx190_3, hx190_4⟩ := at_T84 HR0.out x10_1 p190 q190
            cases e190
            replace hx190_0 := (HB.out.cell (World.block_lt_of_cell? w _ hx190_0)).trans hx190_0
            replace hx190_1 := (HB.out.cell (World.block_lt_of_cell? w _ hx190_1)).trans hx190_1
            replace hx190_2 := (HB.out.cell (World.block_lt_of_cell? w _ hx190_2)).trans hx190_2
            replace hx190_3 := (HB.out.cell (World.block_lt_of_cell? w _ hx190_3)).trans hx190_3
            replace hx190_4 := (HB.out.cell (World.block_lt_of_cell? w _ hx190_4)).trans hx190_4
            replace p190 := eq_true p190
            replace q190 := eq_true q190
            go_wp2_with (first|((with_reducible refine gate_dst (N := 7) rfl ?_);refine box_event ?hg (N := 7) ?hd (cs := #[.int .i64 0, .int .i64 0, .int .i64 0, .int .i64 0, .int .i64 0]) (t := 84) ?hr ?_;(case hd => rfl);(case hg => rfl);(case hr => first|(go_simp;done)|(go_simp;rfl));intro gb191 hg w27 hbox hb;have n0_ := Aside0.mk (Kd.R_below (by (with_reducible repeat (first|apply Kd.R_alloc|apply Kd.R_drewN|apply Kd.R_drew));exact HO_4.out) hb);have n1_ := Aside0.mk (below_step (by repeat (with_reducible first|exact HB.out|apply xa|apply xb|apply xc)) hb);have n2_ := Aside0.mk (hbox);have n3_ := Aside0.mk ((by rw [hg];exact (below_size (by repeat (with_reducible first|exact HB.out|apply xa|apply xb|apply xc))) : w.heap.size ≤ gb191));have n4_ := Aside0.mk ((by rw [hg];exact (below_size (by repeat (with_reducible first|exact HB.out|apply xa|apply xb|apply xc))) : w.heap.size ≤ gb191));clear HO_4;clear HB;have HO_4 := n0_;have HB := n1_;have BK191 := n2_;have GW191 := n3_;have GE191 := n4_;clear n0_ n1_ n2_ n3_ n4_;clear hb hbox hg;have hcz28_0 : w27.cell? ⟨gb191, 0, none⟩ = some (.int .i64 0) := (blk_cell BK191.out 0).trans rfl;have hcz28_1 : w27.cell? ⟨gb191, 1, none⟩ = some (.int .i64 0) := (blk_cell BK191.out 1).trans rfl;have hcz28_2 : w27.cell? ⟨gb191, 2, none⟩ = some (.int .i64 0) := (blk_cell BK191.out 2).trans rfl;have hcz28_3 : w27.cell? ⟨gb191, 3, none⟩ = some (.int .i64 0) := (blk_cell BK191.out 3).trans rfl;have hcz28_4 : w27.cell? ⟨gb191, 4, none⟩ = some (.int .i64 0) := (blk_cell BK191.out 4).trans rfl;have hfz28_0 := blk_frozen BK191.out 0;have hfz28_1 := blk_frozen BK191.out 1;have hfz28_2 := blk_frozen BK191.out 2;have hfz28_3 := blk_frozen BK191.out 3;have hfz28_4 := blk_frozen BK191.out 4))
            (try simp only [px_add0] at *)
            go_roundg k1
            case measure => have := HK1.out;omega
            case rel => exact ⟨(x4_1), (x5_1), (wrap64 (x10_1 + 1)), (by first|rfl|(simp;done)|(simp [*];done)), (by first|rfl|(simp;done)|(simp [*];done)), H', ⟨by have := HK1.out;omega⟩, ⟨by (with_reducible repeat (first|apply Kd.R_alloc|apply Kd.R_drewN|apply Kd.R_drew));exact Kd.R_mono (Kd.R_far (p := ⟨gb191, 4, none⟩) (Kd.R_far (p := ⟨gb191, 3, none⟩) (Kd.R_far (p := ⟨gb191, 2, none⟩) (Kd.R_far (p := ⟨gb191, 1, none⟩) (Kd.R_far (p := ⟨gb191, 0, none⟩) (Kd.R_types HO_4.out BK191.out (by decide)) (fun _ hk => hk.2) (.int .i64 ((rd_T84 l0 x10_1).f0))) (fun _ hk => hk.2) (.int .i64 ((rd_T84 l0 x10_1).f1))) (fun _ hk => hk.2) (.int .i64 ((rd_T84 l0 x10_1).f2))) (fun _ hk => hk.2) (.int .i64 ((rd_T84 l0 x10_1).f3))) (fun _ hk => hk.2) (.int .i64 ((rd_T84 l0 x10_1).f4))) (fun _ hk => trivial)⟩, ⟨by repeat (first|(with_reducible first|exact HB.out|apply xa|apply xb|apply xc|refine below_set ?_ GE191.out)|exact HB.out)⟩⟩
      ·rw [if_neg c6] at H
       have c6b0 : (((rd_T84 l0 x10_1).f1) == a1) = false := beq_eq_false_iff_ne.mpr c6
       have c6b1 : (((rd_T84 l0 x10_1).f1) != a1) = true := bne_iff_ne.mpr c6
       have H' := Aside0.mk H
       clear H
       have p190 : 0 ≤ (x10_1 : Int) := of_decide_eq_true (by assumption)
       have q190 : x10_1 < (l0.length : Int) := of_decide_eq_true (by assumption)
       obtain ⟨ad190, e190, hx190_0, hx190_1, hx190_2, hx190_3, hx190_4⟩ := at_T84 HR0.out x10_1 p190 q190
       cases e190
       replace hx190_0 := (HB.out.cell (World.block_lt_of_cell? w _ hx190_0)).trans hx190_0
       replace hx190_1 := (HB.out.cell (World.block_lt_of_cell? w _ hx190_1)).trans hx190_1
       replace hx190_2 := (HB.out.cell (World.block_lt_of_cell? w _ hx190_2)).trans hx190_2
       replace hx190_3 := (HB.out.cell (World.block_lt_of_cell? w _ hx190_3)).trans hx190_3
       replace hx190_4 := (HB.out.cell (World.block_lt_of_cell? w _ hx190_4)).trans hx190_4
       replace p190 := eq_true p190
       replace q190 := eq_true q190
       go_wp2_with (first|((with_reducible refine gate_dst (N := 7) rfl ?_);refine box_event ?hg (N := 7) ?hd (cs := #[.int .i64 0, .int .i64 0, .int .i64 0, .int .i64 0, .int .i64 0]) (t := 84) ?hr ?_;(case hd => rfl);(case hg => rfl);(case hr => first|(go_simp;done)|(go_simp;rfl));intro gb191 hg w29 hbox hb;have n0_ := Aside0.mk (Kd.R_below (by (with_reducible repeat (first|apply Kd.R_alloc|apply Kd.R_drewN|apply Kd.R_drew));exact HO_4.out) hb);have n1_ := Aside0.mk (below_step (by repeat (with_reducible first|exact HB.out|apply xa|apply xb|apply xc)) hb);have n2_ := Aside0.mk (hbox);have n3_ := Aside0.mk ((by rw [hg];exact (below_size (by repeat (with_reducible first|exact HB.out|apply xa|apply xb|apply xc))) : w.heap.size ≤ gb191));have n4_ := Aside0.mk ((by rw [hg];exact (below_size (by repeat (with_reducible first|exact HB.out|apply xa|apply xb|apply xc))) : w.heap.size ≤ gb191));clear HO_4;clear HB;have HO_4 := n0_;have HB := n1_;have BK191 := n2_;have GW191 := n3_;have GE191 := n4_;clear n0_ n1_ n2_ n3_ n4_;clear hb hbox hg;have hcz30_0 : w29.cell? ⟨gb191, 0, none⟩ = some (.int .i64 0) := (blk_cell BK191.out 0).trans rfl;have hcz30_1 : w29.cell? ⟨gb191, 1, none⟩ = some (.int .i64 0) := (blk_cell BK191.out 1).trans rfl;have hcz30_2 : w29.cell? ⟨gb191, 2, none⟩ = some (.int .i64 0) := (blk_cell BK191.out 2).trans rfl;have hcz30_3 : w29.cell? ⟨gb191, 3, none⟩ = some (.int .i64 0) := (blk_cell BK191.out 3).trans rfl;have hcz30_4 : w29.cell? ⟨gb191, 4, none⟩ = some (.int .i64 0) := (blk_cell BK191.out 4).trans rfl;have hfz30_0 := blk_frozen BK191.out 0;have hfz30_1 := blk_frozen BK191.out 1;have hfz30_2 := blk_frozen BK191.out 2;have hfz30_3 := blk_frozen BK191.out 3;have hfz30_4 := blk_frozen BK191.out 4))
       (try simp only [px_add0] at *)
       go_roundg k1
       case measure => have := HK1.out;omega
       case rel => exact ⟨(x4_1), (x5_1), (wrap64 (x10_1 + 1)), (by first|rfl|(simp;done)|(simp [*];done)), (by first|rfl|(simp;done)|(simp [*];done)), H', ⟨by have := HK1.out;omega⟩, ⟨by (with_reducible repeat (first|apply Kd.R_alloc|apply Kd.R_drewN|apply Kd.R_drew));exact Kd.R_mono (Kd.R_far (p := ⟨gb191, 4, none⟩) (Kd.R_far (p := ⟨gb191, 3, none⟩) (Kd.R_far (p := ⟨gb191, 2, none⟩) (Kd.R_far (p := ⟨gb191, 1, none⟩) (Kd.R_far (p := ⟨gb191, 0, none⟩) (Kd.R_types HO_4.out BK191.out (by decide)) (fun _ hk => hk.2) (.int .i64 ((rd_T84 l0 x10_1).f0))) (fun _ hk => hk.2) (.int .i64 ((rd_T84 l0 x10_1).f1))) (fun _ hk => hk.2) (.int .i64 ((rd_T84 l0 x10_1).f2))) (fun _ hk => hk.2) (.int .i64 ((rd_T84 l0 x10_1).f3))) (fun _ hk => hk.2) (.int .i64 ((rd_T84 l0 x10_1).f4))) (fun _ hk => trivial)⟩, ⟨by repeat (first|(with_reducible first|exact HB.out|apply xa|apply xb|apply xc|refine below_set ?_ GE191.out)|exact HB.out)⟩⟩
     ·rw [if_neg c5] at H
      exact absurd H (by simp)
    ·rw [if_neg c4] at H
     exact absurd H (by simp)
   ·rw [if_neg c3] at H
    have c3b0 : decide (x10_1 < (l0.length : Int)) = false := decide_eq_false c3
    clear c3
    obtain rfl := Option.some.inj H
    go_wp2
    go_ret
    exact ⟨_, by first|rfl|(simp [errW_none, errW_some] <;> rfl)|(simp [*, errW_none, errW_some] <;> rfl), by (with_reducible repeat (first|apply Kd.R_alloc|apply Kd.R_drewN|apply Kd.R_drew));exact HO_4.out, by repeat (with_reducible first|exact HB.out|apply xa|apply xb|apply xc)⟩

end Go.Proofs.Ytidhcdifmcffcaa.PCen
