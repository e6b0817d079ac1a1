/- Functions of the program as Lean functions, and proofs that the code comes to their answers: printed by this session's program. -/
import Derived.Test.YtgiimdoabkcoaaaPCoax0
namespace Go.Proofs.Ytgiimdoabkcoaaa.PCoa
open Go.RowKit Go.Proofs.YtgiimdoabkcoaaaW.PrintWords Go.Proofs.YtgiimdoabkcoaaaW.PrintLast Go.Proofs.YtgiimdoabkcoaaaW.PrintMore
attribute [local go_sem] max2_int min2_int max_two min_two max_three min_three max_four min_four   -- for this text's walks alone
set_option linter.unusedVariables false
set_option linter.unusedSimpArgs false

/-! ### pinfoldref14_told: function 136 -/
mutual
def pinfoldref14_told.l0 : Nat → Int → Bool → Bool → List (S95) → Int → Int → Bool → Int → Int → Int → List (S95) → List Int → Bool → Int → Int → Int → List (S95) → List Int → Option (Bool × Int × Int × Int × (List (S95)) × List Int)
 | 0, _, _, _, _, _, _, _, _, _, _, _, _, _, _, _, _, _, _ => none
 | k + 1, x1, x6, x7, x15, x16, x17, x129000, x129001, x129002, x129003, x129004, x129005, x131000, x131001, x131002, x131003, x131004, x131005 => if x17 < x16 then (if 0 ≤ x17 then (if x17 < (x15.length : Int) then (if ((rd_T95 x15 x17).f1) = x1 then (if x6 = true then (if x7 = true then (if x131004.length < 8796093022208 then (pinfoldref14_told.l0 k x1 x6 true x15 x16 (wrap64 (x17 + 1)) x129000 x129001 x129002 x129003 x129004 x129005 x131000 x131001 x131002 x131003 (x131004 ++ [(⟨(rd_T95 x15 x17).f0, (rd_T95 x15 x17).f1⟩ : S95)]) x131005) else (none)) else (if x131004.length < 8796093022208 then (pinfoldref14_told.l0 k x1 x6 (((rd_T95 x15 x17).f1) == x1) x15 x16 (wrap64 (x17 + 1)) x129000 x129001 x129002 x129003 x129004 x129005 x131000 x131001 x131002 x131003 (x131004 ++ [(⟨(rd_T95 x15 x17).f0, (rd_T95 x15 x17).f1⟩ : S95)]) x131005) else (none))) else (pinfoldref14_told.l0 k x1 true x7 x15 x16 (wrap64 (x17 + 1)) x129000 x129001 x129002 x129003 x129004 x129005 x131000 ((rd_T95 x15 x17).f0) x131002 x131003 x131004 x131005)) else (if x7 = true then (if x131004.length < 8796093022208 then (pinfoldref14_told.l0 k x1 x6 true x15 x16 (wrap64 (x17 + 1)) x129000 x129001 x129002 x129003 x129004 x129005 x131000 x131001 x131002 x131003 (x131004 ++ [(⟨(rd_T95 x15 x17).f0, (rd_T95 x15 x17).f1⟩ : S95)]) x131005) else (none)) else (if x131004.length < 8796093022208 then (pinfoldref14_told.l0 k x1 x6 (((rd_T95 x15 x17).f1) == x1) x15 x16 (wrap64 (x17 + 1)) x129000 x129001 x129002 x129003 x129004 x129005 x131000 x131001 x131002 x131003 (x131004 ++ [(⟨(rd_T95 x15 x17).f0, (rd_T95 x15 x17).f1⟩ : S95)]) x131005) else (none)))) else (none)) else (none)) else (if x7 = true then (some (x131000, x131001, x131002, x131003, x131004, x131005)) else (pinfoldref14_told.l1 k x1 x129005 (x129005.length : Int) 0 x131000 x131001 x131002 x131003 x131004 ([] : List Int)))
def pinfoldref14_told.l1 : Nat → Int → List Int → Int → Int → Bool → Int → Int → Int → List (S95) → List Int → Option (Bool × Int × Int × Int × (List (S95)) × List Int)
 | 0, _, _, _, _, _, _, _, _, _, _ => none
 | k + 1, x1, x50, x51, x52, x131000, x131001, x131002, x131003, x131004, x131005 => if x52 < x51 then (if 0 ≤ x52 then (if x52 < (x50.length : Int) then (if (rd x50 x52) = x1 then (pinfoldref14_told.l1 k x1 x50 x51 (wrap64 (x52 + 1)) x131000 x131001 x131002 x131003 x131004 x131005) else (if x131005.length < 17592186044416 then (pinfoldref14_told.l1 k x1 x50 x51 (wrap64 (x52 + 1)) x131000 x131001 x131002 x131003 x131004 (x131005 ++ [rd x50 x52])) else (none))) else (none)) else (none)) else (some (x131000, x131001, x131002, x131003, x131004, x131005))
end
def pinfoldref14_told.f (k : Nat) (a0_0 : Bool) (a0_1 : Int) (a0_2 : Int) (a0_3 : Int) (l0_4 : List (S95)) (l0_5 : List Int) (a1 : Int) : Option (Bool × Int × Int × Int × (List (S95)) × List Int) := pinfoldref14_told.l0 k a1 false false l0_4 (l0_4.length : Int) 0 a0_0 a0_1 a0_2 a0_3 l0_4 l0_5 a0_0 a0_1 a0_2 a0_3 ([] : List (S95)) l0_5
theorem pinfoldref14_told.mono_l : ∀ k, (∀ y0 y1 y2 y3 y4 y5 y6 y7 y8 y9 y10 y11 y12 y13 y14 y15 y16 y17, LeO (pinfoldref14_told.l0 k y0 y1 y2 y3 y4 y5 y6 y7 y8 y9 y10 y11 y12 y13 y14 y15 y16 y17) (pinfoldref14_told.l0 (k + 1) y0 y1 y2 y3 y4 y5 y6 y7 y8 y9 y10 y11 y12 y13 y14 y15 y16 y17)) ∧ (∀ y0 y1 y2 y3 y4 y5 y6 y7 y8 y9, LeO (pinfoldref14_told.l1 k y0 y1 y2 y3 y4 y5 y6 y7 y8 y9) (pinfoldref14_told.l1 (k + 1) y0 y1 y2 y3 y4 y5 y6 y7 y8 y9))
 | 0 => ⟨fun _ _ _ _ _ _ _ _ _ _ _ _ _ _ _ _ _ _ r h => by simp [pinfoldref14_told.l0] at h, fun _ _ _ _ _ _ _ _ _ _ r h => by simp [pinfoldref14_told.l1] at h⟩
 | k + 1 => by
  obtain ⟨ih0, ih1⟩ := pinfoldref14_told.mono_l k
  refine ⟨?_, ?_⟩
  ·intro y0 y1 y2 y3 y4 y5 y6 y7 y8 y9 y10 y11 y12 y13 y14 y15 y16 y17
   unfold pinfoldref14_told.l0
   repeat' first
   | (with_reducible exact ih0 _ _ _ _ _ _ _ _ _ _ _ _ _ _ _ _ _ _)
   | (with_reducible exact ih1 _ _ _ _ _ _ _ _ _ _)
   | (with_reducible exact LeO.refl _)
   | (with_reducible exact LeO.none _)
   | (with_reducible refine LeO.ite ?_ ?_)
   | (with_reducible refine LeO.bind ?_ (fun _ => ?_))
   | exact ih0 _ _ _ _ _ _ _ _ _ _ _ _ _ _ _ _ _ _
   | exact ih1 _ _ _ _ _ _ _ _ _ _
   | exact LeO.none _
   | refine LeO.ite ?_ ?_
   | refine LeO.bind ?_ (fun _ => ?_)
  ·intro y0 y1 y2 y3 y4 y5 y6 y7 y8 y9
   unfold pinfoldref14_told.l1
   repeat' first
   | (with_reducible exact ih0 _ _ _ _ _ _ _ _ _ _ _ _ _ _ _ _ _ _)
   | (with_reducible exact ih1 _ _ _ _ _ _ _ _ _ _)
   | (with_reducible exact LeO.refl _)
   | (with_reducible exact LeO.none _)
   | (with_reducible refine LeO.ite ?_ ?_)
   | (with_reducible refine LeO.bind ?_ (fun _ => ?_))
   | exact ih0 _ _ _ _ _ _ _ _ _ _ _ _ _ _ _ _ _ _
   | exact ih1 _ _ _ _ _ _ _ _ _ _
   | exact LeO.none _
   | refine LeO.ite ?_ ?_
   | refine LeO.bind ?_ (fun _ => ?_)
theorem pinfoldref14_told.mono : ∀ a0 a1 a2 a3 a4 a5 a6 k, LeO (pinfoldref14_told.f k a0 a1 a2 a3 a4 a5 a6) (pinfoldref14_told.f (k + 1) a0 a1 a2 a3 a4 a5 a6) := by
 intro a0 a1 a2 a3 a4 a5 a6 k
 obtain ⟨ih0, ih1⟩ := pinfoldref14_told.mono_l k
 unfold pinfoldref14_told.f
 repeat' first
   | (with_reducible exact ih0 _ _ _ _ _ _ _ _ _ _ _ _ _ _ _ _ _ _)
   | (with_reducible exact ih1 _ _ _ _ _ _ _ _ _ _)
   | (with_reducible exact LeO.refl _)
   | (with_reducible exact LeO.none _)
   | (with_reducible refine LeO.ite ?_ ?_)
   | (with_reducible refine LeO.bind ?_ (fun _ => ?_))
   | exact ih0 _ _ _ _ _ _ _ _ _ _ _ _ _ _ _ _ _ _
   | exact ih1 _ _ _ _ _ _ _ _ _ _
   | exact LeO.none _
   | refine LeO.ite ?_ ?_
   | refine LeO.bind ?_ (fun _ => ?_)
set_option maxHeartbeats 8000000 in
set_option maxRecDepth 100000 in
theorem pinfoldref14_told.calls (k : Nat) (a0_0 : Bool) (a0_1 : Int) (a0_2 : Int) (a0_3 : Int) (A0_4 : Option Addr) (c0_4 : Nat) (l0_4 : List (S95)) (P0_5_ : Nat → Prop) (u9000_ : Value) (l0_5 : List Int) (a1 : Int) (r1 : Bool) (r2 : Int) (r3 : Int) (r4 : Int) (r5 : List (S95)) (r6 : List Int) (w0 w : World) (hB : Below w0.heap.size w0 w) (hr0_4 : ∀ W_, Kept w W_ (fun k_ => P0_5_ k_) → Kd.C k95 W_ A0_4 l0_4.length l0_4) (hc0_4 : l0_4.length ≤ c0_4) (ho0_5 : Kd.R (Kd.int .i64) 3 w w0.heap.size P0_5_ u9000_ l0_5) (h : pinfoldref14_told.f k a0_0 a0_1 a0_2 a0_3 l0_4 l0_5 a1 = some (r1, r2, r3, r4, r5, r6)) :
  Calls Try.prog 136 #[.agg #[.bool a0_0, .int .i64 a0_1, .int .i64 a0_2, .int .i64 a0_3, .slice A0_4 l0_4.length c0_4, u9000_], .int .i64 a1] w fun e w' => ∃ v4_ v5_ : Value, e = .returned (.agg #[.bool r1, .int .i64 r2, .int .i64 r3, .int .i64 r4, v4_, v5_]) ∧ Kd.R k95 95 w' w0.heap.size (fun k_ => (P0_5_ k_ ∨ w.heap.size ≤ k_)) v4_ r5 ∧ Kd.R (Kd.int .i64) 3 w' w0.heap.size (fun k_ => (P0_5_ k_ ∨ w.heap.size ≤ k_)) v5_ r6 ∧ Below w0.heap.size w0 w' ∧ Kept w w' (fun k_ => P0_5_ k_) := by
 have hu156 := Try.underlying156
 have hu95 := Try.underlying95
 have HR0_4 := Aside0.mk hr0_4
 have HC0_4 := Aside0.mk hc0_4
 clear hr0_4 hc0_4
 have HO0_5 := Aside0.mk (show Kd.R (Kd.int .i64) 3 w w0.heap.size (fun k_ => (P0_5_ k_ ∨ w.heap.size ≤ k_)) u9000_ l0_5 from Kd.R_mono ho0_5 (fun k_ hk => (.inl hk)))
 have HK := Aside0.mk (Kept.refl w (fun k_ => P0_5_ k_))
 have HW0 := Aside0.mk hB.size
 have HB := Aside0.mk hB
 clear hB
 have H : (pinfoldref14_told.l0 k a1 false false l0_4 (l0_4.length : Int) 0 a0_0 a0_1 a0_2 a0_3 l0_4 l0_5 a0_0 a0_1 a0_2 a0_3 ([] : List (S95)) l0_5) = some (r1, r2, r3, r4, r5, r6) := h
 clear h
 have H' := Aside0.mk H
 clear H
 obtain ⟨Ao3, co3, eo3⟩ := Kd.R_slice HO0_5.out
 subst eo3
 go_enter Try.func136, Try.ntmps136
 go_wp2_with (first|((with_reducible refine gate_dst (N := 2) rfl ?_);refine box_event ?hg (N := 2) ?hd (cs := #[.bool a0_0, .int .i64 a0_1, .int .i64 a0_2, .int .i64 a0_3, .slice A0_4 l0_4.length c0_4, .slice Ao3 l0_5.length co3]) (t := 156) ?hr ?_;(case hd => rfl);(case hg => rfl);(case hr => first|(go_simp;done)|(go_simp;rfl));intro gb128 hg w4 hbox hb;have n0_ := Aside0.mk (Kd.R_below (by (with_reducible repeat (first|apply Kd.R_alloc|apply Kd.R_drewN|apply Kd.R_drew));exact HO0_5.out) hb);have n1_ := Aside0.mk (Kept.below (S := (fun k_ => P0_5_ k_)) (by repeat (first|(with_reducible first|exact HK.out|apply Kept.alloc|apply Kept.drewN|apply Kept.drew)|exact HK.out)) hb);have n2_ := Aside0.mk (below_step (by repeat (with_reducible first|exact HB.out|apply xa|apply xb|apply xc)) hb);have n3_ := Aside0.mk (hbox);have n4_ := Aside0.mk ((by rw [hg];exact (by first|exact HK.out.1|exact (show Kept w _ (fun k_ => P0_5_ k_) from by repeat (first|(with_reducible first|exact HK.out|apply Kept.alloc|apply Kept.drewN|apply Kept.drew)|exact HK.out)).1) : w.heap.size ≤ gb128));have n5_ := Aside0.mk ((by rw [hg];exact (below_size (by repeat (with_reducible first|exact HB.out|apply xa|apply xb|apply xc))) : w0.heap.size ≤ gb128));clear HO0_5;clear HK;clear HB;have HO0_5 := n0_;have HK := n1_;have HB := n2_;have BK128 := n3_;have GW128 := n4_;have GE128 := n5_;clear n0_ n1_ n2_ n3_ n4_ n5_;clear hb hbox hg)|((with_reducible refine gate_dst (N := 4) rfl ?_);refine box_event ?hg (N := 4) ?hd (cs := #[.bool false, .int .i64 0, .int .i64 0, .int .i64 0, .slice none 0 0, .slice none 0 0]) (t := 156) ?hr ?_;(case hd => rfl);(case hg => rfl);(case hr => first|(go_simp;done)|(go_simp;rfl));intro gb129 hg w5 hbox hb;have n0_ := Aside0.mk (Kd.R_below (by (with_reducible repeat (first|apply Kd.R_alloc|apply Kd.R_drewN|apply Kd.R_drew));exact HO0_5.out) hb);have n1_ := Aside0.mk (blk_below (g := gb128) (o := .cells #[.bool a0_0, .int .i64 a0_1, .int .i64 a0_2, .int .i64 a0_3, .slice A0_4 l0_4.length c0_4, .slice Ao3 l0_5.length co3] 156 (0, 0)) (by (with_reducible repeat (first|apply blk_drewN|apply blk_drew|apply blk_alloc));exact BK128.out) hb);have n2_ := Aside0.mk (Kept.below (S := (fun k_ => P0_5_ k_)) (by repeat (first|(with_reducible first|exact HK.out|apply Kept.alloc|apply Kept.drewN|apply Kept.drew|refine Kept.setCell ?_ (.inr GW128.out) _)|exact HK.out)) hb);have n3_ := Aside0.mk (below_step (by repeat (first|(with_reducible first|exact HB.out|apply xa|apply xb|apply xc|refine below_set ?_ GE128.out)|exact HB.out)) hb);have n4_ := Aside0.mk (hbox);have n5_ := Aside0.mk ((by rw [hg];exact (by first|exact HK.out.1|exact (show Kept w _ (fun k_ => P0_5_ k_) from by repeat (first|(with_reducible first|exact HK.out|apply Kept.alloc|apply Kept.drewN|apply Kept.drew|refine Kept.setCell ?_ (.inr GW128.out) _)|exact HK.out)).1) : w.heap.size ≤ gb129));have n6_ := Aside0.mk ((by rw [hg];exact (below_size (by repeat (first|(with_reducible first|exact HB.out|apply xa|apply xb|apply xc|refine below_set ?_ GE128.out)|exact HB.out))) : w0.heap.size ≤ gb129));have n7_ := Aside0.mk ((by rw [hg];exact Nat.ne_of_lt (blk_lt (g := gb128) (o := .cells #[.bool a0_0, .int .i64 a0_1, .int .i64 a0_2, .int .i64 a0_3, .slice A0_4 l0_4.length c0_4, .slice Ao3 l0_5.length co3] 156 (0, 0)) (by (with_reducible repeat (first|apply blk_drewN|apply blk_drew|apply blk_alloc));exact BK128.out)) : gb128 ≠ gb129));have n8_ := Aside0.mk ((by rw [hg];exact Nat.ne_of_gt (blk_lt (g := gb128) (o := .cells #[.bool a0_0, .int .i64 a0_1, .int .i64 a0_2, .int .i64 a0_3, .slice A0_4 l0_4.length c0_4, .slice Ao3 l0_5.length co3] 156 (0, 0)) (by (with_reducible repeat (first|apply blk_drewN|apply blk_drew|apply blk_alloc));exact BK128.out)) : gb129 ≠ gb128));clear HO0_5;clear BK128;clear HK;clear HB;have HO0_5 := n0_;have BK128 := n1_;have HK := n2_;have HB := n3_;have BK129 := n4_;have GW129 := n5_;have GE129 := n6_;have NB128_129 := n7_;have NB129_128 := n8_;clear n0_ n1_ n2_ n3_ n4_ n5_ n6_ n7_ n8_;clear hb hbox hg;have hnb6 := NB128_129.out;have hnc6 := NB129_128.out;have hcz7_0 : w5.cell? ⟨gb128, 0, none⟩ = some (.bool a0_0) := (blk_cell BK128.out 0).trans rfl;have hcz7_1 : w5.cell? ⟨gb128, 1, none⟩ = some (.int .i64 a0_1) := (blk_cell BK128.out 1).trans rfl;have hcz7_2 : w5.cell? ⟨gb128, 2, none⟩ = some (.int .i64 a0_2) := (blk_cell BK128.out 2).trans rfl;have hcz7_3 : w5.cell? ⟨gb128, 3, none⟩ = some (.int .i64 a0_3) := (blk_cell BK128.out 3).trans rfl;have hcz7_4 : w5.cell? ⟨gb128, 4, none⟩ = some (.slice A0_4 l0_4.length c0_4) := (blk_cell BK128.out 4).trans rfl;have hcz7_5 : w5.cell? ⟨gb128, 5, none⟩ = some (.slice Ao3 l0_5.length co3) := (blk_cell BK128.out 5).trans rfl;have hfz7_0 := blk_frozen BK128.out 0;have hfz7_1 := blk_frozen BK128.out 1;have hfz7_2 := blk_frozen BK128.out 2;have hfz7_3 := blk_frozen BK128.out 3;have hfz7_4 := blk_frozen BK128.out 4;have hfz7_5 := blk_frozen BK128.out 5)|((with_reducible refine gate_dst (N := 5) rfl ?_);refine box_event ?hg (N := 5) ?hd (cs := #[.bool false, .int .i64 0, .int .i64 0, .int .i64 0, .slice none 0 0, .slice none 0 0]) (t := 156) ?hr ?_;(case hd => rfl);(case hg => rfl);(case hr => first|(go_simp;done)|(go_simp;rfl));intro gb130 hg w8 hbox hb;have n0_ := Aside0.mk (Kd.R_below (by (with_reducible repeat (first|apply Kd.R_alloc|apply Kd.R_drewN|apply Kd.R_drew));exact HO0_5.out) hb);have n1_ := Aside0.mk (blk_below (g := gb128) (o := .cells #[.bool a0_0, .int .i64 a0_1, .int .i64 a0_2, .int .i64 a0_3, .slice A0_4 l0_4.length c0_4, .slice Ao3 l0_5.length co3] 156 (0, 0)) (by (with_reducible repeat (first|apply blk_drewN|apply blk_drew|apply blk_alloc));exact BK128.out) hb);have n2_ := Aside0.mk (blk_below (g := gb129) (o := .cells #[.bool false, .int .i64 0, .int .i64 0, .int .i64 0, .slice none 0 0, .slice none 0 0] 156 (0, 0)) (by (with_reducible repeat (first|apply blk_drewN|apply blk_drew|apply blk_alloc));exact BK129.out) hb);have n3_ := Aside0.mk (Kept.below (S := (fun k_ => P0_5_ k_)) (by repeat (first|(with_reducible first|exact HK.out|apply Kept.alloc|apply Kept.drewN|apply Kept.drew|refine Kept.setCell ?_ (.inr GW128.out) _|refine Kept.setCell ?_ (.inr GW129.out) _)|exact HK.out)) hb);have n4_ := Aside0.mk (below_step (by repeat (first|(with_reducible first|exact HB.out|apply xa|apply xb|apply xc|refine below_set ?_ GE128.out|refine below_set ?_ GE129.out)|exact HB.out)) hb);have n5_ := Aside0.mk (hbox);have n6_ := Aside0.mk ((by rw [hg];exact (by first|exact HK.out.1|exact (show Kept w _ (fun k_ => P0_5_ k_) from by repeat (first|(with_reducible first|exact HK.out|apply Kept.alloc|apply Kept.drewN|apply Kept.drew|refine Kept.setCell ?_ (.inr GW128.out) _|refine Kept.setCell ?_ (.inr GW129.out) _)|exact HK.out)).1) : w.heap.size ≤ gb130));have n7_ := Aside0.mk ((by rw [hg];exact (below_size (by repeat (first|(with_reducible first|exact HB.out|apply xa|apply xb|apply xc|refine below_set ?_ GE128.out|refine below_set ?_ GE129.out)|exact HB.out))) : w0.heap.size ≤ gb130));have n8_ := Aside0.mk ((by rw [hg];exact Nat.ne_of_lt (blk_lt (g := gb128) (o := .cells #[.bool a0_0, .int .i64 a0_1, .int .i64 a0_2, .int .i64 a0_3, .slice A0_4 l0_4.length c0_4, .slice Ao3 l0_5.length co3] 156 (0, 0)) (by (with_reducible repeat (first|apply blk_drewN|apply blk_drew|apply blk_alloc));exact BK128.out)) : gb128 ≠ gb130));have n9_ := Aside0.mk ((by rw [hg];exact Nat.ne_of_gt (blk_lt (g := gb128) (o := .cells #[.bool a0_0, .int .i64 a0_1, .int .i64 a0_2, .int .i64 a0_3, .slice A0_4 l0_4.length c0_4, .slice Ao3 l0_5.length co3] 156 (0, 0)) (by (with_reducible repeat (first|apply blk_drewN|apply blk_drew|apply blk_alloc));exact BK128.out)) : gb130 ≠ gb128));have n10_ := Aside0.mk ((by rw [hg];exact Nat.ne_of_lt (blk_lt (g := gb129) (o := .cells #[.bool false, .int .i64 0, .int .i64 0, .int .i64 0, .slice none 0 0, .slice none 0 0] 156 (0, 0)) (by (with_reducible repeat (first|apply blk_drewN|apply blk_drew|apply blk_alloc));exact BK129.out)) : gb129 ≠ gb130));have n11_ := Aside0.mk ((by rw [hg];exact Nat.ne_of_gt (blk_lt (g := gb129) (o := .cells #[.bool false, .int .i64 0, .int .i64 0, .int .i64 0, .slice none 0 0, .slice none 0 0] 156 (0, 0)) (by (with_reducible repeat (first|apply blk_drewN|apply blk_drew|apply blk_alloc));exact BK129.out)) : gb130 ≠ gb129));clear HO0_5;clear BK128;clear BK129;clear HK;clear HB;have HO0_5 := n0_;have BK128 := n1_;have BK129 := n2_;have HK := n3_;have HB := n4_;have BK130 := n5_;have GW130 := n6_;have GE130 := n7_;have NB128_130 := n8_;have NB130_128 := n9_;have NB129_130 := n10_;have NB130_129 := n11_;clear n0_ n1_ n2_ n3_ n4_ n5_ n6_ n7_ n8_ n9_ n10_ n11_;clear hb hbox hg;have hnb9 := NB130_128.out;have hnc9 := NB128_130.out;have hnb10 := NB130_129.out;have hnc10 := NB129_130.out;have hcz11_0 : w8.cell? ⟨gb130, 0, none⟩ = some (.bool false) := (blk_cell BK130.out 0).trans rfl;have hcz11_1 : w8.cell? ⟨gb130, 1, none⟩ = some (.int .i64 0) := (blk_cell BK130.out 1).trans rfl;have hcz11_2 : w8.cell? ⟨gb130, 2, none⟩ = some (.int .i64 0) := (blk_cell BK130.out 2).trans rfl;have hcz11_3 : w8.cell? ⟨gb130, 3, none⟩ = some (.int .i64 0) := (blk_cell BK130.out 3).trans rfl;have hcz11_4 : w8.cell? ⟨gb130, 4, none⟩ = some (.slice none 0 0) := (blk_cell BK130.out 4).trans rfl;have hcz11_5 : w8.cell? ⟨gb130, 5, none⟩ = some (.slice none 0 0) := (blk_cell BK130.out 5).trans rfl;have hfz11_0 := blk_frozen BK130.out 0;have hfz11_1 := blk_frozen BK130.out 1;have hfz11_2 := blk_frozen BK130.out 2;have hfz11_3 := blk_frozen BK130.out 3;have hfz11_4 := blk_frozen BK130.out 4;have hfz11_5 := blk_frozen BK130.out 5;have hcz12_0 : w8.cell? ⟨gb128, 0, none⟩ = some (.bool a0_0) := (blk_cell BK128.out 0).trans rfl;have hcz12_1 : w8.cell? ⟨gb128, 1, none⟩ = some (.int .i64 a0_1) := (blk_cell BK128.out 1).trans rfl;have hcz12_2 : w8.cell? ⟨gb128, 2, none⟩ = some (.int .i64 a0_2) := (blk_cell BK128.out 2).trans rfl;have hcz12_3 : w8.cell? ⟨gb128, 3, none⟩ = some (.int .i64 a0_3) := (blk_cell BK128.out 3).trans rfl;have hcz12_4 : w8.cell? ⟨gb128, 4, none⟩ = some (.slice A0_4 l0_4.length c0_4) := (blk_cell BK128.out 4).trans rfl;have hcz12_5 : w8.cell? ⟨gb128, 5, none⟩ = some (.slice Ao3 l0_5.length co3) := (blk_cell BK128.out 5).trans rfl;have hfz12_0 := blk_frozen BK128.out 0;have hfz12_1 := blk_frozen BK128.out 1;have hfz12_2 := blk_frozen BK128.out 2;have hfz12_3 := blk_frozen BK128.out 3;have hfz12_4 := blk_frozen BK128.out 4;have hfz12_5 := blk_frozen BK128.out 5))
 go_loopg [6, 7, 17] k (fun kq v6 v7 v17 w' => ∃ (x6_1 : Bool) (x7_1 : Bool) (x17_1 : Int) (x131001_1 : Int) (x131004_1 : List (S95)) (u131004 : Value), v6 = .bool x6_1 ∧ v7 = .bool x7_1 ∧ v17 = .int .i64 x17_1 ∧ Aside0 (pinfoldref14_told.l0 kq a1 x6_1 x7_1 l0_4 (l0_4.length : Int) x17_1 a0_0 a0_1 a0_2 a0_3 l0_4 l0_5 a0_0 x131001_1 a0_2 a0_3 x131004_1 l0_5 = some (r1, r2, r3, r4, r5, r6)) ∧ Aside0 (kq ≤ k) ∧ Aside0 (Kd.R (Kd.int .i64) 3 w' w0.heap.size (fun k_ => (P0_5_ k_ ∨ w.heap.size ≤ k_)) (.slice Ao3 l0_5.length co3) l0_5) ∧ Aside0 (Kd.R k95 95 w' w0.heap.size (fun k_ => (P0_5_ k_ ∨ w.heap.size ≤ k_)) u131004 x131004_1) ∧ Aside0 (Kd.R (Kd.int .i64) 3 w' w0.heap.size (fun k_ => (P0_5_ k_ ∨ w.heap.size ≤ k_)) (.slice Ao3 l0_5.length co3) l0_5) ∧ Aside0 (w'.heap[gb128]? = some (.cells #[.bool a0_0, .int .i64 a0_1, .int .i64 a0_2, .int .i64 a0_3, (.slice A0_4 l0_4.length c0_4), (.slice Ao3 l0_5.length co3)] 156 (0, 0))) ∧ Aside0 (w'.heap[gb129]? = some (.cells #[.bool false, .int .i64 0, .int .i64 0, .int .i64 0, (.slice none 0 0), (.slice none 0 0)] 156 (0, 0))) ∧ Aside0 (w'.heap[gb130]? = some (.cells #[.bool a0_0, .int .i64 x131001_1, .int .i64 a0_2, .int .i64 a0_3, u131004, (.slice Ao3 l0_5.length co3)] 156 (0, 0))) ∧ Aside0 (Kept w w' (fun k_ => P0_5_ k_)) ∧ Aside0 (Below w0.heap.size w0 w'))
 case atStart => exact ⟨(false), (false), (0), (a0_1), (([] : List (S95))), (.slice none 0 0), (by first|rfl|(simp;done)|(simp [*];done)), (by first|rfl|(simp;done)|(simp [*];done)), (by first|rfl|(simp;done)|(simp [*];done)), H', ⟨Nat.le_refl _⟩, ⟨by (with_reducible repeat (first|apply Kd.R_alloc|apply Kd.R_drewN|apply Kd.R_drew));exact Kd.R_mono (Kd.R_far (p := ⟨gb130, 4, none⟩) (Kd.R_far (p := ⟨gb130, 5, none⟩) (Kd.R_far (p := ⟨gb130, 4, none⟩) (Kd.R_far (p := ⟨gb130, 3, none⟩) (Kd.R_far (p := ⟨gb130, 2, none⟩) (Kd.R_far (p := ⟨gb130, 1, none⟩) (Kd.R_far (p := ⟨gb130, 0, none⟩) (Kd.R_types HO0_5.out BK130.out (by decide)) (fun _ hk => hk.2) (.bool a0_0)) (fun _ hk => hk.2) (.int .i64 a0_1)) (fun _ hk => hk.2) (.int .i64 a0_2)) (fun _ hk => hk.2) (.int .i64 a0_3)) (fun _ hk => hk.2) (.slice A0_4 l0_4.length c0_4)) (fun _ hk => hk.2) (.slice Ao3 l0_5.length co3)) (fun _ hk => hk.2) (.slice none 0 0)) (fun _ hk => hk.1)⟩, ⟨by first|exact Kd.R_nil _ _ _ _ _|exact Kd.N_nil _ _ _ _ _|exact Kd.V_nil _ _ _ _ _|exact Kd.Q_nil _ _ _ _ _|exact Kd.S_nil _ _ _ _ _⟩, ⟨by (with_reducible repeat (first|apply Kd.R_alloc|apply Kd.R_drewN|apply Kd.R_drew));exact Kd.R_mono (Kd.R_far (p := ⟨gb130, 4, none⟩) (Kd.R_far (p := ⟨gb130, 5, none⟩) (Kd.R_far (p := ⟨gb130, 4, none⟩) (Kd.R_far (p := ⟨gb130, 3, none⟩) (Kd.R_far (p := ⟨gb130, 2, none⟩) (Kd.R_far (p := ⟨gb130, 1, none⟩) (Kd.R_far (p := ⟨gb130, 0, none⟩) (Kd.R_types HO0_5.out BK130.out (by decide)) (fun _ hk => hk.2) (.bool a0_0)) (fun _ hk => hk.2) (.int .i64 a0_1)) (fun _ hk => hk.2) (.int .i64 a0_2)) (fun _ hk => hk.2) (.int .i64 a0_3)) (fun _ hk => hk.2) (.slice A0_4 l0_4.length c0_4)) (fun _ hk => hk.2) (.slice Ao3 l0_5.length co3)) (fun _ hk => hk.2) (.slice none 0 0)) (fun _ hk => hk.1)⟩, ⟨by (with_reducible repeat (first|apply blk_drewN|apply blk_drew|apply blk_alloc));refine blk_far ?_ NB128_130.out _;(with_reducible repeat (first|apply blk_drewN|apply blk_drew|apply blk_alloc));refine blk_far ?_ NB128_130.out _;(with_reducible repeat (first|apply blk_drewN|apply blk_drew|apply blk_alloc));refine blk_far ?_ NB128_130.out _;(with_reducible repeat (first|apply blk_drewN|apply blk_drew|apply blk_alloc));refine blk_far ?_ NB128_130.out _;(with_reducible repeat (first|apply blk_drewN|apply blk_drew|apply blk_alloc));refine blk_far ?_ NB128_130.out _;(with_reducible repeat (first|apply blk_drewN|apply blk_drew|apply blk_alloc));refine blk_far ?_ NB128_130.out _;(with_reducible repeat (first|apply blk_drewN|apply blk_drew|apply blk_alloc));refine blk_far ?_ NB128_130.out _;(with_reducible repeat (first|apply blk_drewN|apply blk_drew|apply blk_alloc));exact BK128.out⟩, ⟨by (with_reducible repeat (first|apply blk_drewN|apply blk_drew|apply blk_alloc));refine blk_far ?_ NB129_130.out _;(with_reducible repeat (first|apply blk_drewN|apply blk_drew|apply blk_alloc));refine blk_far ?_ NB129_130.out _;(with_reducible repeat (first|apply blk_drewN|apply blk_drew|apply blk_alloc));refine blk_far ?_ NB129_130.out _;(with_reducible repeat (first|apply blk_drewN|apply blk_drew|apply blk_alloc));refine blk_far ?_ NB129_130.out _;(with_reducible repeat (first|apply blk_drewN|apply blk_drew|apply blk_alloc));refine blk_far ?_ NB129_130.out _;(with_reducible repeat (first|apply blk_drewN|apply blk_drew|apply blk_alloc));refine blk_far ?_ NB129_130.out _;(with_reducible repeat (first|apply blk_drewN|apply blk_drew|apply blk_alloc));refine blk_far ?_ NB129_130.out _;(with_reducible repeat (first|apply blk_drewN|apply blk_drew|apply blk_alloc));exact BK129.out⟩, ⟨by (with_reducible repeat (first|apply blk_drewN|apply blk_drew|apply blk_alloc));refine blk_put (cs := #[.bool a0_0, .int .i64 a0_1, .int .i64 a0_2, .int .i64 a0_3, .slice A0_4 l0_4.length c0_4, .slice Ao3 l0_5.length co3]) ?_ 4 _ rfl;(with_reducible repeat (first|apply blk_drewN|apply blk_drew|apply blk_alloc));refine blk_put (cs := #[.bool a0_0, .int .i64 a0_1, .int .i64 a0_2, .int .i64 a0_3, .slice A0_4 l0_4.length c0_4, .slice none 0 0]) ?_ 5 _ rfl;(with_reducible repeat (first|apply blk_drewN|apply blk_drew|apply blk_alloc));refine blk_put (cs := #[.bool a0_0, .int .i64 a0_1, .int .i64 a0_2, .int .i64 a0_3, .slice none 0 0, .slice none 0 0]) ?_ 4 _ rfl;(with_reducible repeat (first|apply blk_drewN|apply blk_drew|apply blk_alloc));refine blk_put (cs := #[.bool a0_0, .int .i64 a0_1, .int .i64 a0_2, .int .i64 0, .slice none 0 0, .slice none 0 0]) ?_ 3 _ rfl;(with_reducible repeat (first|apply blk_drewN|apply blk_drew|apply blk_alloc));refine blk_put (cs := #[.bool a0_0, .int .i64 a0_1, .int .i64 0, .int .i64 0, .slice none 0 0, .slice none 0 0]) ?_ 2 _ rfl;(with_reducible repeat (first|apply blk_drewN|apply blk_drew|apply blk_alloc));refine blk_put (cs := #[.bool a0_0, .int .i64 0, .int .i64 0, .int .i64 0, .slice none 0 0, .slice none 0 0]) ?_ 1 _ rfl;(with_reducible repeat (first|apply blk_drewN|apply blk_drew|apply blk_alloc));refine blk_put (cs := #[.bool false, .int .i64 0, .int .i64 0, .int .i64 0, .slice none 0 0, .slice none 0 0]) ?_ 0 _ rfl;(with_reducible repeat (first|apply blk_drewN|apply blk_drew|apply blk_alloc));exact BK130.out⟩, ⟨by repeat (first|(with_reducible first|exact HK.out|apply Kept.alloc|apply Kept.drewN|apply Kept.drew|refine Kept.setCell ?_ (.inr GW128.out) _|refine Kept.setCell ?_ (.inr GW129.out) _|refine Kept.setCell ?_ (.inr GW130.out) _)|exact HK.out)⟩, ⟨by repeat (first|(with_reducible first|exact HB.out|apply xa|apply xb|apply xc|refine below_set ?_ GE128.out|refine below_set ?_ GE129.out|refine below_set ?_ GE130.out)|exact HB.out)⟩⟩
 case round =>
  clear H'
  try clear c1
  try clear p2
  try clear c6
  try clear c9
  try clear c10
  try clear hcz11_0
  try clear hcz11_1
  try clear hcz11_2
  try clear hcz11_3
  try clear hcz11_4
  try clear hcz11_5
  try clear hcz12_0
  try clear hcz12_1
  try clear hcz12_2
  try clear hcz12_3
  try clear hcz12_4
  try clear hcz12_5
  try clear hcz7_0
  try clear hcz7_1
  try clear hcz7_2
  try clear hcz7_3
  try clear hcz7_4
  try clear hcz7_5
  try clear hfz11_0
  try clear hfz11_1
  try clear hfz11_2
  try clear hfz11_3
  try clear hfz11_4
  try clear hfz11_5
  try clear hfz12_0
  try clear hfz12_1
  try clear hfz12_2
  try clear hfz12_3
  try clear hfz12_4
  try clear hfz12_5
  try clear hfz7_0
  try clear hfz7_1
  try clear hfz7_2
  try clear hfz7_3
  try clear hfz7_4
  try clear hfz7_5
  obtain ⟨x6_1, x7_1, x17_1, x131001_1, x131004_1, u131004, rfl, rfl, rfl, HA, HK1, HO_129005, HO_131004, HO_131005, BK128, BK129, BK130, HK, HB⟩ := hrel
  cases gk with
  | zero => exact absurd HA.out (by simp [pinfoldref14_told.l0])
  | succ k1 =>
   have H := HA.out
   clear HA
   simp only [pinfoldref14_told.l0] at H
   by_cases c13 : x17_1 < (l0_4.length : Int)
   ·rw [if_pos c13] at H
    have c13b0 : decide (x17_1 < (l0_4.length : Int)) = true := decide_eq_true c13
    clear c13
    by_cases c14 : 0 ≤ x17_1
    ·rw [if_pos c14] at H
     have c14b0 : decide (0 ≤ x17_1) = true := decide_eq_true c14
     clear c14
     by_cases c15 : x17_1 < (l0_4.length : Int)
     ·rw [if_pos c15] at H
      have c15b0 : decide (x17_1 < (l0_4.length : Int)) = true := decide_eq_true c15
      clear c15
      by_cases c16 : ((rd_T95 l0_4 x17_1).f1) = a1
      ·rw [if_pos c16] at H
       have c16b0 : (((rd_T95 l0_4 x17_1).f1) == a1) = true := beq_iff_eq.mpr c16
       have c16b1 : (((rd_T95 l0_4 x17_1).f1) != a1) = false := bne_eq_false_iff_eq.mpr c16
       clear c16
       by_cases c17 : x6_1 = true
       ·subst c17
        have H1 : (if x7_1 = true then (if x131004_1.length < 8796093022208 then (pinfoldref14_told.l0 k1 a1 true true l0_4 (l0_4.length : Int) (wrap64 (x17_1 + 1)) a0_0 a0_1 a0_2 a0_3 l0_4 l0_5 a0_0 x131001_1 a0_2 a0_3 (x131004_1 ++ [(⟨(rd_T95 l0_4 x17_1).f0, (rd_T95 l0_4 x17_1).f1⟩ : S95)]) l0_5) else (none)) else (if x131004_1.length < 8796093022208 then (pinfoldref14_told.l0 k1 a1 true (((rd_T95 l0_4 x17_1).f1) == a1) l0_4 (l0_4.length : Int) (wrap64 (x17_1 + 1)) a0_0 a0_1 a0_2 a0_3 l0_4 l0_5 a0_0 x131001_1 a0_2 a0_3 (x131004_1 ++ [(⟨(rd_T95 l0_4 x17_1).f0, (rd_T95 l0_4 x17_1).f1⟩ : S95)]) l0_5) else (none))) = some (r1, r2, r3, r4, r5, r6) := by rw [if_pos rfl] at H;exact H
        clear H
        have H := H1
        clear H1
        by_cases c18 : x7_1 = true
        ·subst c18
         have H1 : (if x131004_1.length < 8796093022208 then (pinfoldref14_told.l0 k1 a1 true true l0_4 (l0_4.length : Int) (wrap64 (x17_1 + 1)) a0_0 a0_1 a0_2 a0_3 l0_4 l0_5 a0_0 x131001_1 a0_2 a0_3 (x131004_1 ++ [(⟨(rd_T95 l0_4 x17_1).f0, (rd_T95 l0_4 x17_1).f1⟩ : S95)]) l0_5) else (none)) = some (r1, r2, r3, r4, r5, r6) := by rw [if_pos rfl] at H;exact H
         clear H
         have H := H1
         clear H1
         by_cases c19 : x131004_1.length < 8796093022208
         ·rw [if_pos c19] at H
          have LMc19 := Aside0.mk c19
          clear c19
          obtain ⟨y133, hy133⟩ : ∃ y_ : List (S95), y_ = (x131004_1 ++ [(⟨(rd_T95 l0_4 x17_1).f0, (rd_T95 l0_4 x17_1).f1⟩ : S95)]) := ⟨_, rfl⟩
          replace H : (pinfoldref14_told.l0 k1 a1 true true l0_4 (l0_4.length : Int) (wrap64 (x17_1 + 1)) a0_0 a0_1 a0_2 a0_3 l0_4 l0_5 a0_0 x131001_1 a0_2 a0_3 y133 l0_5) = some (r1, r2, r3, r4, r5, r6) := by first|(rw [hy133];with_reducible exact H)|(have H2_ := (Option.bind_some _ _).symm.trans H;rw [hy133];with_reducible exact H2_)|(have H2_ := (Option.bind_some _ _).symm.trans H;with_reducible exact H2_)|with_reducible exact H|(rw [hy133];exact H)|exact H
          have Ny133 := Aside0.mk hy133
          clear hy133
          have H' := Aside0.mk H
          clear H
          have p131 : 0 ≤ (x17_1 : Int) := of_decide_eq_true (by assumption)
          have q131 : x17_1 < (l0_4.length : Int) := of_decide_eq_true (by assumption)
          obtain ⟨ad131, e131, hx131_0, hx131_1⟩ := at_T95 (Kd.C_kept_now HR0_4.out HK.out) x17_1 p131 q131
          cases e131
          replace p131 := eq_true p131
          replace q131 := eq_true q131
          go_wp2_with (first|((with_reducible refine gate_dst (N := 9) rfl ?_);refine box_event ?hg (N := 9) ?hd (cs := #[.int .i64 0, .int .i64 0]) (t := 95) ?hr ?_;(case hd => rfl);(case hg => rfl);(case hr => first|(go_simp;done)|(go_simp;rfl));intro gb132 hg w20 hbox hb;have n0_ := Aside0.mk (Kd.R_below (by (with_reducible repeat (first|apply Kd.R_alloc|apply Kd.R_drewN|apply Kd.R_drew));exact HO_129005.out) hb);have n1_ := Aside0.mk (Kd.R_below (Kd.R_elderB (by (with_reducible repeat (first|apply Kd.R_alloc|apply Kd.R_drewN|apply Kd.R_drew));exact HO_131004.out) gb132 (Nat.le_of_eq hg.symm)) hb);have n2_ := Aside0.mk (Kd.R_below (by (with_reducible repeat (first|apply Kd.R_alloc|apply Kd.R_drewN|apply Kd.R_drew));exact HO_131005.out) hb);have n3_ := Aside0.mk (blk_below (g := gb128) (o := .cells #[.bool a0_0, .int .i64 a0_1, .int .i64 a0_2, .int .i64 a0_3, .slice (some ad131) l0_4.length c0_4, .slice Ao3 l0_5.length co3] 156 (0, 0)) (by (with_reducible repeat (first|apply blk_drewN|apply blk_drew|apply blk_alloc));exact BK128.out) hb);have n4_ := Aside0.mk (blk_below (g := gb129) (o := .cells #[.bool false, .int .i64 0, .int .i64 0, .int .i64 0, .slice none 0 0, .slice none 0 0] 156 (0, 0)) (by (with_reducible repeat (first|apply blk_drewN|apply blk_drew|apply blk_alloc));exact BK129.out) hb);have n5_ := Aside0.mk (blk_below (g := gb130) (o := .cells #[.bool a0_0, .int .i64 x131001_1, .int .i64 a0_2, .int .i64 a0_3, u131004, .slice Ao3 l0_5.length co3] 156 (0, 0)) (by (with_reducible repeat (first|apply blk_drewN|apply blk_drew|apply blk_alloc));exact BK130.out) hb);have n6_ := Aside0.mk (Kept.below (S := (fun k_ => P0_5_ k_)) (by repeat (first|(with_reducible first|exact HK.out|apply Kept.alloc|apply Kept.drewN|apply Kept.drew|refine Kept.setCell ?_ (.inr GW128.out) _|refine Kept.setCell ?_ (.inr GW129.out) _|refine Kept.setCell ?_ (.inr GW130.out) _)|exact HK.out)) hb);have n7_ := Aside0.mk (below_step (by repeat (first|(with_reducible first|exact HB.out|apply xa|apply xb|apply xc|refine below_set ?_ GE128.out|refine below_set ?_ GE129.out|refine below_set ?_ GE130.out)|exact HB.out)) hb);have n8_ := Aside0.mk (hbox);have n9_ := Aside0.mk ((by rw [hg];exact (by first|exact HK.out.1|exact (show Kept w _ (fun k_ => P0_5_ k_) from by repeat (first|(with_reducible first|exact HK.out|apply Kept.alloc|apply Kept.drewN|apply Kept.drew|refine Kept.setCell ?_ (.inr GW128.out) _|refine Kept.setCell ?_ (.inr GW129.out) _|refine Kept.setCell ?_ (.inr GW130.out) _)|exact HK.out)).1) : w.heap.size ≤ gb132));have n10_ := Aside0.mk ((by rw [hg];exact (below_size (by repeat (first|(with_reducible first|exact HB.out|apply xa|apply xb|apply xc|refine below_set ?_ GE128.out|refine below_set ?_ GE129.out|refine below_set ?_ GE130.out)|exact HB.out))) : w0.heap.size ≤ gb132));have n11_ := Aside0.mk ((by rw [hg];exact Nat.ne_of_lt (blk_lt (g := gb128) (o := .cells #[.bool a0_0, .int .i64 a0_1, .int .i64 a0_2, .int .i64 a0_3, .slice (some ad131) l0_4.length c0_4, .slice Ao3 l0_5.length co3] 156 (0, 0)) (by (with_reducible repeat (first|apply blk_drewN|apply blk_drew|apply blk_alloc));exact BK128.out)) : gb128 ≠ gb132));have n12_ := Aside0.mk ((by rw [hg];exact Nat.ne_of_gt (blk_lt (g := gb128) (o := .cells #[.bool a0_0, .int .i64 a0_1, .int .i64 a0_2, .int .i64 a0_3, .slice (some ad131) l0_4.length c0_4, .slice Ao3 l0_5.length co3] 156 (0, 0)) (by (with_reducible repeat (first|apply blk_drewN|apply blk_drew|apply blk_alloc));exact BK128.out)) : gb132 ≠ gb128));have n13_ := Aside0.mk ((by rw [hg];exact Nat.ne_of_lt (blk_lt (g := gb129) (o := .cells #[.bool false, .int .i64 0, .int .i64 0, .int .i64 0, .slice none 0 0, .slice none 0 0] 156 (0, 0)) (by (with_reducible repeat (first|apply blk_drewN|apply blk_drew|apply blk_alloc));exact BK129.out)) : gb129 ≠ gb132));have n14_ := Aside0.mk ((by rw [hg];exact Nat.ne_of_gt (blk_lt (g := gb129) (o := .cells #[.bool false, .int .i64 0, .int .i64 0, .int .i64 0, .slice none 0 0, .slice none 0 0] 156 (0, 0)) (by (with_reducible repeat (first|apply blk_drewN|apply blk_drew|apply blk_alloc));exact BK129.out)) : gb132 ≠ gb129));have n15_ := Aside0.mk ((by rw [hg];exact Nat.ne_of_lt (blk_lt (g := gb130) (o := .cells #[.bool a0_0, .int .i64 x131001_1, .int .i64 a0_2, .int .i64 a0_3, u131004, .slice Ao3 l0_5.length co3] 156 (0, 0)) (by (with_reducible repeat (first|apply blk_drewN|apply blk_drew|apply blk_alloc));exact BK130.out)) : gb130 ≠ gb132));have n16_ := Aside0.mk ((by rw [hg];exact Nat.ne_of_gt (blk_lt (g := gb130) (o := .cells #[.bool a0_0, .int .i64 x131001_1, .int .i64 a0_2, .int .i64 a0_3, u131004, .slice Ao3 l0_5.length co3] 156 (0, 0)) (by (with_reducible repeat (first|apply blk_drewN|apply blk_drew|apply blk_alloc));exact BK130.out)) : gb132 ≠ gb130));clear HO_129005;clear HO_131004;clear HO_131005;clear BK128;clear BK129;clear BK130;clear HK;clear HB;have HO_129005 := n0_;have HO_131004 := n1_;have HO_131005 := n2_;have BK128 := n3_;have BK129 := n4_;have BK130 := n5_;have HK := n6_;have HB := n7_;have BK132 := n8_;have GW132 := n9_;have GE132 := n10_;have NB128_132 := n11_;have NB132_128 := n12_;have NB129_132 := n13_;have NB132_129 := n14_;have NB130_132 := n15_;have NB132_130 := n16_;clear n0_ n1_ n2_ n3_ n4_ n5_ n6_ n7_ n8_ n9_ n10_ n11_ n12_ n13_ n14_ n15_ n16_;clear hb hbox hg;have hnb21 := NB132_128.out;have hnc21 := NB128_132.out;have hnb22 := NB132_129.out;have hnc22 := NB129_132.out;have hnb23 := NB132_130.out;have hnc23 := NB130_132.out;have hcz24_0 : w20.cell? ⟨gb132, 0, none⟩ = some (.int .i64 0) := (blk_cell BK132.out 0).trans rfl;have hcz24_1 : w20.cell? ⟨gb132, 1, none⟩ = some (.int .i64 0) := (blk_cell BK132.out 1).trans rfl;have hfz24_0 := blk_frozen BK132.out 0;have hfz24_1 := blk_frozen BK132.out 1;have hnb25 := NB130_128.out;have hnc25 := NB128_130.out;have hnb26 := NB130_129.out;have hnc26 := NB129_130.out;have hcz27_0 : w20.cell? ⟨gb130, 0, none⟩ = some (.bool a0_0) := (blk_cell BK130.out 0).trans rfl;have hcz27_1 : w20.cell? ⟨gb130, 1, none⟩ = some (.int .i64 x131001_1) := (blk_cell BK130.out 1).trans rfl;have hcz27_2 : w20.cell? ⟨gb130, 2, none⟩ = some (.int .i64 a0_2) := (blk_cell BK130.out 2).trans rfl;have hcz27_3 : w20.cell? ⟨gb130, 3, none⟩ = some (.int .i64 a0_3) := (blk_cell BK130.out 3).trans rfl;have hcz27_4 : w20.cell? ⟨gb130, 4, none⟩ = some (u131004) := (blk_cell BK130.out 4).trans rfl;have hcz27_5 : w20.cell? ⟨gb130, 5, none⟩ = some (.slice Ao3 l0_5.length co3) := (blk_cell BK130.out 5).trans rfl;have hfz27_0 := blk_frozen BK130.out 0;have hfz27_1 := blk_frozen BK130.out 1;have hfz27_2 := blk_frozen BK130.out 2;have hfz27_3 := blk_frozen BK130.out 3;have hfz27_4 := blk_frozen BK130.out 4;have hfz27_5 := blk_frozen BK130.out 5)|((with_reducible refine gate_builtin (b := .append) (xs := #[.tmp 40, .tmp 42]) rfl ?_);at_builtin;refine Kd.R_append k95 (w0 := w0) w0.heap.size rfl (.tmp 40) (.tmp 42) 88 95 (.agg #[(.int .i64 0), (.int .i64 0)]) 16 rfl Try.underlying88 info95 rfl (by decide) (by omega) u131004 x131004_1 (⟨(rd_T95 l0_4 x17_1).f0, (rd_T95 l0_4 x17_1).f1⟩ : S95) [.int .i64 ((rd_T95 l0_4 x17_1).f0), .int .i64 ((rd_T95 l0_4 x17_1).f1)] (fun k_ => (P0_5_ k_ ∨ w.heap.size ≤ k_) ∧ k_ ≠ gb132) (fun _ => False) rfl (by first|(go_simp;done)|(go_simp;rfl)) ?aP (fun _ hk => hk.elim) ?aF ?aO ?aB ?aS ?aL ?_;(case aP => exact k95_mkM _ _ _ (⟨(rd_T95 l0_4 x17_1).f0, (rd_T95 l0_4 x17_1).f1⟩ : S95));(case aB => exact (by repeat (first|(with_reducible first|exact HB.out|apply xa|apply xb|apply xc|refine below_set ?_ GE128.out|refine below_set ?_ GE129.out|refine below_set ?_ GE130.out|refine below_set ?_ GE132.out)|exact HB.out)));(case aF => exact (fun k_ hk => ⟨(.inr (Nat.le_trans (show Kept w _ (fun k_ => P0_5_ k_) from by repeat (first|(with_reducible first|exact HK.out|apply Kept.alloc|apply Kept.drewN|apply Kept.drew|refine Kept.setCell ?_ (.inr GW128.out) _|refine Kept.setCell ?_ (.inr GW129.out) _|refine Kept.setCell ?_ (.inr GW130.out) _|refine Kept.setCell ?_ (.inr GW132.out) _)|exact HK.out)).1 hk)), Kd.freshB (g := gb132) (o := .cells #[.int .i64 ((rd_T95 l0_4 x17_1).f0), .int .i64 ((rd_T95 l0_4 x17_1).f1)] 95 (0, 0)) (by (with_reducible repeat (first|apply blk_drewN|apply blk_drew|apply blk_alloc));refine blk_put (cs := #[.int .i64 ((rd_T95 l0_4 x17_1).f0), .int .i64 0]) ?_ 1 _ rfl;(with_reducible repeat (first|apply blk_drewN|apply blk_drew|apply blk_alloc));refine blk_put (cs := #[.int .i64 0, .int .i64 0]) ?_ 0 _ rfl;(with_reducible repeat (first|apply blk_drewN|apply blk_drew|apply blk_alloc));exact BK132.out) k_ hk⟩));(case aO => exact (by (with_reducible repeat (first|apply Kd.R_alloc|apply Kd.R_drewN|apply Kd.R_drew));exact Kd.R_mono (Kd.R_far (p := ⟨gb132, 1, none⟩) (Kd.R_far (p := ⟨gb132, 0, none⟩) (Kd.R_mono HO_131004.out (fun k_ hk => (⟨hk, hk.2⟩ : _ ∧ k_ ≠ gb132))) (fun _ hk => hk.2) (.int .i64 ((rd_T95 l0_4 x17_1).f0))) (fun _ hk => hk.2) (.int .i64 ((rd_T95 l0_4 x17_1).f1))) (fun _ hk => ⟨hk.1.1, hk.1.2⟩)));(case aS => exact (below_size (by repeat (first|(with_reducible first|exact HB.out|apply xa|apply xb|apply xc|refine below_set ?_ GE128.out|refine below_set ?_ GE129.out|refine below_set ?_ GE130.out|refine below_set ?_ GE132.out)|exact HB.out))));(case aL => have := LMc19.out;omega);intro v134 w28 ho hb hg hat;rw [← Ny133.out] at ho;have n0_ := Aside0.mk (Kd.R_over' (by (with_reducible repeat (first|apply Kd.R_alloc|apply Kd.R_drewN|apply Kd.R_drew));exact (Kd.R_mono (Kd.R_far (p := ⟨gb132, 1, none⟩) (Kd.R_far (p := ⟨gb132, 0, none⟩) (Kd.R_types HO_129005.out BK132.out (by decide)) (fun _ hk => hk.2) (.int .i64 ((rd_T95 l0_4 x17_1).f0))) (fun _ hk => hk.2) (.int .i64 ((rd_T95 l0_4 x17_1).f1))) (fun _ h_ => h_.1))) (Kd.R_typed (by (with_reducible repeat (first|apply Kd.R_alloc|apply Kd.R_drewN|apply Kd.R_drew));exact (Kd.R_mono (Kd.R_far (p := ⟨gb132, 1, none⟩) (Kd.R_far (p := ⟨gb132, 0, none⟩) (Kd.R_mono HO_131004.out (fun k_ hk => (⟨hk, hk.2⟩ : _ ∧ k_ ≠ gb132))) (fun _ hk => hk.2) (.int .i64 ((rd_T95 l0_4 x17_1).f0))) (fun _ hk => hk.2) (.int .i64 ((rd_T95 l0_4 x17_1).f1))) (fun _ h_ => h_.1)))) (by decide) hg);have n1_ := Aside0.mk (Kd.R_over' (by (with_reducible repeat (first|apply Kd.R_alloc|apply Kd.R_drewN|apply Kd.R_drew));exact (Kd.R_mono (Kd.R_far (p := ⟨gb132, 1, none⟩) (Kd.R_far (p := ⟨gb132, 0, none⟩) (Kd.R_types HO_131005.out BK132.out (by decide)) (fun _ hk => hk.2) (.int .i64 ((rd_T95 l0_4 x17_1).f0))) (fun _ hk => hk.2) (.int .i64 ((rd_T95 l0_4 x17_1).f1))) (fun _ h_ => h_.1))) (Kd.R_typed (by (with_reducible repeat (first|apply Kd.R_alloc|apply Kd.R_drewN|apply Kd.R_drew));exact (Kd.R_mono (Kd.R_far (p := ⟨gb132, 1, none⟩) (Kd.R_far (p := ⟨gb132, 0, none⟩) (Kd.R_mono HO_131004.out (fun k_ hk => (⟨hk, hk.2⟩ : _ ∧ k_ ≠ gb132))) (fun _ hk => hk.2) (.int .i64 ((rd_T95 l0_4 x17_1).f0))) (fun _ hk => hk.2) (.int .i64 ((rd_T95 l0_4 x17_1).f1))) (fun _ h_ => h_.1)))) (by decide) hg);have n2_ := Aside0.mk (blk_grown (g := gb128) (o := .cells #[.bool a0_0, .int .i64 a0_1, .int .i64 a0_2, .int .i64 a0_3, .slice (some ad131) l0_4.length c0_4, .slice Ao3 l0_5.length co3] 156 (0, 0)) (by (with_reducible repeat (first|apply blk_drewN|apply blk_drew|apply blk_alloc));refine blk_far ?_ NB128_132.out _;(with_reducible repeat (first|apply blk_drewN|apply blk_drew|apply blk_alloc));refine blk_far ?_ NB128_132.out _;(with_reducible repeat (first|apply blk_drewN|apply blk_drew|apply blk_alloc));exact BK128.out) hg (Kd.R_ne HO_131004.out BK128.out (by decide)));have n3_ := Aside0.mk (blk_grown (g := gb129) (o := .cells #[.bool false, .int .i64 0, .int .i64 0, .int .i64 0, .slice none 0 0, .slice none 0 0] 156 (0, 0)) (by (with_reducible repeat (first|apply blk_drewN|apply blk_drew|apply blk_alloc));refine blk_far ?_ NB129_132.out _;(with_reducible repeat (first|apply blk_drewN|apply blk_drew|apply blk_alloc));refine blk_far ?_ NB129_132.out _;(with_reducible repeat (first|apply blk_drewN|apply blk_drew|apply blk_alloc));exact BK129.out) hg (Kd.R_ne HO_131004.out BK129.out (by decide)));have n4_ := Aside0.mk (blk_grown (g := gb130) (o := .cells #[.bool a0_0, .int .i64 x131001_1, .int .i64 a0_2, .int .i64 a0_3, u131004, .slice Ao3 l0_5.length co3] 156 (0, 0)) (by (with_reducible repeat (first|apply blk_drewN|apply blk_drew|apply blk_alloc));refine blk_far ?_ NB130_132.out _;(with_reducible repeat (first|apply blk_drewN|apply blk_drew|apply blk_alloc));refine blk_far ?_ NB130_132.out _;(with_reducible repeat (first|apply blk_drewN|apply blk_drew|apply blk_alloc));exact BK130.out) hg (Kd.R_ne HO_131004.out BK130.out (by decide)));have n5_ := Aside0.mk (blk_grown (g := gb132) (o := .cells #[.int .i64 ((rd_T95 l0_4 x17_1).f0), .int .i64 ((rd_T95 l0_4 x17_1).f1)] 95 (0, 0)) (by (with_reducible repeat (first|apply blk_drewN|apply blk_drew|apply blk_alloc));refine blk_put (cs := #[.int .i64 ((rd_T95 l0_4 x17_1).f0), .int .i64 0]) ?_ 1 _ rfl;(with_reducible repeat (first|apply blk_drewN|apply blk_drew|apply blk_alloc));refine blk_put (cs := #[.int .i64 0, .int .i64 0]) ?_ 0 _ rfl;(with_reducible repeat (first|apply blk_drewN|apply blk_drew|apply blk_alloc));exact BK132.out) hg (Kd.R_away HO_131004.out (fun _ hk => hk.2)));have n6_ := Aside0.mk (hb);have n7_ := Aside0.mk (Kept.of_grown (S := (fun k_ => P0_5_ k_)) hg (by repeat (first|(with_reducible first|exact HK.out|apply Kept.alloc|apply Kept.drewN|apply Kept.drew|refine Kept.setCell ?_ (.inr GW128.out) _|refine Kept.setCell ?_ (.inr GW129.out) _|refine Kept.setCell ?_ (.inr GW130.out) _|refine Kept.setCell ?_ (.inr GW132.out) _)|exact HK.out)) (fun k_ e_ => (HO_131004.out.1 k_ e_).1));have n8_ := Aside0.mk (ho);clear HO_129005;clear HO_131005;clear BK128;clear BK129;clear BK130;clear BK132;clear HB;clear HK;clear HO_131004;have HO_129005 := n0_;have HO_131005 := n1_;have BK128 := n2_;have BK129 := n3_;have BK130 := n4_;have BK132 := n5_;have HB := n6_;have HK := n7_;have HO135 := n8_;clear n0_ n1_ n2_ n3_ n4_ n5_ n6_ n7_ n8_;clear ho hb hg hat;obtain ⟨Ao29, co29, eo29⟩ := Kd.R_slice HO135.out;subst eo29;have hcz30_0 : w28.cell? ⟨gb130, 0, none⟩ = some (.bool a0_0) := (blk_cell BK130.out 0).trans rfl;have hcz30_1 : w28.cell? ⟨gb130, 1, none⟩ = some (.int .i64 x131001_1) := (blk_cell BK130.out 1).trans rfl;have hcz30_2 : w28.cell? ⟨gb130, 2, none⟩ = some (.int .i64 a0_2) := (blk_cell BK130.out 2).trans rfl;have hcz30_3 : w28.cell? ⟨gb130, 3, none⟩ = some (.int .i64 a0_3) := (blk_cell BK130.out 3).trans rfl;have hcz30_4 : w28.cell? ⟨gb130, 4, none⟩ = some (u131004) := (blk_cell BK130.out 4).trans rfl;have hcz30_5 : w28.cell? ⟨gb130, 5, none⟩ = some (.slice Ao3 l0_5.length co3) := (blk_cell BK130.out 5).trans rfl;have hfz30_0 := blk_frozen BK130.out 0;have hfz30_1 := blk_frozen BK130.out 1;have hfz30_2 := blk_frozen BK130.out 2;have hfz30_3 := blk_frozen BK130.out 3;have hfz30_4 := blk_frozen BK130.out 4;have hfz30_5 := blk_frozen BK130.out 5))
          (try simp only [px_add0] at *)
          go_roundg k1
          case measure => have := HK1.out;omega
          case rel => exact ⟨(true), (true), (wrap64 (x17_1 + 1)), (x131001_1), (y133), (.slice Ao29 y133.length co29), (by first|rfl|(simp;done)|(simp [*];done)), (by first|rfl|(simp;done)|(simp [*];done)), (by first|rfl|(simp;done)|(simp [*];done)), H', ⟨by have := HK1.out;omega⟩, ⟨by (with_reducible repeat (first|apply Kd.R_alloc|apply Kd.R_drewN|apply Kd.R_drew));exact Kd.R_mono (Kd.R_far (p := ⟨gb130, 4, none⟩) (Kd.R_types HO_129005.out BK130.out (by decide)) (fun _ hk => hk.2) (.slice Ao29 y133.length co29)) (fun _ hk => hk.1)⟩, ⟨by (with_reducible repeat (first|apply Kd.R_alloc|apply Kd.R_drewN|apply Kd.R_drew));exact Kd.R_mono (Kd.R_far (p := ⟨gb130, 4, none⟩) (Kd.R_types HO135.out BK130.out (by decide)) (fun _ hk => hk.2) (.slice Ao29 y133.length co29)) (fun _ hk => hk.1.1)⟩, ⟨by (with_reducible repeat (first|apply Kd.R_alloc|apply Kd.R_drewN|apply Kd.R_drew));exact Kd.R_mono (Kd.R_far (p := ⟨gb130, 4, none⟩) (Kd.R_types HO_131005.out BK130.out (by decide)) (fun _ hk => hk.2) (.slice Ao29 y133.length co29)) (fun _ hk => hk.1)⟩, ⟨by (with_reducible repeat (first|apply blk_drewN|apply blk_drew|apply blk_alloc));refine blk_far ?_ NB128_130.out _;(with_reducible repeat (first|apply blk_drewN|apply blk_drew|apply blk_alloc));exact BK128.out⟩, ⟨by (with_reducible repeat (first|apply blk_drewN|apply blk_drew|apply blk_alloc));refine blk_far ?_ NB129_130.out _;(with_reducible repeat (first|apply blk_drewN|apply blk_drew|apply blk_alloc));exact BK129.out⟩, ⟨by (with_reducible repeat (first|apply blk_drewN|apply blk_drew|apply blk_alloc));refine blk_put (cs := #[.bool a0_0, .int .i64 x131001_1, .int .i64 a0_2, .int .i64 a0_3, u131004, .slice Ao3 l0_5.length co3]) ?_ 4 _ rfl;(with_reducible repeat (first|apply blk_drewN|apply blk_drew|apply blk_alloc));exact BK130.out⟩, ⟨by repeat (first|(with_reducible first|exact HK.out|apply Kept.alloc|apply Kept.drewN|apply Kept.drew|refine Kept.setCell ?_ (.inr GW128.out) _|refine Kept.setCell ?_ (.inr GW129.out) _|refine Kept.setCell ?_ (.inr GW130.out) _|refine Kept.setCell ?_ (.inr GW132.out) _)|exact HK.out)⟩, ⟨by repeat (first|(with_reducible first|exact HB.out|apply xa|apply xb|apply xc|refine below_set ?_ GE128.out|refine below_set ?_ GE129.out|refine below_set ?_ GE130.out|refine below_set ?_ GE132.out)|exact HB.out)⟩⟩
         ·rw [if_neg c19] at H
          exact absurd H (by simp)
        ·replace c18 := Bool.eq_false_iff.mpr c18
         subst c18
         have H1 : (if x131004_1.length < 8796093022208 then (pinfoldref14_told.l0 k1 a1 true (((rd_T95 l0_4 x17_1).f1) == a1) l0_4 (l0_4.length : Int) (wrap64 (x17_1 + 1)) a0_0 a0_1 a0_2 a0_3 l0_4 l0_5 a0_0 x131001_1 a0_2 a0_3 (x131004_1 ++ [(⟨(rd_T95 l0_4 x17_1).f0, (rd_T95 l0_4 x17_1).f1⟩ : S95)]) l0_5) else (none)) = some (r1, r2, r3, r4, r5, r6) := by rw [if_neg (show ¬ (false = true) by decide)] at H;exact H
         clear H
         have H := H1
         clear H1
         by_cases c31 : x131004_1.length < 8796093022208
         ·rw [if_pos c31] at H
          have LMc31 := Aside0.mk c31
          clear c31
          obtain ⟨y136, hy136⟩ : ∃ y_ : List (S95), y_ = (x131004_1 ++ [(⟨(rd_T95 l0_4 x17_1).f0, (rd_T95 l0_4 x17_1).f1⟩ : S95)]) := ⟨_, rfl⟩
          replace H : (pinfoldref14_told.l0 k1 a1 true (((rd_T95 l0_4 x17_1).f1) == a1) l0_4 (l0_4.length : Int) (wrap64 (x17_1 + 1)) a0_0 a0_1 a0_2 a0_3 l0_4 l0_5 a0_0 x131001_1 a0_2 a0_3 y136 l0_5) = some (r1, r2, r3, r4, r5, r6) := by first|(rw [hy136];with_reducible exact H)|(have H2_ := (Option.bind_some _ _).symm.trans H;rw [hy136];with_reducible exact H2_)|(have H2_ := (Option.bind_some _ _).symm.trans H;with_reducible exact H2_)|with_reducible exact H|(rw [hy136];exact H)|exact H
          have Ny136 := Aside0.mk hy136
          clear hy136
          have H' := Aside0.mk H
          clear H
          have p131 : 0 ≤ (x17_1 : Int) := of_decide_eq_true (by assumption)
          have q131 : x17_1 < (l0_4.length : Int) := of_decide_eq_true (by assumption)
          obtain ⟨ad131, e131, hx131_0, hx131_1⟩ := at_T95 (Kd.C_kept_now HR0_4.out HK.out) x17_1 p131 q131
          cases e131
          replace p131 := eq_true p131
          replace q131 := eq_true q131
          go_wp2_with (first|((with_reducible refine gate_dst (N := 9) rfl ?_);refine box_event ?hg (N := 9) ?hd (cs := #[.int .i64 0, .int .i64 0]) (t := 95) ?hr ?_;(case hd => rfl);(case hg => rfl);(case hr => first|(go_simp;done)|(go_simp;rfl));intro gb132 hg w32 hbox hb;have n0_ := Aside0.mk (Kd.R_below (by (with_reducible repeat (first|apply Kd.R_alloc|apply Kd.R_drewN|apply Kd.R_drew));exact HO_129005.out) hb);have n1_ := Aside0.mk (Kd.R_below (Kd.R_elderB (by (with_reducible repeat (first|apply Kd.R_alloc|apply Kd.R_drewN|apply Kd.R_drew));exact HO_131004.out) gb132 (Nat.le_of_eq hg.symm)) hb);have n2_ := Aside0.mk (Kd.R_below (by (with_reducible repeat (first|apply Kd.R_alloc|apply Kd.R_drewN|apply Kd.R_drew));exact HO_131005.out) hb);have n3_ := Aside0.mk (blk_below (g := gb128) (o := .cells #[.bool a0_0, .int .i64 a0_1, .int .i64 a0_2, .int .i64 a0_3, .slice (some ad131) l0_4.length c0_4, .slice Ao3 l0_5.length co3] 156 (0, 0)) (by (with_reducible repeat (first|apply blk_drewN|apply blk_drew|apply blk_alloc));exact BK128.out) hb);have n4_ := Aside0.mk (blk_below (g := gb129) (o := .cells #[.bool false, .int .i64 0, .int .i64 0, .int .i64 0, .slice none 0 0, .slice none 0 0] 156 (0, 0)) (by (with_reducible repeat (first|apply blk_drewN|apply blk_drew|apply blk_alloc));exact BK129.out) hb);have n5_ := Aside0.mk (blk_below (g := gb130) (o := .cells #[.bool a0_0, .int .i64 x131001_1, .int .i64 a0_2, .int .i64 a0_3, u131004, .slice Ao3 l0_5.length co3] 156 (0, 0)) (by (with_reducible repeat (first|apply blk_drewN|apply blk_drew|apply blk_alloc));exact BK130.out) hb);have n6_ := Aside0.mk (Kept.below (S := (fun k_ => P0_5_ k_)) (by repeat (first|(with_reducible first|exact HK.out|apply Kept.alloc|apply Kept.drewN|apply Kept.drew|refine Kept.setCell ?_ (.inr GW128.out) _|refine Kept.setCell ?_ (.inr GW129.out) _|refine Kept.setCell ?_ (.inr GW130.out) _)|exact HK.out)) hb);have n7_ := Aside0.mk (below_step (by repeat (first|(with_reducible first|exact HB.out|apply xa|apply xb|apply xc|refine below_set ?_ GE128.out|refine below_set ?_ GE129.out|refine below_set ?_ GE130.out)|exact HB.out)) hb);have n8_ := Aside0.mk (hbox);have n9_ := Aside0.mk ((by rw [hg];exact (by first|exact HK.out.1|exact (show Kept w _ (fun k_ => P0_5_ k_) from by repeat (first|(with_reducible first|exact HK.out|apply Kept.alloc|apply Kept.drewN|apply Kept.drew|refine Kept.setCell ?_ (.inr GW128.out) _|refine Kept.setCell ?_ (.inr GW129.out) _|refine Kept.setCell ?_ (.inr GW130.out) _)|exact HK.out)).1) : w.heap.size ≤ gb132));have n10_ := Aside0.mk ((by rw [hg];exact (below_size (by repeat (first|(with_reducible first|exact HB.out|apply xa|apply xb|apply xc|refine below_set ?_ GE128.out|refine below_set ?_ GE129.out|refine below_set ?_ GE130.out)|exact HB.out))) : w0.heap.size ≤ gb132));have n11_ := Aside0.mk ((by rw [hg];exact Nat.ne_of_lt (blk_lt (g := gb128) (o := .cells #[.bool a0_0, .int .i64 a0_1, .int .i64 a0_2, .int .i64 a0_3, .slice (some ad131) l0_4.length c0_4, .slice Ao3 l0_5.length co3] 156 (0, 0)) (by (with_reducible repeat (first|apply blk_drewN|apply blk_drew|apply blk_alloc));exact BK128.out)) : gb128 ≠ gb132));have n12_ := Aside0.mk ((by rw [hg];exact Nat.ne_of_gt (blk_lt (g := gb128) (o := .cells #[.bool a0_0, .int .i64 a0_1, .int .i64 a0_2, .int .i64 a0_3, .slice (some ad131) l0_4.length c0_4, .slice Ao3 l0_5.length co3] 156 (0, 0)) (by (with_reducible repeat (first|apply blk_drewN|apply blk_drew|apply blk_alloc));exact BK128.out)) : gb132 ≠ gb128));have n13_ := Aside0.mk ((by rw [hg];exact Nat.ne_of_lt (blk_lt (g := gb129) (o := .cells #[.bool false, .int .i64 0, .int .i64 0, .int .i64 0, .slice none 0 0, .slice none 0 0] 156 (0, 0)) (by (with_reducible repeat (first|apply blk_drewN|apply blk_drew|apply blk_alloc));exact BK129.out)) : gb129 ≠ gb132));have n14_ := Aside0.mk ((by rw [hg];exact Nat.ne_of_gt (blk_lt (g := gb129) (o := .cells #[.bool false, .int .i64 0, .int .i64 0, .int .i64 0, .slice none 0 0, .slice none 0 0] 156 (0, 0)) (by (with_reducible repeat (first|apply blk_drewN|apply blk_drew|apply blk_alloc));exact BK129.out)) : gb132 ≠ gb129));have n15_ := Aside0.mk ((by rw [hg];exact Nat.ne_of_lt (blk_lt (g := gb130) (o := .cells #[.bool a0_0, .int .i64 x131001_1, .int .i64 a0_2, .int .i64 a0_3, u131004, .slice Ao3 l0_5.length co3] 156 (0, 0)) (by (with_reducible repeat (first|apply blk_drewN|apply blk_drew|apply blk_alloc));exact BK130.out)) : gb130 ≠ gb132));have n16_ := Aside0.mk ((by rw [hg];exact Nat.ne_of_gt (blk_lt (g := gb130) (o := .cells #[.bool a0_0, .int .i64 x131001_1, .int .i64 a0_2, .int .i64 a0_3, u131004, .slice Ao3 l0_5.length co3] 156 (0, 0)) (by (with_reducible repeat (first|apply blk_drewN|apply blk_drew|apply blk_alloc));exact BK130.out)) : gb132 ≠ gb130));clear HO_129005;clear HO_131004;clear HO_131005;clear BK128;clear BK129;clear BK130;clear HK;clear HB;have HO_129005 := n0_;have HO_131004 := n1_;have HO_131005 := n2_;have BK128 := n3_;have BK129 := n4_;have BK130 := n5_;have HK := n6_;have HB := n7_;have BK132 := n8_;have GW132 := n9_;have GE132 := n10_;have NB128_132 := n11_;have NB132_128 := n12_;have NB129_132 := n13_;have NB132_129 := n14_;have NB130_132 := n15_;have NB132_130 := n16_;clear n0_ n1_ n2_ n3_ n4_ n5_ n6_ n7_ n8_ n9_ n10_ n11_ n12_ n13_ n14_ n15_ n16_;clear hb hbox hg;have hnb33 := NB132_128.out;have hnc33 := NB128_132.out;have hnb34 := NB132_129.out;have hnc34 := NB129_132.out;have hnb35 := NB132_130.out;have hnc35 := NB130_132.out;have hcz36_0 : w32.cell? ⟨gb132, 0, none⟩ = some (.int .i64 0) := (blk_cell BK132.out 0).trans rfl;have hcz36_1 : w32.cell? ⟨gb132, 1, none⟩ = some (.int .i64 0) := (blk_cell BK132.out 1).trans rfl;have hfz36_0 := blk_frozen BK132.out 0;have hfz36_1 := blk_frozen BK132.out 1;have hnb37 := NB130_128.out;have hnc37 := NB128_130.out;have hnb38 := NB130_129.out;have hnc38 := NB129_130.out;have hcz39_0 : w32.cell? ⟨gb130, 0, none⟩ = some (.bool a0_0) := (blk_cell BK130.out 0).trans rfl;have hcz39_1 : w32.cell? ⟨gb130, 1, none⟩ = some (.int .i64 x131001_1) := (blk_cell BK130.out 1).trans rfl;have hcz39_2 : w32.cell? ⟨gb130, 2, none⟩ = some (.int .i64 a0_2) := (blk_cell BK130.out 2).trans rfl;have hcz39_3 : w32.cell? ⟨gb130, 3, none⟩ = some (.int .i64 a0_3) := (blk_cell BK130.out 3).trans rfl;have hcz39_4 : w32.cell? ⟨gb130, 4, none⟩ = some (u131004) := (blk_cell BK130.out 4).trans rfl;have hcz39_5 : w32.cell? ⟨gb130, 5, none⟩ = some (.slice Ao3 l0_5.length co3) := (blk_cell BK130.out 5).trans rfl;have hfz39_0 := blk_frozen BK130.out 0;have hfz39_1 := blk_frozen BK130.out 1;have hfz39_2 := blk_frozen BK130.out 2;have hfz39_3 := blk_frozen BK130.out 3;have hfz39_4 := blk_frozen BK130.out 4;have hfz39_5 := blk_frozen BK130.out 5)|((with_reducible refine gate_builtin (b := .append) (xs := #[.tmp 40, .tmp 42]) rfl ?_);at_builtin;refine Kd.R_append k95 (w0 := w0) w0.heap.size rfl (.tmp 40) (.tmp 42) 88 95 (.agg #[(.int .i64 0), (.int .i64 0)]) 16 rfl Try.underlying88 info95 rfl (by decide) (by omega) u131004 x131004_1 (⟨(rd_T95 l0_4 x17_1).f0, (rd_T95 l0_4 x17_1).f1⟩ : S95) [.int .i64 ((rd_T95 l0_4 x17_1).f0), .int .i64 ((rd_T95 l0_4 x17_1).f1)] (fun k_ => (P0_5_ k_ ∨ w.heap.size ≤ k_) ∧ k_ ≠ gb132) (fun _ => False) rfl (by first|(go_simp;done)|(go_simp;rfl)) ?aP (fun _ hk => hk.elim) ?aF ?aO ?aB ?aS ?aL ?_;(case aP => exact k95_mkM _ _ _ (⟨(rd_T95 l0_4 x17_1).f0, (rd_T95 l0_4 x17_1).f1⟩ : S95));(case aB => exact (by repeat (first|(with_reducible first|exact HB.out|apply xa|apply xb|apply xc|refine below_set ?_ GE128.out|refine below_set ?_ GE129.out|refine below_set ?_ GE130.out|refine below_set ?_ GE132.out)|exact HB.out)));(case aF => exact (fun k_ hk => ⟨(.inr (Nat.le_trans (show Kept w _ (fun k_ => P0_5_ k_) from by repeat (first|(with_reducible first|exact HK.out|apply Kept.alloc|apply Kept.drewN|apply Kept.drew|refine Kept.setCell ?_ (.inr GW128.out) _|refine Kept.setCell ?_ (.inr GW129.out) _|refine Kept.setCell ?_ (.inr GW130.out) _|refine Kept.setCell ?_ (.inr GW132.out) _)|exact HK.out)).1 hk)), Kd.freshB (g := gb132) (o := .cells #[.int .i64 ((rd_T95 l0_4 x17_1).f0), .int .i64 ((rd_T95 l0_4 x17_1).f1)] 95 (0, 0)) (by (with_reducible repeat (first|apply blk_drewN|apply blk_drew|apply blk_alloc));refine blk_put (cs := #[.int .i64 ((rd_T95 l0_4 x17_1).f0), .int .i64 0]) ?_ 1 _ rfl;(with_reducible repeat (first|apply blk_drewN|apply blk_drew|apply blk_alloc));refine blk_put (cs := #[.int .i64 0, .int .i64 0]) ?_ 0 _ rfl;(with_reducible repeat (first|apply blk_drewN|apply blk_drew|apply blk_alloc));exact BK132.out) k_ hk⟩));(case aO => exact (by (with_reducible repeat (first|apply Kd.R_alloc|apply Kd.R_drewN|apply Kd.R_drew));exact Kd.R_mono (Kd.R_far (p := ⟨gb132, 1, none⟩) (Kd.R_far (p := ⟨gb132, 0, none⟩) (Kd.R_mono HO_131004.out (fun k_ hk => (⟨hk, hk.2⟩ : _ ∧ k_ ≠ gb132))) (fun _ hk => hk.2) (.int .i64 ((rd_T95 l0_4 x17_1).f0))) (fun _ hk => hk.2) (.int .i64 ((rd_T95 l0_4 x17_1).f1))) (fun _ hk => ⟨hk.1.1, hk.1.2⟩)));(case aS => exact (below_size (by repeat (first|(with_reducible first|exact HB.out|apply xa|apply xb|apply xc|refine below_set ?_ GE128.out|refine below_set ?_ GE129.out|refine below_set ?_ GE130.out|refine below_set ?_ GE132.out)|exact HB.out))));(case aL => have := LMc31.out;omega);intro v137 w40 ho hb hg hat;rw [← Ny136.out] at ho;have n0_ := Aside0.mk (Kd.R_over' (by (with_reducible repeat (first|apply Kd.R_alloc|apply Kd.R_drewN|apply Kd.R_drew));exact (Kd.R_mono (Kd.R_far (p := ⟨gb132, 1, none⟩) (Kd.R_far (p := ⟨gb132, 0, none⟩) (Kd.R_types HO_129005.out BK132.out (by decide)) (fun _ hk => hk.2) (.int .i64 ((rd_T95 l0_4 x17_1).f0))) (fun _ hk => hk.2) (.int .i64 ((rd_T95 l0_4 x17_1).f1))) (fun _ h_ => h_.1))) (Kd.R_typed (by (with_reducible repeat (first|apply Kd.R_alloc|apply Kd.R_drewN|apply Kd.R_drew));exact (Kd.R_mono (Kd.R_far (p := ⟨gb132, 1, none⟩) (Kd.R_far (p := ⟨gb132, 0, none⟩) (Kd.R_mono HO_131004.out (fun k_ hk => (⟨hk, hk.2⟩ : _ ∧ k_ ≠ gb132))) (fun _ hk => hk.2) (.int .i64 ((rd_T95 l0_4 x17_1).f0))) (fun _ hk => hk.2) (.int .i64 ((rd_T95 l0_4 x17_1).f1))) (fun _ h_ => h_.1)))) (by decide) hg);have n1_ := Aside0.mk (Kd.R_over' (by (with_reducible repeat (first|apply Kd.R_alloc|apply Kd.R_drewN|apply Kd.R_drew));exact (Kd.R_mono (Kd.R_far (p := ⟨gb132, 1, none⟩) (Kd.R_far (p := ⟨gb132, 0, none⟩) (Kd.R_types HO_131005.out BK132.out (by decide)) (fun _ hk => hk.2) (.int .i64 ((rd_T95 l0_4 x17_1).f0))) (fun _ hk => hk.2) (.int .i64 ((rd_T95 l0_4 x17_1).f1))) (fun _ h_ => h_.1))) (Kd.R_typed (by (with_reducible repeat (first|apply Kd.R_alloc|apply Kd.R_drewN|apply Kd.R_drew));exact (Kd.R_mono (Kd.R_far (p := ⟨gb132, 1, none⟩) (Kd.R_far (p := ⟨gb132, 0, none⟩) (Kd.R_mono HO_131004.out (fun k_ hk => (⟨hk, hk.2⟩ : _ ∧ k_ ≠ gb132))) (fun _ hk => hk.2) (.int .i64 ((rd_T95 l0_4 x17_1).f0))) (fun _ hk => hk.2) (.int .i64 ((rd_T95 l0_4 x17_1).f1))) (fun _ h_ => h_.1)))) (by decide) hg);have n2_ := Aside0.mk (blk_grown (g := gb128) (o := .cells #[.bool a0_0, .int .i64 a0_1, .int .i64 a0_2, .int .i64 a0_3, .slice (some ad131) l0_4.length c0_4, .slice Ao3 l0_5.length co3] 156 (0, 0)) (by (with_reducible repeat (first|apply blk_drewN|apply blk_drew|apply blk_alloc));refine blk_far ?_ NB128_132.out _;(with_reducible repeat (first|apply blk_drewN|apply blk_drew|apply blk_alloc));refine blk_far ?_ NB128_132.out _;(with_reducible repeat (first|apply blk_drewN|apply blk_drew|apply blk_alloc));exact BK128.out) hg (Kd.R_ne HO_131004.out BK128.out (by decide)));have n3_ := Aside0.mk (blk_grown (g := gb129) (o := .cells #[.bool false, .int .i64 0, .int .i64 0, .int .i64 0, .slice none 0 0, .slice none 0 0] 156 (0, 0)) (by (with_reducible repeat (first|apply blk_drewN|apply blk_drew|apply blk_alloc));refine blk_far ?_ NB129_132.out _;(with_reducible repeat (first|apply blk_drewN|apply blk_drew|apply blk_alloc));refine blk_far ?_ NB129_132.out _;(with_reducible repeat (first|apply blk_drewN|apply blk_drew|apply blk_alloc));exact BK129.out) hg (Kd.R_ne HO_131004.out BK129.out (by decide)));have n4_ := Aside0.mk (blk_grown (g := gb130) (o := .cells #[.bool a0_0, .int .i64 x131001_1, .int .i64 a0_2, .int .i64 a0_3, u131004, .slice Ao3 l0_5.length co3] 156 (0, 0)) (by (with_reducible repeat (first|apply blk_drewN|apply blk_drew|apply blk_alloc));refine blk_far ?_ NB130_132.out _;(with_reducible repeat (first|apply blk_drewN|apply blk_drew|apply blk_alloc));refine blk_far ?_ NB130_132.out _;(with_reducible repeat (first|apply blk_drewN|apply blk_drew|apply blk_alloc));exact BK130.out) hg (Kd.R_ne HO_131004.out BK130.out (by decide)));have n5_ := Aside0.mk (blk_grown (g := gb132) (o := .cells #[.int .i64 ((rd_T95 l0_4 x17_1).f0), .int .i64 ((rd_T95 l0_4 x17_1).f1)] 95 (0, 0)) (by (with_reducible repeat (first|apply blk_drewN|apply blk_drew|apply blk_alloc));refine blk_put (cs := #[.int .i64 ((rd_T95 l0_4 x17_1).f0), .int .i64 0]) ?_ 1 _ rfl;(with_reducible repeat (first|apply blk_drewN|apply blk_drew|apply blk_alloc));refine blk_put (cs := #[.int .i64 0, .int .i64 0]) ?_ 0 _ rfl;(with_reducible repeat (first|apply blk_drewN|apply blk_drew|apply blk_alloc));exact BK132.out) hg (Kd.R_away HO_131004.out (fun _ hk => hk.2)));have n6_ := Aside0.mk (hb);have n7_ := Aside0.mk (Kept.of_grown (S := (fun k_ => P0_5_ k_)) hg (by repeat (first|(with_reducible first|exact HK.out|apply Kept.alloc|apply Kept.drewN|apply Kept.drew|refine Kept.setCell ?_ (.inr GW128.out) _|refine Kept.setCell ?_ (.inr GW129.out) _|refine Kept.setCell ?_ (.inr GW130.out) _|refine Kept.setCell ?_ (.inr GW132.out) _)|exact HK.out)) (fun k_ e_ => (HO_131004.out.1 k_ e_).1));have n8_ := Aside0.mk (ho);clear HO_129005;clear HO_131005;clear BK128;clear BK129;clear BK130;clear BK132;clear HB;clear HK;clear HO_131004;have HO_129005 := n0_;have HO_131005 := n1_;have BK128 := n2_;have BK129 := n3_;have BK130 := n4_;have BK132 := n5_;have HB := n6_;have HK := n7_;have HO138 := n8_;clear n0_ n1_ n2_ n3_ n4_ n5_ n6_ n7_ n8_;clear ho hb hg hat;obtain ⟨Ao41, co41, eo41⟩ := Kd.R_slice HO138.out;subst eo41;have hcz42_0 : w40.cell? ⟨gb130, 0, none⟩ = some (.bool a0_0) := (blk_cell BK130.out 0).trans rfl;have hcz42_1 : w40.cell? ⟨gb130, 1, none⟩ = some (.int .i64 x131001_1) := (blk_cell BK130.out 1).trans rfl;have hcz42_2 : w40.cell? ⟨gb130, 2, none⟩ = some (.int .i64 a0_2) := (blk_cell BK130.out 2).trans rfl;have hcz42_3 : w40.cell? ⟨gb130, 3, none⟩ = some (.int .i64 a0_3) := (blk_cell BK130.out 3).trans rfl;have hcz42_4 : w40.cell? ⟨gb130, 4, none⟩ = some (u131004) := (blk_cell BK130.out 4).trans rfl;have hcz42_5 : w40.cell? ⟨gb130, 5, none⟩ = some (.slice Ao3 l0_5.length co3) := (blk_cell BK130.out 5).trans rfl;have hfz42_0 := blk_frozen BK130.out 0;have hfz42_1 := blk_frozen BK130.out 1;have hfz42_2 := blk_frozen BK130.out 2;have hfz42_3 := blk_frozen BK130.out 3;have hfz42_4 := blk_frozen BK130.out 4;have hfz42_5 := blk_frozen BK130.out 5))
          (try simp only [px_add0] at *)
          go_roundg k1
          case measure => have := HK1.out;omega
          case rel => exact ⟨(true), ((((rd_T95 l0_4 x17_1).f1) == a1)), (wrap64 (x17_1 + 1)), (x131001_1), (y136), (.slice Ao41 y136.length co41), (by first|rfl|(simp;done)|(simp [*];done)), (by first|rfl|(simp;done)|(simp [*];done)), (by first|rfl|(simp;done)|(simp [*];done)), H', ⟨by have := HK1.out;omega⟩, ⟨by (with_reducible repeat (first|apply Kd.R_alloc|apply Kd.R_drewN|apply Kd.R_drew));exact Kd.R_mono (Kd.R_far (p := ⟨gb130, 4, none⟩) (Kd.R_types HO_129005.out BK130.out (by decide)) (fun _ hk => hk.2) (.slice Ao41 y136.length co41)) (fun _ hk => hk.1)⟩, ⟨by (with_reducible repeat (first|apply Kd.R_alloc|apply Kd.R_drewN|apply Kd.R_drew));exact Kd.R_mono (Kd.R_far (p := ⟨gb130, 4, none⟩) (Kd.R_types HO138.out BK130.out (by decide)) (fun _ hk => hk.2) (.slice Ao41 y136.length co41)) (fun _ hk => hk.1.1)⟩, ⟨by (with_reducible repeat (first|apply Kd.R_alloc|apply Kd.R_drewN|apply Kd.R_drew));exact Kd.R_mono (Kd.R_far (p := ⟨gb130, 4, none⟩) (Kd.R_types HO_131005.out BK130.out (by decide)) (fun _ hk => hk.2) (.slice Ao41 y136.length co41)) (fun _ hk => hk.1)⟩, ⟨by (with_reducible repeat (first|apply blk_drewN|apply blk_drew|apply blk_alloc));refine blk_far ?_ NB128_130.out _;(with_reducible repeat (first|apply blk_drewN|apply blk_drew|apply blk_alloc));exact BK128.out⟩, ⟨by (with_reducible repeat (first|apply blk_drewN|apply blk_drew|apply blk_alloc));refine blk_far ?_ NB129_130.out _;(with_reducible repeat (first|apply blk_drewN|apply blk_drew|apply blk_alloc));exact BK129.out⟩, ⟨by (with_reducible repeat (first|apply blk_drewN|apply blk_drew|apply blk_alloc));refine blk_put (cs := #[.bool a0_0, .int .i64 x131001_1, .int .i64 a0_2, .int .i64 a0_3, u131004, .slice Ao3 l0_5.length co3]) ?_ 4 _ rfl;(with_reducible repeat (first|apply blk_drewN|apply blk_drew|apply blk_alloc));exact BK130.out⟩, ⟨by repeat (first|(with_reducible first|exact HK.out|apply Kept.alloc|apply Kept.drewN|apply Kept.drew|refine Kept.setCell ?_ (.inr GW128.out) _|refine Kept.setCell ?_ (.inr GW129.out) _|refine Kept.setCell ?_ (.inr GW130.out) _|refine Kept.setCell ?_ (.inr GW132.out) _)|exact HK.out)⟩, ⟨by repeat (first|(with_reducible first|exact HB.out|apply xa|apply xb|apply xc|refine below_set ?_ GE128.out|refine below_set ?_ GE129.out|refine below_set ?_ GE130.out|refine below_set ?_ GE132.out)|exact HB.out)⟩⟩
         ·rw [if_neg c31] at H
          exact absurd H (by simp)
       ·replace c17 := Bool.eq_false_iff.mpr c17
        subst c17
        have H1 : (pinfoldref14_told.l0 k1 a1 true x7_1 l0_4 (l0_4.length : Int) (wrap64 (x17_1 + 1)) a0_0 a0_1 a0_2 a0_3 l0_4 l0_5 a0_0 ((rd_T95 l0_4 x17_1).f0) a0_2 a0_3 x131004_1 l0_5) = some (r1, r2, r3, r4, r5, r6) := by rw [if_neg (show ¬ (false = true) by decide)] at H;exact H
        clear H
        have H := H1
        clear H1
        have H' := Aside0.mk H
        clear H
        have p131 : 0 ≤ (x17_1 : Int) := of_decide_eq_true (by assumption)
        have q131 : x17_1 < (l0_4.length : Int) := of_decide_eq_true (by assumption)
        obtain ⟨ad131, e131, hx131_0, hx131_1⟩ := at_T95 (Kd.C_kept_now HR0_4.out HK.out) x17_1 p131 q131
        cases e131
        replace p131 := eq_true p131
        replace q131 := eq_true q131
        go_wp2_with (first|((with_reducible refine gate_dst (N := 9) rfl ?_);refine box_event ?hg (N := 9) ?hd (cs := #[.int .i64 0, .int .i64 0]) (t := 95) ?hr ?_;(case hd => rfl);(case hg => rfl);(case hr => first|(go_simp;done)|(go_simp;rfl));intro gb132 hg w43 hbox hb;have n0_ := Aside0.mk (Kd.R_below (by (with_reducible repeat (first|apply Kd.R_alloc|apply Kd.R_drewN|apply Kd.R_drew));exact HO_129005.out) hb);have n1_ := Aside0.mk (Kd.R_below (Kd.R_elderB (by (with_reducible repeat (first|apply Kd.R_alloc|apply Kd.R_drewN|apply Kd.R_drew));exact HO_131004.out) gb132 (Nat.le_of_eq hg.symm)) hb);have n2_ := Aside0.mk (Kd.R_below (by (with_reducible repeat (first|apply Kd.R_alloc|apply Kd.R_drewN|apply Kd.R_drew));exact HO_131005.out) hb);have n3_ := Aside0.mk (blk_below (g := gb128) (o := .cells #[.bool a0_0, .int .i64 a0_1, .int .i64 a0_2, .int .i64 a0_3, .slice (some ad131) l0_4.length c0_4, .slice Ao3 l0_5.length co3] 156 (0, 0)) (by (with_reducible repeat (first|apply blk_drewN|apply blk_drew|apply blk_alloc));exact BK128.out) hb);have n4_ := Aside0.mk (blk_below (g := gb129) (o := .cells #[.bool false, .int .i64 0, .int .i64 0, .int .i64 0, .slice none 0 0, .slice none 0 0] 156 (0, 0)) (by (with_reducible repeat (first|apply blk_drewN|apply blk_drew|apply blk_alloc));exact BK129.out) hb);have n5_ := Aside0.mk (blk_below (g := gb130) (o := .cells #[.bool a0_0, .int .i64 x131001_1, .int .i64 a0_2, .int .i64 a0_3, u131004, .slice Ao3 l0_5.length co3] 156 (0, 0)) (by (with_reducible repeat (first|apply blk_drewN|apply blk_drew|apply blk_alloc));exact BK130.out) hb);have n6_ := Aside0.mk (Kept.below (S := (fun k_ => P0_5_ k_)) (by repeat (first|(with_reducible first|exact HK.out|apply Kept.alloc|apply Kept.drewN|apply Kept.drew|refine Kept.setCell ?_ (.inr GW128.out) _|refine Kept.setCell ?_ (.inr GW129.out) _|refine Kept.setCell ?_ (.inr GW130.out) _)|exact HK.out)) hb);have n7_ := Aside0.mk (below_step (by repeat (first|(with_reducible first|exact HB.out|apply xa|apply xb|apply xc|refine below_set ?_ GE128.out|refine below_set ?_ GE129.out|refine below_set ?_ GE130.out)|exact HB.out)) hb);have n8_ := Aside0.mk (hbox);have n9_ := Aside0.mk ((by rw [hg];exact (by first|exact HK.out.1|exact (show Kept w _ (fun k_ => P0_5_ k_) from by repeat (first|(with_reducible first|exact HK.out|apply Kept.alloc|apply Kept.drewN|apply Kept.drew|refine Kept.setCell ?_ (.inr GW128.out) _|refine Kept.setCell ?_ (.inr GW129.out) _|refine Kept.setCell ?_ (.inr GW130.out) _)|exact HK.out)).1) : w.heap.size ≤ gb132));have n10_ := Aside0.mk ((by rw [hg];exact (below_size (by repeat (first|(with_reducible first|exact HB.out|apply xa|apply xb|apply xc|refine below_set ?_ GE128.out|refine below_set ?_ GE129.out|refine below_set ?_ GE130.out)|exact HB.out))) : w0.heap.size ≤ gb132));have n11_ := Aside0.mk ((by rw [hg];exact Nat.ne_of_lt (blk_lt (g := gb128) (o := .cells #[.bool a0_0, .int .i64 a0_1, .int .i64 a0_2, .int .i64 a0_3, .slice (some ad131) l0_4.length c0_4, .slice Ao3 l0_5.length co3] 156 (0, 0)) (by (with_reducible repeat (first|apply blk_drewN|apply blk_drew|apply blk_alloc));exact BK128.out)) : gb128 ≠ gb132));have n12_ := Aside0.mk ((by rw [hg];exact Nat.ne_of_gt (blk_lt (g := gb128) (o := .cells #[.bool a0_0, .int .i64 a0_1, .int .i64 a0_2, .int .i64 a0_3, .slice (some ad131) l0_4.length c0_4, .slice Ao3 l0_5.length co3] 156 (0, 0)) (by (with_reducible repeat (first|apply blk_drewN|apply blk_drew|apply blk_alloc));exact BK128.out)) : gb132 ≠ gb128));have n13_ := Aside0.mk ((by rw [hg];exact Nat.ne_of_lt (blk_lt (g := gb129) (o := .cells #[.bool false, .int .i64 0, .int .i64 0, .int .i64 0, .slice none 0 0, .slice none 0 0] 156 (0, 0)) (by (with_reducible repeat (first|apply blk_drewN|apply blk_drew|apply blk_alloc));exact BK129.out)) : gb129 ≠ gb132));have n14_ := Aside0.mk ((by rw [hg];exact Nat.ne_of_gt (blk_lt (g := gb129) (o := .cells #[.bool false, .int .i64 0, .int .i64 0, .int .i64 0, .slice none 0 0, .slice none 0 0] 156 (0, 0)) (by (with_reducible repeat (first|apply blk_drewN|apply blk_drew|apply blk_alloc));exact BK129.out)) : gb132 ≠ gb129));have n15_ := Aside0.mk ((by rw [hg];exact Nat.ne_of_lt (blk_lt (g := gb130) (o := .cells #[.bool a0_0, .int .i64 x131001_1, .int .i64 a0_2, .int .i64 a0_3, u131004, .slice Ao3 l0_5.length co3] 156 (0, 0)) (by (with_reducible repeat (first|apply blk_drewN|apply blk_drew|apply blk_alloc));exact BK130.out)) : gb130 ≠ gb132));have n16_ := Aside0.mk ((by rw [hg];exact Nat.ne_of_gt (blk_lt (g := gb130) (o := .cells #[.bool a0_0, .int .i64 x131001_1, .int .i64 a0_2, .int .i64 a0_3, u131004, .slice Ao3 l0_5.length co3] 156 (0, 0)) (by (with_reducible repeat (first|apply blk_drewN|apply blk_drew|apply blk_alloc));exact BK130.out)) : gb132 ≠ gb130));clear HO_129005;clear HO_131004;clear HO_131005;clear BK128;clear BK129;clear BK130;clear HK;clear HB;have HO_129005 := n0_;have HO_131004 := n1_;have HO_131005 := n2_;have BK128 := n3_;have BK129 := n4_;have BK130 := n5_;have HK := n6_;have HB := n7_;have BK132 := n8_;have GW132 := n9_;have GE132 := n10_;have NB128_132 := n11_;have NB132_128 := n12_;have NB129_132 := n13_;have NB132_129 := n14_;have NB130_132 := n15_;have NB132_130 := n16_;clear n0_ n1_ n2_ n3_ n4_ n5_ n6_ n7_ n8_ n9_ n10_ n11_ n12_ n13_ n14_ n15_ n16_;clear hb hbox hg;have hnb44 := NB132_128.out;have hnc44 := NB128_132.out;have hnb45 := NB132_129.out;have hnc45 := NB129_132.out;have hnb46 := NB132_130.out;have hnc46 := NB130_132.out;have hcz47_0 : w43.cell? ⟨gb132, 0, none⟩ = some (.int .i64 0) := (blk_cell BK132.out 0).trans rfl;have hcz47_1 : w43.cell? ⟨gb132, 1, none⟩ = some (.int .i64 0) := (blk_cell BK132.out 1).trans rfl;have hfz47_0 := blk_frozen BK132.out 0;have hfz47_1 := blk_frozen BK132.out 1;have hnb48 := NB130_128.out;have hnc48 := NB128_130.out;have hnb49 := NB130_129.out;have hnc49 := NB129_130.out;have hcz50_0 : w43.cell? ⟨gb130, 0, none⟩ = some (.bool a0_0) := (blk_cell BK130.out 0).trans rfl;have hcz50_1 : w43.cell? ⟨gb130, 1, none⟩ = some (.int .i64 x131001_1) := (blk_cell BK130.out 1).trans rfl;have hcz50_2 : w43.cell? ⟨gb130, 2, none⟩ = some (.int .i64 a0_2) := (blk_cell BK130.out 2).trans rfl;have hcz50_3 : w43.cell? ⟨gb130, 3, none⟩ = some (.int .i64 a0_3) := (blk_cell BK130.out 3).trans rfl;have hcz50_4 : w43.cell? ⟨gb130, 4, none⟩ = some (u131004) := (blk_cell BK130.out 4).trans rfl;have hcz50_5 : w43.cell? ⟨gb130, 5, none⟩ = some (.slice Ao3 l0_5.length co3) := (blk_cell BK130.out 5).trans rfl;have hfz50_0 := blk_frozen BK130.out 0;have hfz50_1 := blk_frozen BK130.out 1;have hfz50_2 := blk_frozen BK130.out 2;have hfz50_3 := blk_frozen BK130.out 3;have hfz50_4 := blk_frozen BK130.out 4;have hfz50_5 := blk_frozen BK130.out 5))
        (try simp only [px_add0] at *)
        go_roundg k1
        case measure => have := HK1.out;omega
        case rel => exact ⟨(true), (x7_1), (wrap64 (x17_1 + 1)), ((rd_T95 l0_4 x17_1).f0), (x131004_1), (u131004), (by first|rfl|(simp;done)|(simp [*];done)), (by first|rfl|(simp;done)|(simp [*];done)), (by first|rfl|(simp;done)|(simp [*];done)), H', ⟨by have := HK1.out;omega⟩, ⟨by (with_reducible repeat (first|apply Kd.R_alloc|apply Kd.R_drewN|apply Kd.R_drew));exact Kd.R_mono (Kd.R_far (p := ⟨gb130, 1, none⟩) (Kd.R_far (p := ⟨gb132, 1, none⟩) (Kd.R_far (p := ⟨gb132, 0, none⟩) (Kd.R_types (Kd.R_types HO_129005.out BK132.out (by decide)) BK130.out (by decide)) (fun _ hk => hk.1.2) (.int .i64 ((rd_T95 l0_4 x17_1).f0))) (fun _ hk => hk.1.2) (.int .i64 ((rd_T95 l0_4 x17_1).f1))) (fun _ hk => hk.2) (.int .i64 ((rd_T95 l0_4 x17_1).f0))) (fun _ hk => hk.1.1)⟩, ⟨by (with_reducible repeat (first|apply Kd.R_alloc|apply Kd.R_drewN|apply Kd.R_drew));exact Kd.R_mono (Kd.R_far (p := ⟨gb130, 1, none⟩) (Kd.R_far (p := ⟨gb132, 1, none⟩) (Kd.R_far (p := ⟨gb132, 0, none⟩) (Kd.R_types (Kd.R_mono HO_131004.out (fun k_ hk => (⟨hk, hk.2⟩ : _ ∧ k_ ≠ gb132))) BK130.out (by decide)) (fun _ hk => hk.1.2) (.int .i64 ((rd_T95 l0_4 x17_1).f0))) (fun _ hk => hk.1.2) (.int .i64 ((rd_T95 l0_4 x17_1).f1))) (fun _ hk => hk.2) (.int .i64 ((rd_T95 l0_4 x17_1).f0))) (fun _ hk => hk.1.1.1)⟩, ⟨by (with_reducible repeat (first|apply Kd.R_alloc|apply Kd.R_drewN|apply Kd.R_drew));exact Kd.R_mono (Kd.R_far (p := ⟨gb130, 1, none⟩) (Kd.R_far (p := ⟨gb132, 1, none⟩) (Kd.R_far (p := ⟨gb132, 0, none⟩) (Kd.R_types (Kd.R_types HO_131005.out BK132.out (by decide)) BK130.out (by decide)) (fun _ hk => hk.1.2) (.int .i64 ((rd_T95 l0_4 x17_1).f0))) (fun _ hk => hk.1.2) (.int .i64 ((rd_T95 l0_4 x17_1).f1))) (fun _ hk => hk.2) (.int .i64 ((rd_T95 l0_4 x17_1).f0))) (fun _ hk => hk.1.1)⟩, ⟨by (with_reducible repeat (first|apply blk_drewN|apply blk_drew|apply blk_alloc));refine blk_far ?_ NB128_130.out _;(with_reducible repeat (first|apply blk_drewN|apply blk_drew|apply blk_alloc));refine blk_far ?_ NB128_132.out _;(with_reducible repeat (first|apply blk_drewN|apply blk_drew|apply blk_alloc));refine blk_far ?_ NB128_132.out _;(with_reducible repeat (first|apply blk_drewN|apply blk_drew|apply blk_alloc));exact BK128.out⟩, ⟨by (with_reducible repeat (first|apply blk_drewN|apply blk_drew|apply blk_alloc));refine blk_far ?_ NB129_130.out _;(with_reducible repeat (first|apply blk_drewN|apply blk_drew|apply blk_alloc));refine blk_far ?_ NB129_132.out _;(with_reducible repeat (first|apply blk_drewN|apply blk_drew|apply blk_alloc));refine blk_far ?_ NB129_132.out _;(with_reducible repeat (first|apply blk_drewN|apply blk_drew|apply blk_alloc));exact BK129.out⟩, ⟨by (with_reducible repeat (first|apply blk_drewN|apply blk_drew|apply blk_alloc));refine blk_put (cs := #[.bool a0_0, .int .i64 x131001_1, .int .i64 a0_2, .int .i64 a0_3, u131004, .slice Ao3 l0_5.length co3]) ?_ 1 _ rfl;(with_reducible repeat (first|apply blk_drewN|apply blk_drew|apply blk_alloc));refine blk_far ?_ NB130_132.out _;(with_reducible repeat (first|apply blk_drewN|apply blk_drew|apply blk_alloc));refine blk_far ?_ NB130_132.out _;(with_reducible repeat (first|apply blk_drewN|apply blk_drew|apply blk_alloc));exact BK130.out⟩, ⟨by repeat (first|(with_reducible first|exact HK.out|apply Kept.alloc|apply Kept.drewN|apply Kept.drew|refine Kept.setCell ?_ (.inr GW128.out) _|refine Kept.setCell ?_ (.inr GW129.out) _|refine Kept.setCell ?_ (.inr GW130.out) _|refine Kept.setCell ?_ (.inr GW132.out) _)|exact HK.out)⟩, ⟨by repeat (first|(with_reducible first|exact HB.out|apply xa|apply xb|apply xc|refine below_set ?_ GE128.out|refine below_set ?_ GE129.out|refine below_set ?_ GE130.out|refine below_set ?_ GE132.out)|exact HB.out)⟩⟩
      ·rw [if_neg c16] at H
       have c16b0 : (((rd_T95 l0_4 x17_1).f1) == a1) = false := beq_eq_false_iff_ne.mpr c16
       have c16b1 : (((rd_T95 l0_4 x17_1).f1) != a1) = true := bne_iff_ne.mpr c16
       by_cases c51 : x7_1 = true
       ·subst c51
        have H1 : (if x131004_1.length < 8796093022208 then (pinfoldref14_told.l0 k1 a1 x6_1 true l0_4 (l0_4.length : Int) (wrap64 (x17_1 + 1)) a0_0 a0_1 a0_2 a0_3 l0_4 l0_5 a0_0 x131001_1 a0_2 a0_3 (x131004_1 ++ [(⟨(rd_T95 l0_4 x17_1).f0, (rd_T95 l0_4 x17_1).f1⟩ : S95)]) l0_5) else (none)) = some (r1, r2, r3, r4, r5, r6) := by rw [if_pos rfl] at H;exact H
        clear H
        have H := H1
        clear H1
        by_cases c52 : x131004_1.length < 8796093022208
        ·rw [if_pos c52] at H
         have LMc52 := Aside0.mk c52
         clear c52
         obtain ⟨y139, hy139⟩ : ∃ y_ : List (S95), y_ = (x131004_1 ++ [(⟨(rd_T95 l0_4 x17_1).f0, (rd_T95 l0_4 x17_1).f1⟩ : S95)]) := ⟨_, rfl⟩
         replace H : (pinfoldref14_told.l0 k1 a1 x6_1 true l0_4 (l0_4.length : Int) (wrap64 (x17_1 + 1)) a0_0 a0_1 a0_2 a0_3 l0_4 l0_5 a0_0 x131001_1 a0_2 a0_3 y139 l0_5) = some (r1, r2, r3, r4, r5, r6) := by first|(rw [hy139];with_reducible exact H)|(have H2_ := (Option.bind_some _ _).symm.trans H;rw [hy139];with_reducible exact H2_)|(have H2_ := (Option.bind_some _ _).symm.trans H;with_reducible exact H2_)|with_reducible exact H|(rw [hy139];exact H)|exact H
         have Ny139 := Aside0.mk hy139
         clear hy139
         have H' := Aside0.mk H
         clear H
         have p131 : 0 ≤ (x17_1 : Int) := of_decide_eq_true (by assumption)
         have q131 : x17_1 < (l0_4.length : Int) := of_decide_eq_true (by assumption)
         obtain ⟨ad131, e131, hx131_0, hx131_1⟩ := at_T95 (Kd.C_kept_now HR0_4.out HK.out) x17_1 p131 q131
         cases e131
         replace p131 := eq_true p131
         replace q131 := eq_true q131
         go_wp2_with (first|((with_reducible refine gate_dst (N := 9) rfl ?_);refine box_event ?hg (N := 9) ?hd (cs := #[.int .i64 0, .int .i64 0]) (t := 95) ?hr ?_;(case hd => rfl);(case hg => rfl);(case hr => first|(go_simp;done)|(go_simp;rfl));intro gb132 hg w53 hbox hb;have n0_ := Aside0.mk (Kd.R_below (by (with_reducible repeat (first|apply Kd.R_alloc|apply Kd.R_drewN|apply Kd.R_drew));exact HO_129005.out) hb);have n1_ := Aside0.mk (Kd.R_below (Kd.R_elderB (by (with_reducible repeat (first|apply Kd.R_alloc|apply Kd.R_drewN|apply Kd.R_drew));exact HO_131004.out) gb132 (Nat.le_of_eq hg.symm)) hb);have n2_ := Aside0.mk (Kd.R_below (by (with_reducible repeat (first|apply Kd.R_alloc|apply Kd.R_drewN|apply Kd.R_drew));exact HO_131005.out) hb);have n3_ := Aside0.mk (blk_below (g := gb128) (o := .cells #[.bool a0_0, .int .i64 a0_1, .int .i64 a0_2, .int .i64 a0_3, .slice (some ad131) l0_4.length c0_4, .slice Ao3 l0_5.length co3] 156 (0, 0)) (by (with_reducible repeat (first|apply blk_drewN|apply blk_drew|apply blk_alloc));exact BK128.out) hb);have n4_ := Aside0.mk (blk_below (g := gb129) (o := .cells #[.bool false, .int .i64 0, .int .i64 0, .int .i64 0, .slice none 0 0, .slice none 0 0] 156 (0, 0)) (by (with_reducible repeat (first|apply blk_drewN|apply blk_drew|apply blk_alloc));exact BK129.out) hb);have n5_ := Aside0.mk (blk_below (g := gb130) (o := .cells #[.bool a0_0, .int .i64 x131001_1, .int .i64 a0_2, .int .i64 a0_3, u131004, .slice Ao3 l0_5.length co3] 156 (0, 0)) (by (with_reducible repeat (first|apply blk_drewN|apply blk_drew|apply blk_alloc));exact BK130.out) hb);have n6_ := Aside0.mk (Kept.below (S := (fun k_ => P0_5_ k_)) (by repeat (first|(with_reducible first|exact HK.out|apply Kept.alloc|apply Kept.drewN|apply Kept.drew|refine Kept.setCell ?_ (.inr GW128.out) _|refine Kept.setCell ?_ (.inr GW129.out) _|refine Kept.setCell ?_ (.inr GW130.out) _)|exact HK.out)) hb);have n7_ := Aside0.mk (below_step (by repeat (first|(with_reducible first|exact HB.out|apply xa|apply xb|apply xc|refine below_set ?_ GE128.out|refine below_set ?_ GE129.out|refine below_set ?_ GE130.out)|exact HB.out)) hb);have n8_ := Aside0.mk (hbox);have n9_ := Aside0.mk ((by rw [hg];exact (by first|exact HK.out.1|exact (show Kept w _ (fun k_ => P0_5_ k_) from by repeat (first|(with_reducible first|exact HK.out|apply Kept.alloc|apply Kept.drewN|apply Kept.drew|refine Kept.setCell ?_ (.inr GW128.out) _|refine Kept.setCell ?_ (.inr GW129.out) _|refine Kept.setCell ?_ (.inr GW130.out) _)|exact HK.out)).1) : w.heap.size ≤ gb132));have n10_ := Aside0.mk ((by rw [hg];exact (below_size (by repeat (first|(with_reducible first|exact HB.out|apply xa|apply xb|apply xc|refine below_set ?_ GE128.out|refine below_set ?_ GE129.out|refine below_set ?_ GE130.out)|exact HB.out))) : w0.heap.size ≤ gb132));have n11_ := Aside0.mk ((by rw [hg];exact Nat.ne_of_lt (blk_lt (g := gb128) (o := .cells #[.bool a0_0, .int .i64 a0_1, .int .i64 a0_2, .int .i64 a0_3, .slice (some ad131) l0_4.length c0_4, .slice Ao3 l0_5.length co3] 156 (0, 0)) (by (with_reducible repeat (first|apply blk_drewN|apply blk_drew|apply blk_alloc));exact BK128.out)) : gb128 ≠ gb132));have n12_ := Aside0.mk ((by rw [hg];exact Nat.ne_of_gt (blk_lt (g := gb128) (o := .cells #[.bool a0_0, .int .i64 a0_1, .int .i64 a0_2, .int .i64 a0_3, .slice (some ad131) l0_4.length c0_4, .slice Ao3 l0_5.length co3] 156 (0, 0)) (by (with_reducible repeat (first|apply blk_drewN|apply blk_drew|apply blk_alloc));exact BK128.out)) : gb132 ≠ gb128));have n13_ := Aside0.mk ((by rw [hg];exact Nat.ne_of_lt (blk_lt (g := gb129) (o := .cells #[.bool false, .int .i64 0, .int .i64 0, .int .i64 0, .slice none 0 0, .slice none 0 0] 156 (0, 0)) (by (with_reducible repeat (first|apply blk_drewN|apply blk_drew|apply blk_alloc));exact BK129.out)) : gb129 ≠ gb132));have n14_ := Aside0.mk ((by rw [hg];exact Nat.ne_of_gt (blk_lt (g := gb129) (o := .cells #[.bool false, .int .i64 0, .int .i64 0, .int .i64 0, .slice none 0 0, .slice none 0 0] 156 (0, 0)) (by (with_reducible repeat (first|apply blk_drewN|apply blk_drew|apply blk_alloc));exact BK129.out)) : gb132 ≠ gb129));have n15_ := Aside0.mk ((by rw [hg];exact Nat.ne_of_lt (blk_lt (g := gb130) (o := .cells #[.bool a0_0, .int .i64 x131001_1, .int .i64 a0_2, .int .i64 a0_3, u131004, .slice Ao3 l0_5.length co3] 156 (0, 0)) (by (with_reducible repeat (first|apply blk_drewN|apply blk_drew|apply blk_alloc));exact BK130.out)) : gb130 ≠ gb132));have n16_ := Aside0.mk ((by rw [hg];exact Nat.ne_of_gt (blk_lt (g := gb130) (o := .cells #[.bool a0_0, .int .i64 x131001_1, .int .i64 a0_2, .int .i64 a0_3, u131004, .slice Ao3 l0_5.length co3] 156 (0, 0)) (by (with_reducible repeat (first|apply blk_drewN|apply blk_drew|apply blk_alloc));exact BK130.out)) : gb132 ≠ gb130));clear HO_129005;clear HO_131004;clear HO_131005;clear BK128;clear BK129;clear BK130;clear HK;clear HB;have HO_129005 := n0_;have HO_131004 := n1_;have HO_131005 := n2_;have BK128 := n3_;have BK129 := n4_;have BK130 := n5_;have HK := n6_;have HB := n7_;have BK132 := n8_;have GW132 := n9_;have GE132 := n10_;have NB128_132 := n11_;have NB132_128 := n12_;have NB129_132 := n13_;have NB132_129 := n14_;have NB130_132 := n15_;have NB132_130 := n16_;clear n0_ n1_ n2_ n3_ n4_ n5_ n6_ n7_ n8_ n9_ n10_ n11_ n12_ n13_ n14_ n15_ n16_;clear hb hbox hg;have hnb54 := NB132_128.out;have hnc54 := NB128_132.out;have hnb55 := NB132_129.out;have hnc55 := NB129_132.out;have hnb56 := NB132_130.out;have hnc56 := NB130_132.out;have hcz57_0 : w53.cell? ⟨gb132, 0, none⟩ = some (.int .i64 0) := (blk_cell BK132.out 0).trans rfl;have hcz57_1 : w53.cell? ⟨gb132, 1, none⟩ = some (.int .i64 0) := (blk_cell BK132.out 1).trans rfl;have hfz57_0 := blk_frozen BK132.out 0;have hfz57_1 := blk_frozen BK132.out 1;have hnb58 := NB130_128.out;have hnc58 := NB128_130.out;have hnb59 := NB130_129.out;have hnc59 := NB129_130.out;have hcz60_0 : w53.cell? ⟨gb130, 0, none⟩ = some (.bool a0_0) := (blk_cell BK130.out 0).trans rfl;have hcz60_1 : w53.cell? ⟨gb130, 1, none⟩ = some (.int .i64 x131001_1) := (blk_cell BK130.out 1).trans rfl;have hcz60_2 : w53.cell? ⟨gb130, 2, none⟩ = some (.int .i64 a0_2) := (blk_cell BK130.out 2).trans rfl;have hcz60_3 : w53.cell? ⟨gb130, 3, none⟩ = some (.int .i64 a0_3) := (blk_cell BK130.out 3).trans rfl;have hcz60_4 : w53.cell? ⟨gb130, 4, none⟩ = some (u131004) := (blk_cell BK130.out 4).trans rfl;have hcz60_5 : w53.cell? ⟨gb130, 5, none⟩ = some (.slice Ao3 l0_5.length co3) := (blk_cell BK130.out 5).trans rfl;have hfz60_0 := blk_frozen BK130.out 0;have hfz60_1 := blk_frozen BK130.out 1;have hfz60_2 := blk_frozen BK130.out 2;have hfz60_3 := blk_frozen BK130.out 3;have hfz60_4 := blk_frozen BK130.out 4;have hfz60_5 := blk_frozen BK130.out 5)|((with_reducible refine gate_builtin (b := .append) (xs := #[.tmp 40, .tmp 42]) rfl ?_);at_builtin;refine Kd.R_append k95 (w0 := w0) w0.heap.size rfl (.tmp 40) (.tmp 42) 88 95 (.agg #[(.int .i64 0), (.int .i64 0)]) 16 rfl Try.underlying88 info95 rfl (by decide) (by omega) u131004 x131004_1 (⟨(rd_T95 l0_4 x17_1).f0, (rd_T95 l0_4 x17_1).f1⟩ : S95) [.int .i64 ((rd_T95 l0_4 x17_1).f0), .int .i64 ((rd_T95 l0_4 x17_1).f1)] (fun k_ => (P0_5_ k_ ∨ w.heap.size ≤ k_) ∧ k_ ≠ gb132) (fun _ => False) rfl (by first|(go_simp;done)|(go_simp;rfl)) ?aP (fun _ hk => hk.elim) ?aF ?aO ?aB ?aS ?aL ?_;(case aP => exact k95_mkM _ _ _ (⟨(rd_T95 l0_4 x17_1).f0, (rd_T95 l0_4 x17_1).f1⟩ : S95));(case aB => exact (by repeat (first|(with_reducible first|exact HB.out|apply xa|apply xb|apply xc|refine below_set ?_ GE128.out|refine below_set ?_ GE129.out|refine below_set ?_ GE130.out|refine below_set ?_ GE132.out)|exact HB.out)));(case aF => exact (fun k_ hk => ⟨(.inr (Nat.le_trans (show Kept w _ (fun k_ => P0_5_ k_) from by repeat (first|(with_reducible first|exact HK.out|apply Kept.alloc|apply Kept.drewN|apply Kept.drew|refine Kept.setCell ?_ (.inr GW128.out) _|refine Kept.setCell ?_ (.inr GW129.out) _|refine Kept.setCell ?_ (.inr GW130.out) _|refine Kept.setCell ?_ (.inr GW132.out) _)|exact HK.out)).1 hk)), Kd.freshB (g := gb132) (o := .cells #[.int .i64 ((rd_T95 l0_4 x17_1).f0), .int .i64 ((rd_T95 l0_4 x17_1).f1)] 95 (0, 0)) (by (with_reducible repeat (first|apply blk_drewN|apply blk_drew|apply blk_alloc));refine blk_put (cs := #[.int .i64 ((rd_T95 l0_4 x17_1).f0), .int .i64 0]) ?_ 1 _ rfl;(with_reducible repeat (first|apply blk_drewN|apply blk_drew|apply blk_alloc));refine blk_put (cs := #[.int .i64 0, .int .i64 0]) ?_ 0 _ rfl;(with_reducible repeat (first|apply blk_drewN|apply blk_drew|apply blk_alloc));exact BK132.out) k_ hk⟩));(case aO => exact (by (with_reducible repeat (first|apply Kd.R_alloc|apply Kd.R_drewN|apply Kd.R_drew));exact Kd.R_mono (Kd.R_far (p := ⟨gb132, 1, none⟩) (Kd.R_far (p := ⟨gb132, 0, none⟩) (Kd.R_mono HO_131004.out (fun k_ hk => (⟨hk, hk.2⟩ : _ ∧ k_ ≠ gb132))) (fun _ hk => hk.2) (.int .i64 ((rd_T95 l0_4 x17_1).f0))) (fun _ hk => hk.2) (.int .i64 ((rd_T95 l0_4 x17_1).f1))) (fun _ hk => ⟨hk.1.1, hk.1.2⟩)));(case aS => exact (below_size (by repeat (first|(with_reducible first|exact HB.out|apply xa|apply xb|apply xc|refine below_set ?_ GE128.out|refine below_set ?_ GE129.out|refine below_set ?_ GE130.out|refine below_set ?_ GE132.out)|exact HB.out))));(case aL => have := LMc52.out;omega);intro v140 w61 ho hb hg hat;rw [← Ny139.out] at ho;have n0_ := Aside0.mk (Kd.R_over' (by (with_reducible repeat (first|apply Kd.R_alloc|apply Kd.R_drewN|apply Kd.R_drew));exact (Kd.R_mono (Kd.R_far (p := ⟨gb132, 1, none⟩) (Kd.R_far (p := ⟨gb132, 0, none⟩) (Kd.R_types HO_129005.out BK132.out (by decide)) (fun _ hk => hk.2) (.int .i64 ((rd_T95 l0_4 x17_1).f0))) (fun _ hk => hk.2) (.int .i64 ((rd_T95 l0_4 x17_1).f1))) (fun _ h_ => h_.1))) (Kd.R_typed (by (with_reducible repeat (first|apply Kd.R_alloc|apply Kd.R_drewN|apply Kd.R_drew));exact (Kd.R_mono (Kd.R_far (p := ⟨gb132, 1, none⟩) (Kd.R_far (p := ⟨gb132, 0, none⟩) (Kd.R_mono HO_131004.out (fun k_ hk => (⟨hk, hk.2⟩ : _ ∧ k_ ≠ gb132))) (fun _ hk => hk.2) (.int .i64 ((rd_T95 l0_4 x17_1).f0))) (fun _ hk => hk.2) (.int .i64 ((rd_T95 l0_4 x17_1).f1))) (fun _ h_ => h_.1)))) (by decide) hg);have n1_ := Aside0.mk (Kd.R_over' (by (with_reducible repeat (first|apply Kd.R_alloc|apply Kd.R_drewN|apply Kd.R_drew));exact (Kd.R_mono (Kd.R_far (p := ⟨gb132, 1, none⟩) (Kd.R_far (p := ⟨gb132, 0, none⟩) (Kd.R_types HO_131005.out BK132.out (by decide)) (fun _ hk => hk.2) (.int .i64 ((rd_T95 l0_4 x17_1).f0))) (fun _ hk => hk.2) (.int .i64 ((rd_T95 l0_4 x17_1).f1))) (fun _ h_ => h_.1))) (Kd.R_typed (by (with_reducible repeat (first|apply Kd.R_alloc|apply Kd.R_drewN|apply Kd.R_drew));exact (Kd.R_mono (Kd.R_far (p := ⟨gb132, 1, none⟩) (Kd.R_far (p := ⟨gb132, 0, none⟩) (Kd.R_mono HO_131004.out (fun k_ hk => (⟨hk, hk.2⟩ : _ ∧ k_ ≠ gb132))) (fun _ hk => hk.2) (.int .i64 ((rd_T95 l0_4 x17_1).f0))) (fun _ hk => hk.2) (.int .i64 ((rd_T95 l0_4 x17_1).f1))) (fun _ h_ => h_.1)))) (by decide) hg);have n2_ := Aside0.mk (blk_grown (g := gb128) (o := .cells #[.bool a0_0, .int .i64 a0_1, .int .i64 a0_2, .int .i64 a0_3, .slice (some ad131) l0_4.length c0_4, .slice Ao3 l0_5.length co3] 156 (0, 0)) (by (with_reducible repeat (first|apply blk_drewN|apply blk_drew|apply blk_alloc));refine blk_far ?_ NB128_132.out _;(with_reducible repeat (first|apply blk_drewN|apply blk_drew|apply blk_alloc));refine blk_far ?_ NB128_132.out _;(with_reducible repeat (first|apply blk_drewN|apply blk_drew|apply blk_alloc));exact BK128.out) hg (Kd.R_ne HO_131004.out BK128.out (by decide)));have n3_ := Aside0.mk (blk_grown (g := gb129) (o := .cells #[.bool false, .int .i64 0, .int .i64 0, .int .i64 0, .slice none 0 0, .slice none 0 0] 156 (0, 0)) (by (with_reducible repeat (first|apply blk_drewN|apply blk_drew|apply blk_alloc));refine blk_far ?_ NB129_132.out _;(with_reducible repeat (first|apply blk_drewN|apply blk_drew|apply blk_alloc));refine blk_far ?_ NB129_132.out _;(with_reducible repeat (first|apply blk_drewN|apply blk_drew|apply blk_alloc));exact BK129.out) hg (Kd.R_ne HO_131004.out BK129.out (by decide)));have n4_ := Aside0.mk (blk_grown (g := gb130) (o := .cells #[.bool a0_0, .int .i64 x131001_1, .int .i64 a0_2, .int .i64 a0_3, u131004, .slice Ao3 l0_5.length co3] 156 (0, 0)) (by (with_reducible repeat (first|apply blk_drewN|apply blk_drew|apply blk_alloc));refine blk_far ?_ NB130_132.out _;(with_reducible repeat (first|apply blk_drewN|apply blk_drew|apply blk_alloc));refine blk_far ?_ NB130_132.out _;(with_reducible repeat (first|apply blk_drewN|apply blk_drew|apply blk_alloc));exact BK130.out) hg (Kd.R_ne HO_131004.out BK130.out (by decide)));have n5_ := Aside0.mk (blk_grown (g := gb132) (o := .cells #[.int .i64 ((rd_T95 l0_4 x17_1).f0), .int .i64 ((rd_T95 l0_4 x17_1).f1)] 95 (0, 0)) (by (with_reducible repeat (first|apply blk_drewN|apply blk_drew|apply blk_alloc));refine blk_put (cs := #[.int .i64 ((rd_T95 l0_4 x17_1).f0), .int .i64 0]) ?_ 1 _ rfl;(with_reducible repeat (first|apply blk_drewN|apply blk_drew|apply blk_alloc));refine blk_put (cs := #[.int .i64 0, .int .i64 0]) ?_ 0 _ rfl;(with_reducible repeat (first|apply blk_drewN|apply blk_drew|apply blk_alloc));exact BK132.out) hg (Kd.R_away HO_131004.out (fun _ hk => hk.2)));have n6_ := Aside0.mk (hb);have n7_ := Aside0.mk (Kept.of_grown (S := (fun k_ => P0_5_ k_)) hg (by repeat (first|(with_reducible first|exact HK.out|apply Kept.alloc|apply Kept.drewN|apply Kept.drew|refine Kept.setCell ?_ (.inr GW128.out) _|refine Kept.setCell ?_ (.inr GW129.out) _|refine Kept.setCell ?_ (.inr GW130.out) _|refine Kept.setCell ?_ (.inr GW132.out) _)|exact HK.out)) (fun k_ e_ => (HO_131004.out.1 k_ e_).1));have n8_ := Aside0.mk (ho);clear HO_129005;clear HO_131005;clear BK128;clear BK129;clear BK130;clear BK132;clear HB;clear HK;clear HO_131004;have HO_129005 := n0_;have HO_131005 := n1_;have BK128 := n2_;have BK129 := n3_;have BK130 := n4_;have BK132 := n5_;have HB := n6_;have HK := n7_;have HO141 := n8_;clear n0_ n1_ n2_ n3_ n4_ n5_ n6_ n7_ n8_;clear ho hb hg hat;obtain ⟨Ao62, co62, eo62⟩ := Kd.R_slice HO141.out;subst eo62;have hcz63_0 : w61.cell? ⟨gb130, 0, none⟩ = some (.bool a0_0) := (blk_cell BK130.out 0).trans rfl;have hcz63_1 : w61.cell? ⟨gb130, 1, none⟩ = some (.int .i64 x131001_1) := (blk_cell BK130.out 1).trans rfl;have hcz63_2 : w61.cell? ⟨gb130, 2, none⟩ = some (.int .i64 a0_2) := (blk_cell BK130.out 2).trans rfl;have hcz63_3 : w61.cell? ⟨gb130, 3, none⟩ = some (.int .i64 a0_3) := (blk_cell BK130.out 3).trans rfl;have hcz63_4 : w61.cell? ⟨gb130, 4, none⟩ = some (u131004) := (blk_cell BK130.out 4).trans rfl;have hcz63_5 : w61.cell? ⟨gb130, 5, none⟩ = some (.slice Ao3 l0_5.length co3) := (blk_cell BK130.out 5).trans rfl;have hfz63_0 := blk_frozen BK130.out 0;have hfz63_1 := blk_frozen BK130.out 1;have hfz63_2 := blk_frozen BK130.out 2;have hfz63_3 := blk_frozen BK130.out 3;have hfz63_4 := blk_frozen BK130.out 4;have hfz63_5 := blk_frozen BK130.out 5))
         (try simp only [px_add0] at *)
         go_roundg k1
         case measure => have := HK1.out;omega
         case rel => exact ⟨(x6_1), (true), (wrap64 (x17_1 + 1)), (x131001_1), (y139), (.slice Ao62 y139.length co62), (by first|rfl|(simp;done)|(simp [*];done)), (by first|rfl|(simp;done)|(simp [*];done)), (by first|rfl|(simp;done)|(simp [*];done)), H', ⟨by have := HK1.out;omega⟩, ⟨by (with_reducible repeat (first|apply Kd.R_alloc|apply Kd.R_drewN|apply Kd.R_drew));exact Kd.R_mono (Kd.R_far (p := ⟨gb130, 4, none⟩) (Kd.R_types HO_129005.out BK130.out (by decide)) (fun _ hk => hk.2) (.slice Ao62 y139.length co62)) (fun _ hk => hk.1)⟩, ⟨by (with_reducible repeat (first|apply Kd.R_alloc|apply Kd.R_drewN|apply Kd.R_drew));exact Kd.R_mono (Kd.R_far (p := ⟨gb130, 4, none⟩) (Kd.R_types HO141.out BK130.out (by decide)) (fun _ hk => hk.2) (.slice Ao62 y139.length co62)) (fun _ hk => hk.1.1)⟩, ⟨by (with_reducible repeat (first|apply Kd.R_alloc|apply Kd.R_drewN|apply Kd.R_drew));exact Kd.R_mono (Kd.R_far (p := ⟨gb130, 4, none⟩) (Kd.R_types HO_131005.out BK130.out (by decide)) (fun _ hk => hk.2) (.slice Ao62 y139.length co62)) (fun _ hk => hk.1)⟩, ⟨by (with_reducible repeat (first|apply blk_drewN|apply blk_drew|apply blk_alloc));refine blk_far ?_ NB128_130.out _;(with_reducible repeat (first|apply blk_drewN|apply blk_drew|apply blk_alloc));exact BK128.out⟩, ⟨by (with_reducible repeat (first|apply blk_drewN|apply blk_drew|apply blk_alloc));refine blk_far ?_ NB129_130.out _;(with_reducible repeat (first|apply blk_drewN|apply blk_drew|apply blk_alloc));exact BK129.out⟩, ⟨by (with_reducible repeat (first|apply blk_drewN|apply blk_drew|apply blk_alloc));refine blk_put (cs := #[.bool a0_0, .int .i64 x131001_1, .int .i64 a0_2, .int .i64 a0_3, u131004, .slice Ao3 l0_5.length co3]) ?_ 4 _ rfl;(with_reducible repeat (first|apply blk_drewN|apply blk_drew|apply blk_alloc));exact BK130.out⟩, ⟨by repeat (first|(with_reducible first|exact HK.out|apply Kept.alloc|apply Kept.drewN|apply Kept.drew|refine Kept.setCell ?_ (.inr GW128.out) _|refine Kept.setCell ?_ (.inr GW129.out) _|refine Kept.setCell ?_ (.inr GW130.out) _|refine Kept.setCell ?_ (.inr GW132.out) _)|exact HK.out)⟩, ⟨by repeat (first|(with_reducible first|exact HB.out|apply xa|apply xb|apply xc|refine below_set ?_ GE128.out|refine below_set ?_ GE129.out|refine below_set ?_ GE130.out|refine below_set ?_ GE132.out)|exact HB.out)⟩⟩
        ·rw [if_neg c52] at H
         exact absurd H (by simp)
       ·replace c51 := Bool.eq_false_iff.mpr c51
        subst c51
        have H1 : (if x131004_1.length < 8796093022208 then (pinfoldref14_told.l0 k1 a1 x6_1 (((rd_T95 l0_4 x17_1).f1) == a1) l0_4 (l0_4.length : Int) (wrap64 (x17_1 + 1)) a0_0 a0_1 a0_2 a0_3 l0_4 l0_5 a0_0 x131001_1 a0_2 a0_3 (x131004_1 ++ [(⟨(rd_T95 l0_4 x17_1).f0, (rd_T95 l0_4 x17_1).f1⟩ : S95)]) l0_5) else (none)) = some (r1, r2, r3, r4, r5, r6) := by rw [if_neg (show ¬ (false = true) by decide)] at H;exact H
        clear H
        have H := H1
        clear H1
        by_cases c64 : x131004_1.length < 8796093022208
        ·rw [if_pos c64] at H
         have LMc64 := Aside0.mk c64
         clear c64
         obtain ⟨y142, hy142⟩ : ∃ y_ : List (S95), y_ = (x131004_1 ++ [(⟨(rd_T95 l0_4 x17_1).f0, (rd_T95 l0_4 x17_1).f1⟩ : S95)]) := ⟨_, rfl⟩
         replace H : (pinfoldref14_told.l0 k1 a1 x6_1 (((rd_T95 l0_4 x17_1).f1) == a1) l0_4 (l0_4.length : Int) (wrap64 (x17_1 + 1)) a0_0 a0_1 a0_2 a0_3 l0_4 l0_5 a0_0 x131001_1 a0_2 a0_3 y142 l0_5) = some (r1, r2, r3, r4, r5, r6) := by first|(rw [hy142];with_reducible exact H)|(have H2_ := (Option.bind_some _ _).symm.trans H;rw [hy142];with_reducible exact H2_)|(have H2_ := (Option.bind_some _ _).symm.trans H;with_reducible exact H2_)|with_reducible exact H|(rw [hy142];exact H)|exact H
         have Ny142 := Aside0.mk hy142
         clear hy142
         have H' := Aside0.mk H
         clear H
         have p131 : 0 ≤ (x17_1 : Int) := of_decide_eq_true (by assumption)
         have q131 : x17_1 < (l0_4.length : Int) := of_decide_eq_true (by assumption)
         obtain ⟨ad131, e131, hx131_0, hx131_1⟩ := at_T95 (Kd.C_kept_now HR0_4.out HK.out) x17_1 p131 q131
         cases e131
         replace p131 := eq_true p131
         replace q131 := eq_true q131
         go_wp2_with (first|((with_reducible refine gate_dst (N := 9) rfl ?_);refine box_event ?hg (N := 9) ?hd (cs := #[.int .i64 0, .int .i64 0]) (t := 95) ?hr ?_;(case hd => rfl);(case hg => rfl);(case hr => first|(go_simp;done)|(go_simp;rfl));intro gb132 hg w65 hbox hb;have n0_ := Aside0.mk (Kd.R_below (by (with_reducible repeat (first|apply Kd.R_alloc|apply Kd.R_drewN|apply Kd.R_drew));exact HO_129005.out) hb);have n1_ := Aside0.mk (Kd.R_below (Kd.R_elderB (by (with_reducible repeat (first|apply Kd.R_alloc|apply Kd.R_drewN|apply Kd.R_drew));exact HO_131004.out) gb132 (Nat.le_of_eq hg.symm)) hb);have n2_ := Aside0.mk (Kd.R_below (by (with_reducible repeat (first|apply Kd.R_alloc|apply Kd.R_drewN|apply Kd.R_drew));exact HO_131005.out) hb);have n3_ := Aside0.mk (blk_below (g := gb128) (o := .cells #[.bool a0_0, .int .i64 a0_1, .int .i64 a0_2, .int .i64 a0_3, .slice (some ad131) l0_4.length c0_4, .slice Ao3 l0_5.length co3] 156 (0, 0)) (by (with_reducible repeat (first|apply blk_drewN|apply blk_drew|apply blk_alloc));exact BK128.out) hb);have n4_ := Aside0.mk (blk_below (g := gb129) (o := .cells #[.bool false, .int .i64 0, .int .i64 0, .int .i64 0, .slice none 0 0, .slice none 0 0] 156 (0, 0)) (by (with_reducible repeat (first|apply blk_drewN|apply blk_drew|apply blk_alloc));exact BK129.out) hb);have n5_ := Aside0.mk (blk_below (g := gb130) (o := .cells #[.bool a0_0, .int .i64 x131001_1, .int .i64 a0_2, .int .i64 a0_3, u131004, .slice Ao3 l0_5.length co3] 156 (0, 0)) (by (with_reducible repeat (first|apply blk_drewN|apply blk_drew|apply blk_alloc));exact BK130.out) hb);have n6_ := Aside0.mk (Kept.below (S := (fun k_ => P0_5_ k_)) (by repeat (first|(with_reducible first|exact HK.out|apply Kept.alloc|apply Kept.drewN|apply Kept.drew|refine Kept.setCell ?_ (.inr GW128.out) _|refine Kept.setCell ?_ (.inr GW129.out) _|refine Kept.setCell ?_ (.inr GW130.out) _)|exact HK.out)) hb);have n7_ := Aside0.mk (below_step (by repeat (first|(with_reducible first|exact HB.out|apply xa|apply xb|apply xc|refine below_set ?_ GE128.out|refine below_set ?_ GE129.out|refine below_set ?_ GE130.out)|exact HB.out)) hb);have n8_ := Aside0.mk (hbox);have n9_ := Aside0.mk ((by rw [hg];exact (by first|exact HK.out.1|exact (show Kept w _ (fun k_ => P0_5_ k_) from by repeat (first|(with_reducible first|exact HK.out|apply Kept.alloc|apply Kept.drewN|apply Kept.drew|refine Kept.setCell ?_ (.inr GW128.out) _|refine Kept.setCell ?_ (.inr GW129.out) _|refine Kept.setCell ?_ (.inr GW130.out) _)|exact HK.out)).1) : w.heap.size ≤ gb132));have n10_ := Aside0.mk ((by rw [hg];exact (below_size (by repeat (first|(with_reducible first|exact HB.out|apply xa|apply xb|apply xc|refine below_set ?_ GE128.out|refine below_set ?_ GE129.out|refine below_set ?_ GE130.out)|exact HB.out))) : w0.heap.size ≤ gb132));have n11_ := Aside0.mk ((by rw [hg];exact Nat.ne_of_lt (blk_lt (g := gb128) (o := .cells #[.bool a0_0, .int .i64 a0_1, .int .i64 a0_2, .int .i64 a0_3, .slice (some ad131) l0_4.length c0_4, .slice Ao3 l0_5.length co3] 156 (0, 0)) (by (with_reducible repeat (first|apply blk_drewN|apply blk_drew|apply blk_alloc));exact BK128.out)) : gb128 ≠ gb132));have n12_ := Aside0.mk ((by rw [hg];exact Nat.ne_of_gt (blk_lt (g := gb128) (o := .cells #[.bool a0_0, .int .i64 a0_1, .int .i64 a0_2, .int .i64 a0_3, .slice (some ad131) l0_4.length c0_4, .slice Ao3 l0_5.length co3] 156 (0, 0)) (by (with_reducible repeat (first|apply blk_drewN|apply blk_drew|apply blk_alloc));exact BK128.out)) : gb132 ≠ gb128));have n13_ := Aside0.mk ((by rw [hg];exact Nat.ne_of_lt (blk_lt (g := gb129) (o := .cells #[.bool false, .int .i64 0, .int .i64 0, .int .i64 0, .slice none 0 0, .slice none 0 0] 156 (0, 0)) (by (with_reducible repeat (first|apply blk_drewN|apply blk_drew|apply blk_alloc));exact BK129.out)) : gb129 ≠ gb132));have n14_ := Aside0.mk ((by rw [hg];exact Nat.ne_of_gt (blk_lt (g := gb129) (o := .cells #[.bool false, .int .i64 0, .int .i64 0, .int .i64 0, .slice none 0 0, .slice none 0 0] 156 (0, 0)) (by (with_reducible repeat (first|apply blk_drewN|apply blk_drew|apply blk_alloc));exact BK129.out)) : gb132 ≠ gb129));have n15_ := Aside0.mk ((by rw [hg];exact Nat.ne_of_lt (blk_lt (g := gb130) (o := .cells #[.bool a0_0, .int .i64 x131001_1, .int .i64 a0_2, .int .i64 a0_3, u131004, .slice Ao3 l0_5.length co3] 156 (0, 0)) (by (with_reducible repeat (first|apply blk_drewN|apply blk_drew|apply blk_alloc));exact BK130.out)) : gb130 ≠ gb132));have n16_ := Aside0.mk ((by rw [hg];exact Nat.ne_of_gt (blk_lt (g := gb130) (o := .cells #[.bool a0_0, .int .i64 x131001_1, .int .i64 a0_2, .int .i64 a0_3, u131004, .slice Ao3 l0_5.length co3] 156 (0, 0)) (by (with_reducible repeat (first|apply blk_drewN|apply blk_drew|apply blk_alloc));exact BK130.out)) : gb132 ≠ gb130));clear HO_129005;clear HO_131004;clear HO_131005;clear BK128;clear BK129;clear BK130;clear HK;clear HB;have HO_129005 := n0_;have HO_131004 := n1_;have HO_131005 := n2_;have BK128 := n3_;have BK129 := n4_;have BK130 := n5_;have HK := n6_;have HB := n7_;have BK132 := n8_;have GW132 := n9_;have GE132 := n10_;have NB128_132 := n11_;have NB132_128 := n12_;have NB129_132 := n13_;have NB132_129 := n14_;have NB130_132 := n15_;have NB132_130 := n16_;clear n0_ n1_ n2_ n3_ n4_ n5_ n6_ n7_ n8_ n9_ n10_ n11_ n12_ n13_ n14_ n15_ n16_;clear hb hbox hg;have hnb66 := NB132_128.out;have hnc66 := NB128_132.out;have hnb67 := NB132_129.out;have hnc67 := NB129_132.out;have hnb68 := NB132_130.out;have hnc68 := NB130_132.out;have hcz69_0 : w65.cell? ⟨gb132, 0, none⟩ = some (.int .i64 0) := (blk_cell BK132.out 0).trans rfl;have hcz69_1 : w65.cell? ⟨gb132, 1, none⟩ = some (.int .i64 0) := (blk_cell BK132.out 1).trans rfl;have hfz69_0 := blk_frozen BK132.out 0;have hfz69_1 := blk_frozen BK132.out 1;have hnb70 := NB130_128.out;have hnc70 := NB128_130.out;have hnb71 := NB130_129.out;have hnc71 := NB129_130.out;have hcz72_0 : w65.cell? ⟨gb130, 0, none⟩ = some (.bool a0_0) := (blk_cell BK130.out 0).trans rfl;have hcz72_1 : w65.cell? ⟨gb130, 1, none⟩ = some (.int .i64 x131001_1) := (blk_cell BK130.out 1).trans rfl;have hcz72_2 : w65.cell? ⟨gb130, 2, none⟩ = some (.int .i64 a0_2) := (blk_cell BK130.out 2).trans rfl;have hcz72_3 : w65.cell? ⟨gb130, 3, none⟩ = some (.int .i64 a0_3) := (blk_cell BK130.out 3).trans rfl;have hcz72_4 : w65.cell? ⟨gb130, 4, none⟩ = some (u131004) := (blk_cell BK130.out 4).trans rfl;have hcz72_5 : w65.cell? ⟨gb130, 5, none⟩ = some (.slice Ao3 l0_5.length co3) := (blk_cell BK130.out 5).trans rfl;have hfz72_0 := blk_frozen BK130.out 0;have hfz72_1 := blk_frozen BK130.out 1;have hfz72_2 := blk_frozen BK130.out 2;have hfz72_3 := blk_frozen BK130.out 3;have hfz72_4 := blk_frozen BK130.out 4;have hfz72_5 := blk_frozen BK130.out 5)|((with_reducible refine gate_builtin (b := .append) (xs := #[.tmp 40, .tmp 42]) rfl ?_);at_builtin;refine Kd.R_append k95 (w0 := w0) w0.heap.size rfl (.tmp 40) (.tmp 42) 88 95 (.agg #[(.int .i64 0), (.int .i64 0)]) 16 rfl Try.underlying88 info95 rfl (by decide) (by omega) u131004 x131004_1 (⟨(rd_T95 l0_4 x17_1).f0, (rd_T95 l0_4 x17_1).f1⟩ : S95) [.int .i64 ((rd_T95 l0_4 x17_1).f0), .int .i64 ((rd_T95 l0_4 x17_1).f1)] (fun k_ => (P0_5_ k_ ∨ w.heap.size ≤ k_) ∧ k_ ≠ gb132) (fun _ => False) rfl (by first|(go_simp;done)|(go_simp;rfl)) ?aP (fun _ hk => hk.elim) ?aF ?aO ?aB ?aS ?aL ?_;(case aP => exact k95_mkM _ _ _ (⟨(rd_T95 l0_4 x17_1).f0, (rd_T95 l0_4 x17_1).f1⟩ : S95));(case aB => exact (by repeat (first|(with_reducible first|exact HB.out|apply xa|apply xb|apply xc|refine below_set ?_ GE128.out|refine below_set ?_ GE129.out|refine below_set ?_ GE130.out|refine below_set ?_ GE132.out)|exact HB.out)));(case aF => exact (fun k_ hk => ⟨(.inr (Nat.le_trans (show Kept w _ (fun k_ => P0_5_ k_) from by repeat (first|(with_reducible first|exact HK.out|apply Kept.alloc|apply Kept.drewN|apply Kept.drew|refine Kept.setCell ?_ (.inr GW128.out) _|refine Kept.setCell ?_ (.inr GW129.out) _|refine Kept.setCell ?_ (.inr GW130.out) _|refine Kept.setCell ?_ (.inr GW132.out) _)|exact HK.out)).1 hk)), Kd.freshB (g := gb132) (o := .cells #[.int .i64 ((rd_T95 l0_4 x17_1).f0), .int .i64 ((rd_T95 l0_4 x17_1).f1)] 95 (0, 0)) (by (with_reducible repeat (first|apply blk_drewN|apply blk_drew|apply blk_alloc));refine blk_put (cs := #[.int .i64 ((rd_T95 l0_4 x17_1).f0), .int .i64 0]) ?_ 1 _ rfl;(with_reducible repeat (first|apply blk_drewN|apply blk_drew|apply blk_alloc));refine blk_put (cs := #[.int .i64 0, .int .i64 0]) ?_ 0 _ rfl;(with_reducible repeat (first|apply blk_drewN|apply blk_drew|apply blk_alloc));exact BK132.out) k_ hk⟩));(case aO => exact (by (with_reducible repeat (first|apply Kd.R_alloc|apply Kd.R_drewN|apply Kd.R_drew));exact Kd.R_mono (Kd.R_far (p := ⟨gb132, 1, none⟩) (Kd.R_far (p := ⟨gb132, 0, none⟩) (Kd.R_mono HO_131004.out (fun k_ hk => (⟨hk, hk.2⟩ : _ ∧ k_ ≠ gb132))) (fun _ hk => hk.2) (.int .i64 ((rd_T95 l0_4 x17_1).f0))) (fun _ hk => hk.2) (.int .i64 ((rd_T95 l0_4 x17_1).f1))) (fun _ hk => ⟨hk.1.1, hk.1.2⟩)));(case aS => exact (below_size (by repeat (first|(with_reducible first|exact HB.out|apply xa|apply xb|apply xc|refine below_set ?_ GE128.out|refine below_set ?_ GE129.out|refine below_set ?_ GE130.out|refine below_set ?_ GE132.out)|exact HB.out))));(case aL => have := LMc64.out;omega);intro v143 w73 ho hb hg hat;rw [← Ny142.out] at ho;have n0_ := Aside0.mk (Kd.R_over' (by (with_reducible repeat (first|apply Kd.R_alloc|apply Kd.R_drewN|apply Kd.R_drew));exact (Kd.R_mono (Kd.R_far (p := ⟨gb132, 1, none⟩) (Kd.R_far (p := ⟨gb132, 0, none⟩) (Kd.R_types HO_129005.out BK132.out (by decide)) (fun _ hk => hk.2) (.int .i64 ((rd_T95 l0_4 x17_1).f0))) (fun _ hk => hk.2) (.int .i64 ((rd_T95 l0_4 x17_1).f1))) (fun _ h_ => h_.1))) (Kd.R_typed (by (with_reducible repeat (first|apply Kd.R_alloc|apply Kd.R_drewN|apply Kd.R_drew));exact (Kd.R_mono (Kd.R_far (p := ⟨gb132, 1, none⟩) (Kd.R_far (p := ⟨gb132, 0, none⟩) (Kd.R_mono HO_131004.out (fun k_ hk => (⟨hk, hk.2⟩ : _ ∧ k_ ≠ gb132))) (fun _ hk => hk.2) (.int .i64 ((rd_T95 l0_4 x17_1).f0))) (fun _ hk => hk.2) (.int .i64 ((rd_T95 l0_4 x17_1).f1))) (fun _ h_ => h_.1)))) (by decide) hg);have n1_ := Aside0.mk (Kd.R_over' (by (with_reducible repeat (first|apply Kd.R_alloc|apply Kd.R_drewN|apply Kd.R_drew));exact (Kd.R_mono (Kd.R_far (p := ⟨gb132, 1, none⟩) (Kd.R_far (p := ⟨gb132, 0, none⟩) (Kd.R_types HO_131005.out BK132.out (by decide)) (fun _ hk => hk.2) (.int .i64 ((rd_T95 l0_4 x17_1).f0))) (fun _ hk => hk.2) (.int .i64 ((rd_T95 l0_4 x17_1).f1))) (fun _ h_ => h_.1))) (Kd.R_typed (by (with_reducible repeat (first|apply Kd.R_alloc|apply Kd.R_drewN|apply Kd.R_drew));exact (Kd.R_mono (Kd.R_far (p := ⟨gb132, 1, none⟩) (Kd.R_far (p := ⟨gb132, 0, none⟩) (Kd.R_mono HO_131004.out (fun k_ hk => (⟨hk, hk.2⟩ : _ ∧ k_ ≠ gb132))) (fun _ hk => hk.2) (.int .i64 ((rd_T95 l0_4 x17_1).f0))) (fun _ hk => hk.2) (.int .i64 ((rd_T95 l0_4 x17_1).f1))) (fun _ h_ => h_.1)))) (by decide) hg);have n2_ := Aside0.mk (blk_grown (g := gb128) (o := .cells #[.bool a0_0, .int .i64 a0_1, .int .i64 a0_2, .int .i64 a0_3, .slice (some ad131) l0_4.length c0_4, .slice Ao3 l0_5.length co3] 156 (0, 0)) (by (with_reducible repeat (first|apply blk_drewN|apply blk_drew|apply blk_alloc));refine blk_far ?_ NB128_132.out _;(with_reducible repeat (first|apply blk_drewN|apply blk_drew|apply blk_alloc));refine blk_far ?_ NB128_132.out _;(with_reducible repeat (first|apply blk_drewN|apply blk_drew|apply blk_alloc));exact BK128.out) hg (Kd.R_ne HO_131004.out BK128.out (by decide)));have n3_ := Aside0.mk (blk_grown (g := gb129) (o := .cells #[.bool false, .int .i64 0, .int .i64 0, .int .i64 0, .slice none 0 0, .slice none 0 0] 156 (0, 0)) (by (with_reducible repeat (first|apply blk_drewN|apply blk_drew|apply blk_alloc));refine blk_far ?_ NB129_132.out _;(with_reducible repeat (first|apply blk_drewN|apply blk_drew|apply blk_alloc));refine blk_far ?_ NB129_132.out _;(with_reducible repeat (first|apply blk_drewN|apply blk_drew|apply blk_alloc));exact BK129.out) hg (Kd.R_ne HO_131004.out BK129.out (by decide)));have n4_ := Aside0.mk (blk_grown (g := gb130) (o := .cells #[.bool a0_0, .int .i64 x131001_1, .int .i64 a0_2, .int .i64 a0_3, u131004, .slice Ao3 l0_5.length co3] 156 (0, 0)) (by (with_reducible repeat (first|apply blk_drewN|apply blk_drew|apply blk_alloc));refine blk_far ?_ NB130_132.out _;(with_reducible repeat (first|apply blk_drewN|apply blk_drew|apply blk_alloc));refine blk_far ?_ NB130_132.out _;(with_reducible repeat (first|apply blk_drewN|apply blk_drew|apply blk_alloc));exact BK130.out) hg (Kd.R_ne HO_131004.out BK130.out (by decide)));have n5_ := Aside0.mk (blk_grown (g := gb132) (o := .cells #[.int .i64 ((rd_T95 l0_4 x17_1).f0), .int .i64 ((rd_T95 l0_4 x17_1).f1)] 95 (0, 0)) (by (with_reducible repeat (first|apply blk_drewN|apply blk_drew|apply blk_alloc));refine blk_put (cs := #[.int .i64 ((rd_T95 l0_4 x17_1).f0), .int .i64 0]) ?_ 1 _ rfl;(with_reducible repeat (first|apply blk_drewN|apply blk_drew|apply blk_alloc));refine blk_put (cs := #[.int .i64 0, .int .i64 0]) ?_ 0 _ rfl;(with_reducible repeat (first|apply blk_drewN|apply blk_drew|apply blk_alloc));exact BK132.out) hg (Kd.R_away HO_131004.out (fun _ hk => hk.2)));have n6_ := Aside0.mk (hb);have n7_ := Aside0.mk (Kept.of_grown (S := (fun k_ => P0_5_ k_)) hg (by repeat (first|(with_reducible first|exact HK.out|apply Kept.alloc|apply Kept.drewN|apply Kept.drew|refine Kept.setCell ?_ (.inr GW128.out) _|refine Kept.setCell ?_ (.inr GW129.out) _|refine Kept.setCell ?_ (.inr GW130.out) _|refine Kept.setCell ?_ (.inr GW132.out) _)|exact HK.out)) (fun k_ e_ => (HO_131004.out.1 k_ e_).1));have n8_ := Aside0.mk (ho);clear HO_129005;clear HO_131005;clear BK128;clear BK129;clear BK130;clear BK132;clear HB;clear HK;clear HO_131004;have HO_129005 := n0_;have HO_131005 := n1_;have BK128 := n2_;have BK129 := n3_;have BK130 := n4_;have BK132 := n5_;have HB := n6_;have HK := n7_;have HO144 := n8_;clear n0_ n1_ n2_ n3_ n4_ n5_ n6_ n7_ n8_;clear ho hb hg hat;obtain ⟨Ao74, co74, eo74⟩ := Kd.R_slice HO144.out;subst eo74;have hcz75_0 : w73.cell? ⟨gb130, 0, none⟩ = some (.bool a0_0) := (blk_cell BK130.out 0).trans rfl;have hcz75_1 : w73.cell? ⟨gb130, 1, none⟩ = some (.int .i64 x131001_1) := (blk_cell BK130.out 1).trans rfl;have hcz75_2 : w73.cell? ⟨gb130, 2, none⟩ = some (.int .i64 a0_2) := (blk_cell BK130.out 2).trans rfl;have hcz75_3 : w73.cell? ⟨gb130, 3, none⟩ = some (.int .i64 a0_3) := (blk_cell BK130.out 3).trans rfl;have hcz75_4 : w73.cell? ⟨gb130, 4, none⟩ = some (u131004) := (blk_cell BK130.out 4).trans rfl;have hcz75_5 : w73.cell? ⟨gb130, 5, none⟩ = some (.slice Ao3 l0_5.length co3) := (blk_cell BK130.out 5).trans rfl;have hfz75_0 := blk_frozen BK130.out 0;have hfz75_1 := blk_frozen BK130.out 1;have hfz75_2 := blk_frozen BK130.out 2;have hfz75_3 := blk_frozen BK130.out 3;have hfz75_4 := blk_frozen BK130.out 4;have hfz75_5 := blk_frozen BK130.out 5))
         (try simp only [px_add0] at *)
         go_roundg k1
         case measure => have := HK1.out;omega
         case rel => exact ⟨(x6_1), ((((rd_T95 l0_4 x17_1).f1) == a1)), (wrap64 (x17_1 + 1)), (x131001_1), (y142), (.slice Ao74 y142.length co74), (by first|rfl|(simp;done)|(simp [*];done)), (by first|rfl|(simp;done)|(simp [*];done)), (by first|rfl|(simp;done)|(simp [*];done)), H', ⟨by have := HK1.out;omega⟩, ⟨by (with_reducible repeat (first|apply Kd.R_alloc|apply Kd.R_drewN|apply Kd.R_drew));exact Kd.R_mono (Kd.R_far (p := ⟨gb130, 4, none⟩) (Kd.R_types HO_129005.out BK130.out (by decide)) (fun _ hk => hk.2) (.slice Ao74 y142.length co74)) (fun _ hk => hk.1)⟩, ⟨by (with_reducible repeat (first|apply Kd.R_alloc|apply Kd.R_drewN|apply Kd.R_drew));exact Kd.R_mono (Kd.R_far (p := ⟨gb130, 4, none⟩) (Kd.R_types HO144.out BK130.out (by decide)) (fun _ hk => hk.2) (.slice Ao74 y142.length co74)) (fun _ hk => hk.1.1)⟩, ⟨by (with_reducible repeat (first|apply Kd.R_alloc|apply Kd.R_drewN|apply Kd.R_drew));exact Kd.R_mono (Kd.R_far (p := ⟨gb130, 4, none⟩) (Kd.R_types HO_131005.out BK130.out (by decide)) (fun _ hk => hk.2) (.slice Ao74 y142.length co74)) (fun _ hk => hk.1)⟩, ⟨by (with_reducible repeat (first|apply blk_drewN|apply blk_drew|apply blk_alloc));refine blk_far ?_ NB128_130.out _;(with_reducible repeat (first|apply blk_drewN|apply blk_drew|apply blk_alloc));exact BK128.out⟩, ⟨by (with_reducible repeat (first|apply blk_drewN|apply blk_drew|apply blk_alloc));refine blk_far ?_ NB129_130.out _;(with_reducible repeat (first|apply blk_drewN|apply blk_drew|apply blk_alloc));exact BK129.out⟩, ⟨by (with_reducible repeat (first|apply blk_drewN|apply blk_drew|apply blk_alloc));refine blk_put (cs := #[.bool a0_0, .int .i64 x131001_1, .int .i64 a0_2, .int .i64 a0_3, u131004, .slice Ao3 l0_5.length co3]) ?_ 4 _ rfl;(with_reducible repeat (first|apply blk_drewN|apply blk_drew|apply blk_alloc));exact BK130.out⟩, ⟨by repeat (first|(with_reducible first|exact HK.out|apply Kept.alloc|apply Kept.drewN|apply Kept.drew|refine Kept.setCell ?_ (.inr GW128.out) _|refine Kept.setCell ?_ (.inr GW129.out) _|refine Kept.setCell ?_ (.inr GW130.out) _|refine Kept.setCell ?_ (.inr GW132.out) _)|exact HK.out)⟩, ⟨by repeat (first|(with_reducible first|exact HB.out|apply xa|apply xb|apply xc|refine below_set ?_ GE128.out|refine below_set ?_ GE129.out|refine below_set ?_ GE130.out|refine below_set ?_ GE132.out)|exact HB.out)⟩⟩
        ·rw [if_neg c64] at H
         exact absurd H (by simp)
     ·rw [if_neg c15] at H
      exact absurd H (by simp)
    ·rw [if_neg c14] at H
     exact absurd H (by simp)
   ·rw [if_neg c13] at H
    have c13b0 : decide (x17_1 < (l0_4.length : Int)) = false := decide_eq_false c13
    clear c13
    by_cases c76 : x7_1 = true
    ·subst c76
     have H1 : (some (a0_0, x131001_1, a0_2, a0_3, x131004_1, l0_5)) = some (r1, r2, r3, r4, r5, r6) := by rw [if_pos rfl] at H;exact H
     clear H
     have H := H1
     clear H1
     simp only [Option.some.injEq, Prod.mk.injEq] at H
     obtain ⟨rfl, rfl, rfl, rfl, rfl, rfl⟩ := H
     have hnb77 := NB130_128.out
     have hnc77 := NB128_130.out
     have hnb78 := NB130_129.out
     have hnc78 := NB129_130.out
     have hcz79_0 : wr.cell? ⟨gb130, 0, none⟩ = some (.bool a0_0) := (blk_cell BK130.out 0).trans rfl
     have hcz79_1 : wr.cell? ⟨gb130, 1, none⟩ = some (.int .i64 x131001_1) := (blk_cell BK130.out 1).trans rfl
     have hcz79_2 : wr.cell? ⟨gb130, 2, none⟩ = some (.int .i64 a0_2) := (blk_cell BK130.out 2).trans rfl
     have hcz79_3 : wr.cell? ⟨gb130, 3, none⟩ = some (.int .i64 a0_3) := (blk_cell BK130.out 3).trans rfl
     have hcz79_4 : wr.cell? ⟨gb130, 4, none⟩ = some (u131004) := (blk_cell BK130.out 4).trans rfl
     have hcz79_5 : wr.cell? ⟨gb130, 5, none⟩ = some (.slice Ao3 l0_5.length co3) := (blk_cell BK130.out 5).trans rfl
     have hfz79_0 := blk_frozen BK130.out 0
     have hfz79_1 := blk_frozen BK130.out 1
     have hfz79_2 := blk_frozen BK130.out 2
     have hfz79_3 := blk_frozen BK130.out 3
     have hfz79_4 := blk_frozen BK130.out 4
     have hfz79_5 := blk_frozen BK130.out 5
     have hnb80 := NB129_128.out
     have hnc80 := NB128_129.out
     have hcz81_0 : wr.cell? ⟨gb129, 0, none⟩ = some (.bool false) := (blk_cell BK129.out 0).trans rfl
     have hcz81_1 : wr.cell? ⟨gb129, 1, none⟩ = some (.int .i64 0) := (blk_cell BK129.out 1).trans rfl
     have hcz81_2 : wr.cell? ⟨gb129, 2, none⟩ = some (.int .i64 0) := (blk_cell BK129.out 2).trans rfl
     have hcz81_3 : wr.cell? ⟨gb129, 3, none⟩ = some (.int .i64 0) := (blk_cell BK129.out 3).trans rfl
     have hcz81_4 : wr.cell? ⟨gb129, 4, none⟩ = some (.slice none 0 0) := (blk_cell BK129.out 4).trans rfl
     have hcz81_5 : wr.cell? ⟨gb129, 5, none⟩ = some (.slice none 0 0) := (blk_cell BK129.out 5).trans rfl
     have hfz81_0 := blk_frozen BK129.out 0
     have hfz81_1 := blk_frozen BK129.out 1
     have hfz81_2 := blk_frozen BK129.out 2
     have hfz81_3 := blk_frozen BK129.out 3
     have hfz81_4 := blk_frozen BK129.out 4
     have hfz81_5 := blk_frozen BK129.out 5
     obtain ⟨Ao82, co82, eo82⟩ := Kd.R_slice HO_131004.out
     subst eo82
     go_wp2
     refine bodyPost_ret (results_cell_row rfl _ _ gb129 156 #[.bool a0_0, .int .i64 x131001_1, .int .i64 a0_2, .int .i64 a0_3, .slice Ao82 x131004_1.length co82, .slice Ao3 l0_5.length co3] (0, 0) _ rfl (by (with_reducible repeat (first|apply blk_drewN|apply blk_drew|apply blk_alloc));refine blk_put (cs := #[.bool a0_0, .int .i64 x131001_1, .int .i64 a0_2, .int .i64 a0_3, .slice Ao82 x131004_1.length co82, .slice none 0 0]) ?_ 5 _ rfl;(with_reducible repeat (first|apply blk_drewN|apply blk_drew|apply blk_alloc));refine blk_put (cs := #[.bool a0_0, .int .i64 x131001_1, .int .i64 a0_2, .int .i64 a0_3, .slice none 0 0, .slice none 0 0]) ?_ 4 _ rfl;(with_reducible repeat (first|apply blk_drewN|apply blk_drew|apply blk_alloc));refine blk_put (cs := #[.bool a0_0, .int .i64 x131001_1, .int .i64 a0_2, .int .i64 0, .slice none 0 0, .slice none 0 0]) ?_ 3 _ rfl;(with_reducible repeat (first|apply blk_drewN|apply blk_drew|apply blk_alloc));refine blk_put (cs := #[.bool a0_0, .int .i64 x131001_1, .int .i64 0, .int .i64 0, .slice none 0 0, .slice none 0 0]) ?_ 2 _ rfl;(with_reducible repeat (first|apply blk_drewN|apply blk_drew|apply blk_alloc));refine blk_put (cs := #[.bool a0_0, .int .i64 0, .int .i64 0, .int .i64 0, .slice none 0 0, .slice none 0 0]) ?_ 1 _ rfl;(with_reducible repeat (first|apply blk_drewN|apply blk_drew|apply blk_alloc));refine blk_put (cs := #[.bool false, .int .i64 0, .int .i64 0, .int .i64 0, .slice none 0 0, .slice none 0 0]) ?_ 0 _ rfl;(with_reducible repeat (first|apply blk_drewN|apply blk_drew|apply blk_alloc));exact BK129.out) Try.underlying156 rfl (by kernel_rfl)) rfl ?_
     exact ⟨_, _, by first|rfl|(simp [errW_none, errW_some] <;> rfl)|(simp [*, errW_none, errW_some] <;> rfl), by (with_reducible repeat (first|apply Kd.R_alloc|apply Kd.R_drewN|apply Kd.R_drew));exact Kd.R_mono (Kd.R_far (p := ⟨gb129, 5, none⟩) (Kd.R_far (p := ⟨gb129, 4, none⟩) (Kd.R_far (p := ⟨gb129, 3, none⟩) (Kd.R_far (p := ⟨gb129, 2, none⟩) (Kd.R_far (p := ⟨gb129, 1, none⟩) (Kd.R_far (p := ⟨gb129, 0, none⟩) (Kd.R_types HO_131004.out BK129.out (by decide)) (fun _ hk => hk.2) (.bool a0_0)) (fun _ hk => hk.2) (.int .i64 x131001_1)) (fun _ hk => hk.2) (.int .i64 a0_2)) (fun _ hk => hk.2) (.int .i64 a0_3)) (fun _ hk => hk.2) (.slice Ao82 x131004_1.length co82)) (fun _ hk => hk.2) (.slice Ao3 l0_5.length co3)) (fun _ hk => hk.1), by (with_reducible repeat (first|apply Kd.R_alloc|apply Kd.R_drewN|apply Kd.R_drew));exact Kd.R_mono (Kd.R_far (p := ⟨gb129, 5, none⟩) (Kd.R_far (p := ⟨gb129, 4, none⟩) (Kd.R_far (p := ⟨gb129, 3, none⟩) (Kd.R_far (p := ⟨gb129, 2, none⟩) (Kd.R_far (p := ⟨gb129, 1, none⟩) (Kd.R_far (p := ⟨gb129, 0, none⟩) (Kd.R_types HO_131005.out BK129.out (by decide)) (fun _ hk => hk.2) (.bool a0_0)) (fun _ hk => hk.2) (.int .i64 x131001_1)) (fun _ hk => hk.2) (.int .i64 a0_2)) (fun _ hk => hk.2) (.int .i64 a0_3)) (fun _ hk => hk.2) (.slice Ao82 x131004_1.length co82)) (fun _ hk => hk.2) (.slice Ao3 l0_5.length co3)) (fun _ hk => hk.1), by repeat (first|(with_reducible first|exact HB.out|apply xa|apply xb|apply xc|refine below_set ?_ GE128.out|refine below_set ?_ GE129.out|refine below_set ?_ GE130.out)|exact HB.out), by repeat (first|(with_reducible first|exact HK.out|apply Kept.alloc|apply Kept.drewN|apply Kept.drew|refine Kept.setCell ?_ (.inr GW128.out) _|refine Kept.setCell ?_ (.inr GW129.out) _|refine Kept.setCell ?_ (.inr GW130.out) _)|exact HK.out)⟩
    ·replace c76 := Bool.eq_false_iff.mpr c76
     subst c76
     have H1 : (pinfoldref14_told.l1 k1 a1 l0_5 (l0_5.length : Int) 0 a0_0 x131001_1 a0_2 a0_3 x131004_1 ([] : List Int)) = some (r1, r2, r3, r4, r5, r6) := by rw [if_neg (show ¬ (false = true) by decide)] at H;exact H
     clear H
     have H := H1
     clear H1
     have H' := Aside0.mk H
     clear H
     have hnb83 := NB130_128.out
     have hnc83 := NB128_130.out
     have hnb84 := NB130_129.out
     have hnc84 := NB129_130.out
     have hcz85_0 : wr.cell? ⟨gb130, 0, none⟩ = some (.bool a0_0) := (blk_cell BK130.out 0).trans rfl
     have hcz85_1 : wr.cell? ⟨gb130, 1, none⟩ = some (.int .i64 x131001_1) := (blk_cell BK130.out 1).trans rfl
     have hcz85_2 : wr.cell? ⟨gb130, 2, none⟩ = some (.int .i64 a0_2) := (blk_cell BK130.out 2).trans rfl
     have hcz85_3 : wr.cell? ⟨gb130, 3, none⟩ = some (.int .i64 a0_3) := (blk_cell BK130.out 3).trans rfl
     have hcz85_4 : wr.cell? ⟨gb130, 4, none⟩ = some (u131004) := (blk_cell BK130.out 4).trans rfl
     have hcz85_5 : wr.cell? ⟨gb130, 5, none⟩ = some (.slice Ao3 l0_5.length co3) := (blk_cell BK130.out 5).trans rfl
     have hfz85_0 := blk_frozen BK130.out 0
     have hfz85_1 := blk_frozen BK130.out 1
     have hfz85_2 := blk_frozen BK130.out 2
     have hfz85_3 := blk_frozen BK130.out 3
     have hfz85_4 := blk_frozen BK130.out 4
     have hfz85_5 := blk_frozen BK130.out 5
     have hnb86 := NB128_129.out
     have hnc86 := NB129_128.out
     have hcz87_0 : wr.cell? ⟨gb128, 0, none⟩ = some (.bool a0_0) := (blk_cell BK128.out 0).trans rfl
     have hcz87_1 : wr.cell? ⟨gb128, 1, none⟩ = some (.int .i64 a0_1) := (blk_cell BK128.out 1).trans rfl
     have hcz87_2 : wr.cell? ⟨gb128, 2, none⟩ = some (.int .i64 a0_2) := (blk_cell BK128.out 2).trans rfl
     have hcz87_3 : wr.cell? ⟨gb128, 3, none⟩ = some (.int .i64 a0_3) := (blk_cell BK128.out 3).trans rfl
     have hcz87_4 : wr.cell? ⟨gb128, 4, none⟩ = some (.slice A0_4 l0_4.length c0_4) := (blk_cell BK128.out 4).trans rfl
     have hcz87_5 : wr.cell? ⟨gb128, 5, none⟩ = some (.slice Ao3 l0_5.length co3) := (blk_cell BK128.out 5).trans rfl
     have hfz87_0 := blk_frozen BK128.out 0
     have hfz87_1 := blk_frozen BK128.out 1
     have hfz87_2 := blk_frozen BK128.out 2
     have hfz87_3 := blk_frozen BK128.out 3
     have hfz87_4 := blk_frozen BK128.out 4
     have hfz87_5 := blk_frozen BK128.out 5
     go_wp2
     go_loopg [52] k1 (fun kq v52 w' => ∃ (x52_2 : Int) (x131005_2 : List Int) (u131005 : Value), v52 = .int .i64 x52_2 ∧ Aside0 (pinfoldref14_told.l1 kq a1 l0_5 (l0_5.length : Int) x52_2 a0_0 x131001_1 a0_2 a0_3 x131004_1 x131005_2 = some (r1, r2, r3, r4, r5, r6)) ∧ Aside0 (kq ≤ k1) ∧ Aside0 (Kd.R (Kd.int .i64) 3 w' w0.heap.size (fun k_ => (P0_5_ k_ ∨ w.heap.size ≤ k_) ∧ some k_ ≠ (u131005 : Value).ownBlock) (.slice Ao3 l0_5.length co3) l0_5) ∧ Aside0 (Kd.R (Kd.int .i64) 3 w' w0.heap.size (fun k_ => (P0_5_ k_ ∨ w.heap.size ≤ k_) ∧ some k_ ≠ (u131005 : Value).ownBlock) (.slice Ao3 l0_5.length co3) l0_5) ∧ Aside0 (Kd.R k95 95 w' w0.heap.size (fun k_ => (P0_5_ k_ ∨ w.heap.size ≤ k_)) u131004 x131004_1) ∧ Aside0 (Kd.R (Kd.int .i64) 3 w' w0.heap.size (fun k_ => (P0_5_ k_ ∨ w.heap.size ≤ k_) ∧ some k_ ≠ ((.slice Ao3 l0_5.length co3) : Value).ownBlock ∧ some k_ ≠ ((.slice Ao3 l0_5.length co3) : Value).ownBlock) u131005 x131005_2) ∧ Aside0 (w'.heap[gb128]? = some (.cells #[.bool a0_0, .int .i64 a0_1, .int .i64 a0_2, .int .i64 a0_3, (.slice A0_4 l0_4.length c0_4), (.slice Ao3 l0_5.length co3)] 156 (0, 0))) ∧ Aside0 (w'.heap[gb129]? = some (.cells #[.bool false, .int .i64 0, .int .i64 0, .int .i64 0, (.slice none 0 0), (.slice none 0 0)] 156 (0, 0))) ∧ Aside0 (w'.heap[gb130]? = some (.cells #[.bool a0_0, .int .i64 x131001_1, .int .i64 a0_2, .int .i64 a0_3, u131004, u131005] 156 (0, 0))) ∧ Aside0 (Kept w w' (fun k_ => P0_5_ k_)) ∧ Aside0 (Below w0.heap.size w0 w'))
     case atStart => exact ⟨(0), (([] : List Int)), (.slice none 0 0), (by first|rfl|(simp;done)|(simp [*];done)), H', ⟨Nat.le_refl _⟩, ⟨by (with_reducible repeat (first|apply Kd.R_alloc|apply Kd.R_drewN|apply Kd.R_drew));exact Kd.R_mono (Kd.R_far (p := ⟨gb130, 5, none⟩) (Kd.R_types HO_129005.out BK130.out (by decide)) (fun _ hk => hk.2) (.slice none 0 0)) (fun _ hk => ⟨hk.1, (by simp [Value.ownBlock])⟩)⟩, ⟨by (with_reducible repeat (first|apply Kd.R_alloc|apply Kd.R_drewN|apply Kd.R_drew));exact Kd.R_mono (Kd.R_far (p := ⟨gb130, 5, none⟩) (Kd.R_types HO_129005.out BK130.out (by decide)) (fun _ hk => hk.2) (.slice none 0 0)) (fun _ hk => ⟨hk.1, (by simp [Value.ownBlock])⟩)⟩, ⟨by (with_reducible repeat (first|apply Kd.R_alloc|apply Kd.R_drewN|apply Kd.R_drew));exact Kd.R_mono (Kd.R_far (p := ⟨gb130, 5, none⟩) (Kd.R_types HO_131004.out BK130.out (by decide)) (fun _ hk => hk.2) (.slice none 0 0)) (fun _ hk => hk.1)⟩, ⟨by first|exact Kd.R_nil _ _ _ _ _|exact Kd.N_nil _ _ _ _ _|exact Kd.V_nil _ _ _ _ _|exact Kd.Q_nil _ _ _ _ _|exact Kd.S_nil _ _ _ _ _⟩, ⟨by (with_reducible repeat (first|apply blk_drewN|apply blk_drew|apply blk_alloc));refine blk_far ?_ NB128_130.out _;(with_reducible repeat (first|apply blk_drewN|apply blk_drew|apply blk_alloc));exact BK128.out⟩, ⟨by (with_reducible repeat (first|apply blk_drewN|apply blk_drew|apply blk_alloc));refine blk_far ?_ NB129_130.out _;(with_reducible repeat (first|apply blk_drewN|apply blk_drew|apply blk_alloc));exact BK129.out⟩, ⟨by (with_reducible repeat (first|apply blk_drewN|apply blk_drew|apply blk_alloc));refine blk_put (cs := #[.bool a0_0, .int .i64 x131001_1, .int .i64 a0_2, .int .i64 a0_3, u131004, .slice Ao3 l0_5.length co3]) ?_ 5 _ rfl;(with_reducible repeat (first|apply blk_drewN|apply blk_drew|apply blk_alloc));exact BK130.out⟩, ⟨by repeat (first|(with_reducible first|exact HK.out|apply Kept.alloc|apply Kept.drewN|apply Kept.drew|refine Kept.setCell ?_ (.inr GW128.out) _|refine Kept.setCell ?_ (.inr GW129.out) _|refine Kept.setCell ?_ (.inr GW130.out) _)|exact HK.out)⟩, ⟨by repeat (first|(with_reducible first|exact HB.out|apply xa|apply xb|apply xc|refine below_set ?_ GE128.out|refine below_set ?_ GE129.out|refine below_set ?_ GE130.out)|exact HB.out)⟩⟩
     case round =>
      clear H'
      try clear c1
      try clear p1
      try clear q1
      try clear hx1
      try clear c2
      try clear p2
      try clear c3
      try clear c4
      try clear c5
      try clear c6
      try clear p6
      try clear c7
      try clear c8
      try clear c9
      try clear c10
      try clear c13
      try clear c13b0
      try clear p13
      try clear q13
      try clear hx13
      try clear c14
      try clear c14b0
      try clear c15
      try clear c15b0
      try clear c16
      try clear c16b0
      try clear c16b1
      try clear c17
      try clear c18
      try clear c19
      try clear c21
      try clear c22
      try clear c23
      try clear c25
      try clear c26
      try clear c31
      try clear c33
      try clear c34
      try clear c35
      try clear c37
      try clear c38
      try clear c44
      try clear c45
      try clear c46
      try clear c48
      try clear c49
      try clear c51
      try clear c52
      try clear c54
      try clear c55
      try clear c56
      try clear c58
      try clear c59
      try clear c64
      try clear p64
      try clear c66
      try clear c67
      try clear c68
      try clear c70
      try clear c71
      try clear c76
      try clear c77
      try clear c78
      try clear c80
      try clear c83
      try clear c84
      try clear c86
      try clear hcz11_0
      try clear hcz11_1
      try clear hcz11_2
      try clear hcz11_3
      try clear hcz11_4
      try clear hcz11_5
      try clear hcz12_0
      try clear hcz12_1
      try clear hcz12_2
      try clear hcz12_3
      try clear hcz12_4
      try clear hcz12_5
      try clear hcz24_0
      try clear hcz24_1
      try clear hcz27_0
      try clear hcz27_1
      try clear hcz27_2
      try clear hcz27_3
      try clear hcz27_4
      try clear hcz27_5
      try clear hcz30_0
      try clear hcz30_1
      try clear hcz30_2
      try clear hcz30_3
      try clear hcz30_4
      try clear hcz30_5
      try clear hcz36_0
      try clear hcz36_1
      try clear hcz39_0
      try clear hcz39_1
      try clear hcz39_2
      try clear hcz39_3
      try clear hcz39_4
      try clear hcz39_5
      try clear hcz42_0
      try clear hcz42_1
      try clear hcz42_2
      try clear hcz42_3
      try clear hcz42_4
      try clear hcz42_5
      try clear hcz47_0
      try clear hcz47_1
      try clear hcz50_0
      try clear hcz50_1
      try clear hcz50_2
      try clear hcz50_3
      try clear hcz50_4
      try clear hcz50_5
      try clear hcz57_0
      try clear hcz57_1
      try clear hcz60_0
      try clear hcz60_1
      try clear hcz60_2
      try clear hcz60_3
      try clear hcz60_4
      try clear hcz60_5
      try clear hcz63_0
      try clear hcz63_1
      try clear hcz63_2
      try clear hcz63_3
      try clear hcz63_4
      try clear hcz63_5
      try clear hcz69_0
      try clear hcz69_1
      try clear hcz72_0
      try clear hcz72_1
      try clear hcz72_2
      try clear hcz72_3
      try clear hcz72_4
      try clear hcz72_5
      try clear hcz75_0
      try clear hcz75_1
      try clear hcz75_2
      try clear hcz75_3
      try clear hcz75_4
      try clear hcz75_5
      try clear hcz79_0
      try clear hcz79_1
      try clear hcz79_2
      try clear hcz79_3
      try clear hcz79_4
      try clear hcz79_5
      try clear hcz7_0
      try clear hcz7_1
      try clear hcz7_2
      try clear hcz7_3
      try clear hcz7_4
      try clear hcz7_5
      try clear hcz81_0
      try clear hcz81_1
      try clear hcz81_2
      try clear hcz81_3
      try clear hcz81_4
      try clear hcz81_5
      try clear hcz85_0
      try clear hcz85_1
      try clear hcz85_2
      try clear hcz85_3
      try clear hcz85_4
      try clear hcz85_5
      try clear hcz87_0
      try clear hcz87_1
      try clear hcz87_2
      try clear hcz87_3
      try clear hcz87_4
      try clear hcz87_5
      try clear hfz11_0
      try clear hfz11_1
      try clear hfz11_2
      try clear hfz11_3
      try clear hfz11_4
      try clear hfz11_5
      try clear hfz12_0
      try clear hfz12_1
      try clear hfz12_2
      try clear hfz12_3
      try clear hfz12_4
      try clear hfz12_5
      try clear hfz24_0
      try clear hfz24_1
      try clear hfz27_0
      try clear hfz27_1
      try clear hfz27_2
      try clear hfz27_3
      try clear hfz27_4
      try clear hfz27_5
      try clear hfz30_0
      try clear hfz30_1
      try clear hfz30_2
      try clear hfz30_3
      try clear hfz30_4
      try clear hfz30_5
      try clear hfz36_0
      try clear hfz36_1
      try clear hfz39_0
      try clear hfz39_1
      try clear hfz39_2
      try clear hfz39_3
      try clear hfz39_4
      try clear hfz39_5
      try clear hfz42_0
      try clear hfz42_1
      try clear hfz42_2
      try clear hfz42_3
      try clear hfz42_4
      try clear hfz42_5
      try clear hfz47_0
      try clear hfz47_1
      try clear hfz50_0
      try clear hfz50_1
      try clear hfz50_2
      try clear hfz50_3
      try clear hfz50_4
      try clear hfz50_5
      try clear hfz57_0
      try clear hfz57_1
      try clear hfz60_0
      try clear hfz60_1
      try clear hfz60_2
      try clear hfz60_3
      try clear hfz60_4
      try clear hfz60_5
      try clear hfz63_0
      try clear hfz63_1
      try clear hfz63_2
      try clear hfz63_3
      try clear hfz63_4
      try clear hfz63_5
      try clear hfz69_0
      try clear hfz69_1
      try clear hfz72_0
      try clear hfz72_1
      try clear hfz72_2
      try clear hfz72_3
      try clear hfz72_4
      try clear hfz72_5
      try clear hfz75_0
      try clear hfz75_1
      try clear hfz75_2
      try clear hfz75_3
      try clear hfz75_4
      try clear hfz75_5
      try clear hfz79_0
      try clear hfz79_1
      try clear hfz79_2
      try clear hfz79_3
      try clear hfz79_4
      try clear hfz79_5
      try clear hfz7_0
      try clear hfz7_1
      try clear hfz7_2
      try clear hfz7_3
      try clear hfz7_4
      try clear hfz7_5
      try clear hfz81_0
      try clear hfz81_1
      try clear hfz81_2
      try clear hfz81_3
      try clear hfz81_4
      try clear hfz81_5
      try clear hfz85_0
      try clear hfz85_1
      try clear hfz85_2
      try clear hfz85_3
      try clear hfz85_4
      try clear hfz85_5
      try clear hfz87_0
      try clear hfz87_1
      try clear hfz87_2
      try clear hfz87_3
      try clear hfz87_4
      try clear hfz87_5
      try clear hx131_0
      try clear hx131_1
      try clear p131
      try clear p2
      try clear q131
      clear BK130
      obtain ⟨x52_2, x131005_2, u131005, rfl, HA, HK2, HO_50, HO_129005, HO_131004, HO_131005, BK128, BK129, BK130, HK, HB⟩ := hrel
      cases gk with
      | zero => exact absurd HA.out (by simp [pinfoldref14_told.l1])
      | succ k2 =>
       have H := HA.out
       clear HA
       simp only [pinfoldref14_told.l1] at H
       by_cases c88 : x52_2 < (l0_5.length : Int)
       ·rw [if_pos c88] at H
        have c88b0 : decide (x52_2 < (l0_5.length : Int)) = true := decide_eq_true c88
        clear c88
        by_cases c89 : 0 ≤ x52_2
        ·rw [if_pos c89] at H
         have c89b0 : decide (0 ≤ x52_2) = true := decide_eq_true c89
         clear c89
         by_cases c90 : x52_2 < (l0_5.length : Int)
         ·rw [if_pos c90] at H
          have c90b0 : decide (x52_2 < (l0_5.length : Int)) = true := decide_eq_true c90
          clear c90
          by_cases c91 : (rd l0_5 x52_2) = a1
          ·rw [if_pos c91] at H
           have c91b0 : ((rd l0_5 x52_2) == a1) = true := beq_iff_eq.mpr c91
           have c91b1 : ((rd l0_5 x52_2) != a1) = false := bne_eq_false_iff_eq.mpr c91
           clear c91
           have H' := Aside0.mk H
           clear H
           have p145 : 0 ≤ (x52_2 : Int) := of_decide_eq_true (by assumption)
           have q145 : x52_2 < (l0_5.length : Int) := of_decide_eq_true (by assumption)
           obtain ⟨ad145, e145, hx145_0⟩ := Kd.at_int (Kd.R_reads' HO_50.out).2.2 x52_2 p145 q145
           cases e145
           replace p145 := eq_true p145
           replace q145 := eq_true q145
           go_wp2
           (try simp only [px_add0] at *)
           go_roundg k2
           case measure => have := HK1.out;have := HK2.out;omega
           case rel => exact ⟨(wrap64 (x52_2 + 1)), (x131005_2), (u131005), (by first|rfl|(simp;done)|(simp [*];done)), H', ⟨by have := HK1.out;have := HK2.out;omega⟩, ⟨by (with_reducible repeat (first|apply Kd.R_alloc|apply Kd.R_drewN|apply Kd.R_drew));exact HO_50.out⟩, ⟨by (with_reducible repeat (first|apply Kd.R_alloc|apply Kd.R_drewN|apply Kd.R_drew));exact HO_129005.out⟩, ⟨by (with_reducible repeat (first|apply Kd.R_alloc|apply Kd.R_drewN|apply Kd.R_drew));exact HO_131004.out⟩, ⟨by (with_reducible repeat (first|apply Kd.R_alloc|apply Kd.R_drewN|apply Kd.R_drew));exact HO_131005.out⟩, ⟨by (with_reducible repeat (first|apply blk_drewN|apply blk_drew|apply blk_alloc));exact BK128.out⟩, ⟨by (with_reducible repeat (first|apply blk_drewN|apply blk_drew|apply blk_alloc));exact BK129.out⟩, ⟨by (with_reducible repeat (first|apply blk_drewN|apply blk_drew|apply blk_alloc));exact BK130.out⟩, ⟨by repeat (first|(with_reducible first|exact HK.out|apply Kept.alloc|apply Kept.drewN|apply Kept.drew|refine Kept.setCell ?_ (.inr GW128.out) _|refine Kept.setCell ?_ (.inr GW129.out) _|refine Kept.setCell ?_ (.inr GW130.out) _)|exact HK.out)⟩, ⟨by repeat (first|(with_reducible first|exact HB.out|apply xa|apply xb|apply xc|refine below_set ?_ GE128.out|refine below_set ?_ GE129.out|refine below_set ?_ GE130.out)|exact HB.out)⟩⟩
          ·rw [if_neg c91] at H
           have c91b0 : ((rd l0_5 x52_2) == a1) = false := beq_eq_false_iff_ne.mpr c91
           have c91b1 : ((rd l0_5 x52_2) != a1) = true := bne_iff_ne.mpr c91
           by_cases c92 : x131005_2.length < 17592186044416
           ·rw [if_pos c92] at H
            have LMc92 := Aside0.mk c92
            clear c92
            obtain ⟨y146, hy146⟩ : ∃ y_ : List Int, y_ = (x131005_2 ++ [rd l0_5 x52_2]) := ⟨_, rfl⟩
            replace H : (pinfoldref14_told.l1 k2 a1 l0_5 (l0_5.length : Int) (wrap64 (x52_2 + 1)) a0_0 x131001_1 a0_2 a0_3 x131004_1 y146) = some (r1, r2, r3, r4, r5, r6) := by first|(rw [hy146];with_reducible exact H)|(have H2_ := (Option.bind_some _ _).symm.trans H;rw [hy146];with_reducible exact H2_)|(have H2_ := (Option.bind_some _ _).symm.trans H;with_reducible exact H2_)|with_reducible exact H|(rw [hy146];exact H)|exact H
            have Ny146 := Aside0.mk hy146
            clear hy146
            have H' := Aside0.mk H
            clear H
            have p145 : 0 ≤ (x52_2 : Int) := of_decide_eq_true (by assumption)
            have q145 : x52_2 < (l0_5.length : Int) := of_decide_eq_true (by assumption)
            obtain ⟨ad145, e145, hx145_0⟩ := Kd.at_int (Kd.R_reads' HO_50.out).2.2 x52_2 p145 q145
            cases e145
            replace p145 := eq_true p145
            replace q145 := eq_true q145
            have hnb93 := NB130_128.out
            have hnc93 := NB128_130.out
            have hnb94 := NB130_129.out
            have hnc94 := NB129_130.out
            have hcz95_0 : wr.cell? ⟨gb130, 0, none⟩ = some (.bool a0_0) := (blk_cell BK130.out 0).trans rfl
            have hcz95_1 : wr.cell? ⟨gb130, 1, none⟩ = some (.int .i64 x131001_1) := (blk_cell BK130.out 1).trans rfl
            have hcz95_2 : wr.cell? ⟨gb130, 2, none⟩ = some (.int .i64 a0_2) := (blk_cell BK130.out 2).trans rfl
            have hcz95_3 : wr.cell? ⟨gb130, 3, none⟩ = some (.int .i64 a0_3) := (blk_cell BK130.out 3).trans rfl
            have hcz95_4 : wr.cell? ⟨gb130, 4, none⟩ = some (u131004) := (blk_cell BK130.out 4).trans rfl
            have hcz95_5 : wr.cell? ⟨gb130, 5, none⟩ = some (u131005) := (blk_cell BK130.out 5).trans rfl
            have hfz95_0 := blk_frozen BK130.out 0
            have hfz95_1 := blk_frozen BK130.out 1
            have hfz95_2 := blk_frozen BK130.out 2
            have hfz95_3 := blk_frozen BK130.out 3
            have hfz95_4 := blk_frozen BK130.out 4
            have hfz95_5 := blk_frozen BK130.out 5
            go_wp2_with (first|((with_reducible refine gate_builtin (b := .append) (xs := #[.tmp 60, .tmp 62]) rfl ?_);at_builtin;refine Kd.R_append (Kd.int .i64) (w0 := w0) w0.heap.size rfl (.tmp 60) (.tmp 62) 27 3 (.int .i64 0) 8 rfl Try.underlying27 info3 rfl (by decide) (by omega) u131005 x131005_2 (rd l0_5 x52_2) [.int .i64 (rd l0_5 x52_2)] (fun k_ => (P0_5_ k_ ∨ w.heap.size ≤ k_) ∧ some k_ ≠ (.slice (some ad145) l0_5.length co3 : Value).ownBlock ∧ some k_ ≠ (.slice (some ad145) l0_5.length co3 : Value).ownBlock) (fun _ => False) rfl rfl ?aP (fun _ hk => hk.elim) ?aF ?aO ?aB ?aS ?aL ?_;(case aP => exact rfl);(case aB => exact (by repeat (first|(with_reducible first|exact HB.out|apply xa|apply xb|apply xc|refine below_set ?_ GE128.out|refine below_set ?_ GE129.out|refine below_set ?_ GE130.out)|exact HB.out)));(case aF => exact (fun k_ hk => ⟨(.inr (Nat.le_trans (by first|exact HK.out.1|exact (show Kept w _ (fun k_ => P0_5_ k_) from by repeat (first|(with_reducible first|exact HK.out|apply Kept.alloc|apply Kept.drewN|apply Kept.drew|refine Kept.setCell ?_ (.inr GW128.out) _|refine Kept.setCell ?_ (.inr GW129.out) _|refine Kept.setCell ?_ (.inr GW130.out) _)|exact HK.out)).1) hk)), Kd.fresh' (Kd.R_lt (by (with_reducible repeat (first|apply Kd.R_alloc|apply Kd.R_drewN|apply Kd.R_drew));exact HO_50.out)) k_ hk, Kd.fresh' (Kd.R_lt (by (with_reducible repeat (first|apply Kd.R_alloc|apply Kd.R_drewN|apply Kd.R_drew));exact HO_129005.out)) k_ hk⟩));(case aO => exact (by (with_reducible repeat (first|apply Kd.R_alloc|apply Kd.R_drewN|apply Kd.R_drew));exact HO_131005.out));(case aS => exact (below_size (by repeat (first|(with_reducible first|exact HB.out|apply xa|apply xb|apply xc|refine below_set ?_ GE128.out|refine below_set ?_ GE129.out|refine below_set ?_ GE130.out)|exact HB.out))));(case aL => have := LMc92.out;omega);intro v147 w96 ho hb hg hat;rw [← Ny146.out] at ho;have n0_ := Aside0.mk (Kd.R_after (ok := (fun k_ => (P0_5_ k_ ∨ w.heap.size ≤ k_))) (by (with_reducible repeat (first|apply Kd.R_alloc|apply Kd.R_drewN|apply Kd.R_drew));exact HO_50.out) hg hat);have n1_ := Aside0.mk (Kd.R_after (ok := (fun k_ => (P0_5_ k_ ∨ w.heap.size ≤ k_))) (by (with_reducible repeat (first|apply Kd.R_alloc|apply Kd.R_drewN|apply Kd.R_drew));exact HO_129005.out) hg hat);have n2_ := Aside0.mk (Kd.R_over' (by (with_reducible repeat (first|apply Kd.R_alloc|apply Kd.R_drewN|apply Kd.R_drew));exact HO_131004.out) (Kd.R_typed (by (with_reducible repeat (first|apply Kd.R_alloc|apply Kd.R_drewN|apply Kd.R_drew));exact HO_131005.out)) (by decide) hg);have n3_ := Aside0.mk (blk_grown (g := gb128) (o := .cells #[.bool a0_0, .int .i64 a0_1, .int .i64 a0_2, .int .i64 a0_3, .slice A0_4 l0_4.length c0_4, .slice (some ad145) l0_5.length co3] 156 (0, 0)) (by (with_reducible repeat (first|apply blk_drewN|apply blk_drew|apply blk_alloc));exact BK128.out) hg (Kd.R_ne HO_131005.out BK128.out (by decide)));have n4_ := Aside0.mk (blk_grown (g := gb129) (o := .cells #[.bool false, .int .i64 0, .int .i64 0, .int .i64 0, .slice none 0 0, .slice none 0 0] 156 (0, 0)) (by (with_reducible repeat (first|apply blk_drewN|apply blk_drew|apply blk_alloc));exact BK129.out) hg (Kd.R_ne HO_131005.out BK129.out (by decide)));have n5_ := Aside0.mk (blk_grown (g := gb130) (o := .cells #[.bool a0_0, .int .i64 x131001_1, .int .i64 a0_2, .int .i64 a0_3, u131004, u131005] 156 (0, 0)) (by (with_reducible repeat (first|apply blk_drewN|apply blk_drew|apply blk_alloc));exact BK130.out) hg (Kd.R_ne HO_131005.out BK130.out (by decide)));have n6_ := Aside0.mk (hb);have n7_ := Aside0.mk (Kept.of_grown (S := (fun k_ => P0_5_ k_)) hg (by repeat (first|(with_reducible first|exact HK.out|apply Kept.alloc|apply Kept.drewN|apply Kept.drew|refine Kept.setCell ?_ (.inr GW128.out) _|refine Kept.setCell ?_ (.inr GW129.out) _|refine Kept.setCell ?_ (.inr GW130.out) _)|exact HK.out)) (fun k_ e_ => (HO_131005.out.1 k_ e_).1));have n8_ := Aside0.mk (ho);clear HO_50;clear HO_129005;clear HO_131004;clear BK128;clear BK129;clear BK130;clear HB;clear HK;clear HO_131005;have HO_50 := n0_;have HO_129005 := n1_;have HO_131004 := n2_;have BK128 := n3_;have BK129 := n4_;have BK130 := n5_;have HB := n6_;have HK := n7_;have HO148 := n8_;clear n0_ n1_ n2_ n3_ n4_ n5_ n6_ n7_ n8_;clear ho hb hg hat;obtain ⟨Ao97, co97, eo97⟩ := Kd.R_slice HO148.out;subst eo97;have hcz98_0 : w96.cell? ⟨gb130, 0, none⟩ = some (.bool a0_0) := (blk_cell BK130.out 0).trans rfl;have hcz98_1 : w96.cell? ⟨gb130, 1, none⟩ = some (.int .i64 x131001_1) := (blk_cell BK130.out 1).trans rfl;have hcz98_2 : w96.cell? ⟨gb130, 2, none⟩ = some (.int .i64 a0_2) := (blk_cell BK130.out 2).trans rfl;have hcz98_3 : w96.cell? ⟨gb130, 3, none⟩ = some (.int .i64 a0_3) := (blk_cell BK130.out 3).trans rfl;have hcz98_4 : w96.cell? ⟨gb130, 4, none⟩ = some (u131004) := (blk_cell BK130.out 4).trans rfl;have hcz98_5 : w96.cell? ⟨gb130, 5, none⟩ = some (u131005) := (blk_cell BK130.out 5).trans rfl;have hfz98_0 := blk_frozen BK130.out 0;have hfz98_1 := blk_frozen BK130.out 1;have hfz98_2 := blk_frozen BK130.out 2;have hfz98_3 := blk_frozen BK130.out 3;have hfz98_4 := blk_frozen BK130.out 4;have hfz98_5 := blk_frozen BK130.out 5))
            (try simp only [px_add0] at *)
            go_roundg k2
            case measure => have := HK1.out;have := HK2.out;omega
            case rel => exact ⟨(wrap64 (x52_2 + 1)), (y146), (.slice Ao97 y146.length co97), (by first|rfl|(simp;done)|(simp [*];done)), H', ⟨by have := HK1.out;have := HK2.out;omega⟩, ⟨by (with_reducible repeat (first|apply Kd.R_alloc|apply Kd.R_drewN|apply Kd.R_drew));exact Kd.R_mono (Kd.R_far (p := ⟨gb130, 5, none⟩) (Kd.R_types HO_50.out BK130.out (by decide)) (fun _ hk => hk.2) (.slice Ao97 y146.length co97)) (fun _ hk => ⟨hk.1.1, hk.1.2⟩)⟩, ⟨by (with_reducible repeat (first|apply Kd.R_alloc|apply Kd.R_drewN|apply Kd.R_drew));exact Kd.R_mono (Kd.R_far (p := ⟨gb130, 5, none⟩) (Kd.R_types HO_129005.out BK130.out (by decide)) (fun _ hk => hk.2) (.slice Ao97 y146.length co97)) (fun _ hk => ⟨hk.1.1, hk.1.2⟩)⟩, ⟨by (with_reducible repeat (first|apply Kd.R_alloc|apply Kd.R_drewN|apply Kd.R_drew));exact Kd.R_mono (Kd.R_far (p := ⟨gb130, 5, none⟩) (Kd.R_types HO_131004.out BK130.out (by decide)) (fun _ hk => hk.2) (.slice Ao97 y146.length co97)) (fun _ hk => hk.1)⟩, ⟨by (with_reducible repeat (first|apply Kd.R_alloc|apply Kd.R_drewN|apply Kd.R_drew));exact Kd.R_mono (Kd.R_far (p := ⟨gb130, 5, none⟩) (Kd.R_types HO148.out BK130.out (by decide)) (fun _ hk => hk.2) (.slice Ao97 y146.length co97)) (fun _ hk => ⟨hk.1.1, ⟨hk.1.2.1, hk.1.2.2⟩⟩)⟩, ⟨by (with_reducible repeat (first|apply blk_drewN|apply blk_drew|apply blk_alloc));refine blk_far ?_ NB128_130.out _;(with_reducible repeat (first|apply blk_drewN|apply blk_drew|apply blk_alloc));exact BK128.out⟩, ⟨by (with_reducible repeat (first|apply blk_drewN|apply blk_drew|apply blk_alloc));refine blk_far ?_ NB129_130.out _;(with_reducible repeat (first|apply blk_drewN|apply blk_drew|apply blk_alloc));exact BK129.out⟩, ⟨by (with_reducible repeat (first|apply blk_drewN|apply blk_drew|apply blk_alloc));refine blk_put (cs := #[.bool a0_0, .int .i64 x131001_1, .int .i64 a0_2, .int .i64 a0_3, u131004, u131005]) ?_ 5 _ rfl;(with_reducible repeat (first|apply blk_drewN|apply blk_drew|apply blk_alloc));exact BK130.out⟩, ⟨by repeat (first|(with_reducible first|exact HK.out|apply Kept.alloc|apply Kept.drewN|apply Kept.drew|refine Kept.setCell ?_ (.inr GW128.out) _|refine Kept.setCell ?_ (.inr GW129.out) _|refine Kept.setCell ?_ (.inr GW130.out) _)|exact HK.out)⟩, ⟨by repeat (first|(with_reducible first|exact HB.out|apply xa|apply xb|apply xc|refine below_set ?_ GE128.out|refine below_set ?_ GE129.out|refine below_set ?_ GE130.out)|exact HB.out)⟩⟩
           ·rw [if_neg c92] at H
            exact absurd H (by simp)
         ·rw [if_neg c90] at H
          exact absurd H (by simp)
        ·rw [if_neg c89] at H
         exact absurd H (by simp)
       ·rw [if_neg c88] at H
        have c88b0 : decide (x52_2 < (l0_5.length : Int)) = false := decide_eq_false c88
        clear c88
        simp only [Option.some.injEq, Prod.mk.injEq] at H
        obtain ⟨rfl, rfl, rfl, rfl, rfl, rfl⟩ := H
        have hnb99 := NB130_128.out
        have hnc99 := NB128_130.out
        have hnb100 := NB130_129.out
        have hnc100 := NB129_130.out
        have hcz101_0 : wr.cell? ⟨gb130, 0, none⟩ = some (.bool a0_0) := (blk_cell BK130.out 0).trans rfl
        have hcz101_1 : wr.cell? ⟨gb130, 1, none⟩ = some (.int .i64 x131001_1) := (blk_cell BK130.out 1).trans rfl
        have hcz101_2 : wr.cell? ⟨gb130, 2, none⟩ = some (.int .i64 a0_2) := (blk_cell BK130.out 2).trans rfl
        have hcz101_3 : wr.cell? ⟨gb130, 3, none⟩ = some (.int .i64 a0_3) := (blk_cell BK130.out 3).trans rfl
        have hcz101_4 : wr.cell? ⟨gb130, 4, none⟩ = some (u131004) := (blk_cell BK130.out 4).trans rfl
        have hcz101_5 : wr.cell? ⟨gb130, 5, none⟩ = some (u131005) := (blk_cell BK130.out 5).trans rfl
        have hfz101_0 := blk_frozen BK130.out 0
        have hfz101_1 := blk_frozen BK130.out 1
        have hfz101_2 := blk_frozen BK130.out 2
        have hfz101_3 := blk_frozen BK130.out 3
        have hfz101_4 := blk_frozen BK130.out 4
        have hfz101_5 := blk_frozen BK130.out 5
        have hnb102 := NB129_128.out
        have hnc102 := NB128_129.out
        have hcz103_0 : wr.cell? ⟨gb129, 0, none⟩ = some (.bool false) := (blk_cell BK129.out 0).trans rfl
        have hcz103_1 : wr.cell? ⟨gb129, 1, none⟩ = some (.int .i64 0) := (blk_cell BK129.out 1).trans rfl
        have hcz103_2 : wr.cell? ⟨gb129, 2, none⟩ = some (.int .i64 0) := (blk_cell BK129.out 2).trans rfl
        have hcz103_3 : wr.cell? ⟨gb129, 3, none⟩ = some (.int .i64 0) := (blk_cell BK129.out 3).trans rfl
        have hcz103_4 : wr.cell? ⟨gb129, 4, none⟩ = some (.slice none 0 0) := (blk_cell BK129.out 4).trans rfl
        have hcz103_5 : wr.cell? ⟨gb129, 5, none⟩ = some (.slice none 0 0) := (blk_cell BK129.out 5).trans rfl
        have hfz103_0 := blk_frozen BK129.out 0
        have hfz103_1 := blk_frozen BK129.out 1
        have hfz103_2 := blk_frozen BK129.out 2
        have hfz103_3 := blk_frozen BK129.out 3
        have hfz103_4 := blk_frozen BK129.out 4
        have hfz103_5 := blk_frozen BK129.out 5
        obtain ⟨Ao104, co104, eo104⟩ := Kd.R_slice HO_131004.out
        subst eo104
        obtain ⟨Ao105, co105, eo105⟩ := Kd.R_slice HO_131005.out
        subst eo105
        go_wp2
        refine bodyPost_ret (results_cell_row rfl _ _ gb129 156 #[.bool a0_0, .int .i64 x131001_1, .int .i64 a0_2, .int .i64 a0_3, .slice Ao104 x131004_1.length co104, .slice Ao105 x131005_2.length co105] (0, 0) _ rfl (by (with_reducible repeat (first|apply blk_drewN|apply blk_drew|apply blk_alloc));refine blk_put (cs := #[.bool a0_0, .int .i64 x131001_1, .int .i64 a0_2, .int .i64 a0_3, .slice Ao104 x131004_1.length co104, .slice none 0 0]) ?_ 5 _ rfl;(with_reducible repeat (first|apply blk_drewN|apply blk_drew|apply blk_alloc));refine blk_put (cs := #[.bool a0_0, .int .i64 x131001_1, .int .i64 a0_2, .int .i64 a0_3, .slice none 0 0, .slice none 0 0]) ?_ 4 _ rfl;(with_reducible repeat (first|apply blk_drewN|apply blk_drew|apply blk_alloc));refine blk_put (cs := #[.bool a0_0, .int .i64 x131001_1, .int .i64 a0_2, .int .i64 0, .slice none 0 0, .slice none 0 0]) ?_ 3 _ rfl;(with_reducible repeat (first|apply blk_drewN|apply blk_drew|apply blk_alloc));refine blk_put (cs := #[.bool a0_0, .int .i64 x131001_1, .int .i64 0, .int .i64 0, .slice none 0 0, .slice none 0 0]) ?_ 2 _ rfl;(with_reducible repeat (first|apply blk_drewN|apply blk_drew|apply blk_alloc));refine blk_put (cs := #[.bool a0_0, .int .i64 0, .int .i64 0, .int .i64 0, .slice none 0 0, .slice none 0 0]) ?_ 1 _ rfl;(with_reducible repeat (first|apply blk_drewN|apply blk_drew|apply blk_alloc));refine blk_put (cs := #[.bool false, .int .i64 0, .int .i64 0, .int .i64 0, .slice none 0 0, .slice none 0 0]) ?_ 0 _ rfl;(with_reducible repeat (first|apply blk_drewN|apply blk_drew|apply blk_alloc));exact BK129.out) Try.underlying156 rfl (by kernel_rfl)) rfl ?_
        exact ⟨_, _, by first|rfl|(simp [errW_none, errW_some] <;> rfl)|(simp [*, errW_none, errW_some] <;> rfl), by (with_reducible repeat (first|apply Kd.R_alloc|apply Kd.R_drewN|apply Kd.R_drew));exact Kd.R_mono (Kd.R_far (p := ⟨gb129, 5, none⟩) (Kd.R_far (p := ⟨gb129, 4, none⟩) (Kd.R_far (p := ⟨gb129, 3, none⟩) (Kd.R_far (p := ⟨gb129, 2, none⟩) (Kd.R_far (p := ⟨gb129, 1, none⟩) (Kd.R_far (p := ⟨gb129, 0, none⟩) (Kd.R_types HO_131004.out BK129.out (by decide)) (fun _ hk => hk.2) (.bool a0_0)) (fun _ hk => hk.2) (.int .i64 x131001_1)) (fun _ hk => hk.2) (.int .i64 a0_2)) (fun _ hk => hk.2) (.int .i64 a0_3)) (fun _ hk => hk.2) (.slice Ao104 x131004_1.length co104)) (fun _ hk => hk.2) (.slice Ao105 x131005_2.length co105)) (fun _ hk => hk.1), by (with_reducible repeat (first|apply Kd.R_alloc|apply Kd.R_drewN|apply Kd.R_drew));exact Kd.R_mono (Kd.R_far (p := ⟨gb129, 5, none⟩) (Kd.R_far (p := ⟨gb129, 4, none⟩) (Kd.R_far (p := ⟨gb129, 3, none⟩) (Kd.R_far (p := ⟨gb129, 2, none⟩) (Kd.R_far (p := ⟨gb129, 1, none⟩) (Kd.R_far (p := ⟨gb129, 0, none⟩) (Kd.R_types HO_131005.out BK129.out (by decide)) (fun _ hk => hk.2) (.bool a0_0)) (fun _ hk => hk.2) (.int .i64 x131001_1)) (fun _ hk => hk.2) (.int .i64 a0_2)) (fun _ hk => hk.2) (.int .i64 a0_3)) (fun _ hk => hk.2) (.slice Ao104 x131004_1.length co104)) (fun _ hk => hk.2) (.slice Ao105 x131005_2.length co105)) (fun _ hk => hk.1.1), by repeat (first|(with_reducible first|exact HB.out|apply xa|apply xb|apply xc|refine below_set ?_ GE128.out|refine below_set ?_ GE129.out|refine below_set ?_ GE130.out)|exact HB.out), by repeat (first|(with_reducible first|exact HK.out|apply Kept.alloc|apply Kept.drewN|apply Kept.drew|refine Kept.setCell ?_ (.inr GW128.out) _|refine Kept.setCell ?_ (.inr GW129.out) _|refine Kept.setCell ?_ (.inr GW130.out) _)|exact HK.out)⟩

-- NOT PRINTED: function 105 (pinfoldref14_Give)

end Go.Proofs.Ytgiimdoabkcoaaa.PCoa
