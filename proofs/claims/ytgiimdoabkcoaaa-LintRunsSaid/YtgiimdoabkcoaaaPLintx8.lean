/- Functions of the program as Lean functions, and proofs that the code comes to their answers: printed by this session's program. -/
import Derived.Test.YtgiimdoabkcoaaaGStep
import Derived.Test.YtgiimdoabkcoaaaPLintx0
import Derived.Test.YtgiimdoabkcoaaaPLintx1
import Derived.Test.YtgiimdoabkcoaaaPLintx2
import Derived.Test.YtgiimdoabkcoaaaPLintx7
namespace Go.Proofs.Ytgiimdoabkcoaaa.PLint
open Go.RowKit Go.Proofs.YtgiimdoabkcoaaaW.PrintWords Go.Proofs.YtgiimdoabkcoaaaW.PrintLast Go.Proofs.YtgiimdoabkcoaaaW.PrintMore
attribute [local go_sem] max2_int min2_int max_two min_two max_three min_three max_four min_four   -- for this text's walks alone
set_option linter.unusedVariables false
set_option linter.unusedSimpArgs false

-- GIVEN 29 exec_Step

/-! ### pinfoldlaw26_LintRuns: function 6 -/
mutual
def pinfoldlaw26_LintRuns.l0 : Nat → List Bool → Int → Int → Int → List (S41) → Int → Int → Int → Int → Option (Bool)
 | 0, _, _, _, _, _, _, _, _, _ => none
 | k + 1, x5, x6, x19, x241000, x241001, x242000, x242001, x242002, x242003 => if x19 < 100 then (if x6 ≥ (x5.length : Int) then (pinfoldlaw26_LintRuns.j1 k x5 x6 x19 true x241000 x241001 x242000 x242001 x242002 x242003) else (if 0 ≤ x6 then (if x6 < (x5.length : Int) then (pinfoldlaw26_LintRuns.j1 k x5 x6 x19 (!(rdOf false x5 x6)) x241000 x241001 x242000 x242001 x242002 x242003) else (none)) else (none))) else ((pinfoldlaw26_lives.f k).bind fun t247 => (some t247))
def pinfoldlaw26_LintRuns.j1 : Nat → List Bool → Int → Int → Bool → Int → List (S41) → Int → Int → Int → Int → Option (Bool)
 | 0, _, _, _, _, _, _, _, _, _, _ => none
 | k + 1, x5, x6, x19, x31, x241000, x241001, x242000, x242001, x242002, x242003 => if x31 = true then (some false) else ((exec_Step.f x241000 x241001 x6 x242000 x242001 x242002 x242003).bind fun bt249 => (if bt249.2.2.2.2.2.1 = 14 then ((pinfoldlaw26_lives.f k).bind fun t259 => (some t259)) else ((lint_Next.f k x241000 x241001 x6).bind fun t260 => (pinfoldlaw26_LintRuns.l1 k x5 bt249.1 false x19 t260 (t260.length : Int) 0 x241000 x241001 bt249.2.1 bt249.2.2.1 bt249.2.2.2.1 bt249.2.2.2.2.1))))
def pinfoldlaw26_LintRuns.l1 : Nat → List Bool → Int → Bool → Int → List Int → Int → Int → Int → List (S41) → Int → Int → Int → Int → Option (Bool)
 | 0, _, _, _, _, _, _, _, _, _, _, _, _, _ => none
 | k + 1, x5, x7, x10, x19, x45, x46, x47, x241000, x241001, x258000, x258001, x258002, x258003 => if x47 < x46 then (if 0 ≤ x47 then (if x47 < (x45.length : Int) then (if x10 = true then (pinfoldlaw26_LintRuns.l1 k x5 x7 true x19 x45 x46 (wrap64 (x47 + 1)) x241000 x241001 x258000 x258001 x258002 x258003) else (pinfoldlaw26_LintRuns.l1 k x5 x7 ((rd x45 x47) == x7) x19 x45 x46 (wrap64 (x47 + 1)) x241000 x241001 x258000 x258001 x258002 x258003)) else (none)) else (none)) else (if x10 = true then (pinfoldlaw26_LintRuns.l0 k x5 x7 (wrap64 (x19 + 1)) x241000 x241001 x258000 x258001 x258002 x258003) else (some false))
end
def pinfoldlaw26_LintRuns.f (k : Nat) (a0_0 : Int) (l0_1 : List (S41)) (a1_0 : Int) (a1_1 : Int) (a1_2 : Int) (a1_3 : Int) : Option (Bool) := (pinfoldlaw26_fine.f a0_0 l0_1).bind fun t242 => (if t242 = true then ((lint_Reach.f k a0_0 l0_1).bind fun t244 => (pinfoldlaw26_LintRuns.l0 k t244 0 0 a0_0 l0_1 a1_0 a1_1 a1_2 a1_3)) else ((pinfoldlaw26_lives.f k).bind fun t243 => (some t243)))
theorem pinfoldlaw26_LintRuns.mono_l : ∀ k, (∀ y0 y1 y2 y3 y4 y5 y6 y7 y8, LeO (pinfoldlaw26_LintRuns.l0 k y0 y1 y2 y3 y4 y5 y6 y7 y8) (pinfoldlaw26_LintRuns.l0 (k + 1) y0 y1 y2 y3 y4 y5 y6 y7 y8)) ∧ (∀ y0 y1 y2 y3 y4 y5 y6 y7 y8 y9, LeO (pinfoldlaw26_LintRuns.j1 k y0 y1 y2 y3 y4 y5 y6 y7 y8 y9) (pinfoldlaw26_LintRuns.j1 (k + 1) y0 y1 y2 y3 y4 y5 y6 y7 y8 y9)) ∧ (∀ y0 y1 y2 y3 y4 y5 y6 y7 y8 y9 y10 y11 y12, LeO (pinfoldlaw26_LintRuns.l1 k y0 y1 y2 y3 y4 y5 y6 y7 y8 y9 y10 y11 y12) (pinfoldlaw26_LintRuns.l1 (k + 1) y0 y1 y2 y3 y4 y5 y6 y7 y8 y9 y10 y11 y12))
 | 0 => ⟨fun _ _ _ _ _ _ _ _ _ r h => by simp [pinfoldlaw26_LintRuns.l0] at h, fun _ _ _ _ _ _ _ _ _ _ r h => by simp [pinfoldlaw26_LintRuns.j1] at h, fun _ _ _ _ _ _ _ _ _ _ _ _ _ r h => by simp [pinfoldlaw26_LintRuns.l1] at h⟩
 | k + 1 => by
  obtain ⟨ih0, ih1, ih2⟩ := pinfoldlaw26_LintRuns.mono_l k
  refine ⟨?_, ?_, ?_⟩
  ·intro y0 y1 y2 y3 y4 y5 y6 y7 y8
   unfold pinfoldlaw26_LintRuns.l0
   repeat' first
   | (with_reducible exact ih0 _ _ _ _ _ _ _ _ _)
   | (with_reducible exact ih1 _ _ _ _ _ _ _ _ _ _)
   | (with_reducible exact ih2 _ _ _ _ _ _ _ _ _ _ _ _ _)
   | (with_reducible exact lint_Next.mono _ _ _ _)
   | (with_reducible exact lint_Reach.mono _ _ _)
   | (with_reducible exact pinfoldlaw26_lives.mono _)
   | (with_reducible exact LeO.refl _)
   | (with_reducible exact LeO.none _)
   | (with_reducible refine LeO.ite ?_ ?_)
   | (with_reducible refine LeO.bind ?_ (fun _ => ?_))
   | exact ih0 _ _ _ _ _ _ _ _ _
   | exact ih1 _ _ _ _ _ _ _ _ _ _
   | exact ih2 _ _ _ _ _ _ _ _ _ _ _ _ _
   | exact lint_Next.mono _ _ _ _
   | exact lint_Reach.mono _ _ _
   | exact pinfoldlaw26_lives.mono _
   | exact LeO.none _
   | refine LeO.ite ?_ ?_
   | refine LeO.bind ?_ (fun _ => ?_)
  ·intro y0 y1 y2 y3 y4 y5 y6 y7 y8 y9
   unfold pinfoldlaw26_LintRuns.j1
   repeat' first
   | (with_reducible exact ih0 _ _ _ _ _ _ _ _ _)
   | (with_reducible exact ih1 _ _ _ _ _ _ _ _ _ _)
   | (with_reducible exact ih2 _ _ _ _ _ _ _ _ _ _ _ _ _)
   | (with_reducible exact lint_Next.mono _ _ _ _)
   | (with_reducible exact lint_Reach.mono _ _ _)
   | (with_reducible exact pinfoldlaw26_lives.mono _)
   | (with_reducible exact LeO.refl _)
   | (with_reducible exact LeO.none _)
   | (with_reducible refine LeO.ite ?_ ?_)
   | (with_reducible refine LeO.bind ?_ (fun _ => ?_))
   | exact ih0 _ _ _ _ _ _ _ _ _
   | exact ih1 _ _ _ _ _ _ _ _ _ _
   | exact ih2 _ _ _ _ _ _ _ _ _ _ _ _ _
   | exact lint_Next.mono _ _ _ _
   | exact lint_Reach.mono _ _ _
   | exact pinfoldlaw26_lives.mono _
   | exact LeO.none _
   | refine LeO.ite ?_ ?_
   | refine LeO.bind ?_ (fun _ => ?_)
  ·intro y0 y1 y2 y3 y4 y5 y6 y7 y8 y9 y10 y11 y12
   unfold pinfoldlaw26_LintRuns.l1
   repeat' first
   | (with_reducible exact ih0 _ _ _ _ _ _ _ _ _)
   | (with_reducible exact ih1 _ _ _ _ _ _ _ _ _ _)
   | (with_reducible exact ih2 _ _ _ _ _ _ _ _ _ _ _ _ _)
   | (with_reducible exact lint_Next.mono _ _ _ _)
   | (with_reducible exact lint_Reach.mono _ _ _)
   | (with_reducible exact pinfoldlaw26_lives.mono _)
   | (with_reducible exact LeO.refl _)
   | (with_reducible exact LeO.none _)
   | (with_reducible refine LeO.ite ?_ ?_)
   | (with_reducible refine LeO.bind ?_ (fun _ => ?_))
   | exact ih0 _ _ _ _ _ _ _ _ _
   | exact ih1 _ _ _ _ _ _ _ _ _ _
   | exact ih2 _ _ _ _ _ _ _ _ _ _ _ _ _
   | exact lint_Next.mono _ _ _ _
   | exact lint_Reach.mono _ _ _
   | exact pinfoldlaw26_lives.mono _
   | exact LeO.none _
   | refine LeO.ite ?_ ?_
   | refine LeO.bind ?_ (fun _ => ?_)
theorem pinfoldlaw26_LintRuns.mono : ∀ a0 a1 a2 a3 a4 a5 k, LeO (pinfoldlaw26_LintRuns.f k a0 a1 a2 a3 a4 a5) (pinfoldlaw26_LintRuns.f (k + 1) a0 a1 a2 a3 a4 a5) := by
 intro a0 a1 a2 a3 a4 a5 k
 obtain ⟨ih0, ih1, ih2⟩ := pinfoldlaw26_LintRuns.mono_l k
 unfold pinfoldlaw26_LintRuns.f
 repeat' first
   | (with_reducible exact ih0 _ _ _ _ _ _ _ _ _)
   | (with_reducible exact ih1 _ _ _ _ _ _ _ _ _ _)
   | (with_reducible exact ih2 _ _ _ _ _ _ _ _ _ _ _ _ _)
   | (with_reducible exact lint_Next.mono _ _ _ _)
   | (with_reducible exact lint_Reach.mono _ _ _)
   | (with_reducible exact pinfoldlaw26_lives.mono _)
   | (with_reducible exact LeO.refl _)
   | (with_reducible exact LeO.none _)
   | (with_reducible refine LeO.ite ?_ ?_)
   | (with_reducible refine LeO.bind ?_ (fun _ => ?_))
   | exact ih0 _ _ _ _ _ _ _ _ _
   | exact ih1 _ _ _ _ _ _ _ _ _ _
   | exact ih2 _ _ _ _ _ _ _ _ _ _ _ _ _
   | exact lint_Next.mono _ _ _ _
   | exact lint_Reach.mono _ _ _
   | exact pinfoldlaw26_lives.mono _
   | exact LeO.none _
   | refine LeO.ite ?_ ?_
   | refine LeO.bind ?_ (fun _ => ?_)
set_option maxHeartbeats 8000000 in
set_option maxRecDepth 100000 in
theorem pinfoldlaw26_LintRuns.calls (k : Nat) (a0_0 : Int) (A0_1 : Option Addr) (c0_1 : Nat) (l0_1 : List (S41)) (a1_0 : Int) (a1_1 : Int) (a1_2 : Int) (a1_3 : Int) (r : Bool) (w : World) (hr0_1 : Kd.C k41 w A0_1 l0_1.length l0_1) (hc0_1 : l0_1.length ≤ c0_1) (h : pinfoldlaw26_LintRuns.f k a0_0 l0_1 a1_0 a1_1 a1_2 a1_3 = some r) :
  Calls Try.prog 6 #[.agg #[.int .i64 a0_0, .slice A0_1 l0_1.length c0_1], .agg #[.int .i32 a1_0, .int .i32 a1_1, .int .i32 a1_2, .int .i32 a1_3]] w fun e w' => e = .returned (.bool r) ∧ Below w.heap.size w w' := by
 have hu24 := Try.underlying24
 have hu44 := Try.underlying44
 have hu46 := Try.underlying46
 have HR0_1 := Aside0.mk hr0_1
 have HC0_1 := Aside0.mk hc0_1
 clear hr0_1 hc0_1
 have HB := Aside0.mk (Below.refl w.heap.size w)
 have H : ((pinfoldlaw26_fine.f a0_0 l0_1).bind fun t242 => (if t242 = true then ((lint_Reach.f k a0_0 l0_1).bind fun t244 => (pinfoldlaw26_LintRuns.l0 k t244 0 0 a0_0 l0_1 a1_0 a1_1 a1_2 a1_3)) else ((pinfoldlaw26_lives.f k).bind fun t243 => (some t243)))) = some r := h
 clear h
 replace H := Option.bind_eq_some_iff.mp H
 obtain ⟨t242, A30, H⟩ := H
 replace H : (if t242 = true then ((lint_Reach.f k a0_0 l0_1).bind fun t244 => (pinfoldlaw26_LintRuns.l0 k t244 0 0 a0_0 l0_1 a1_0 a1_1 a1_2 a1_3)) else ((pinfoldlaw26_lives.f k).bind fun t243 => (some t243))) = some r := H
 have A3 := Aside0.mk A30
 clear A30
 by_cases c4 : t242 = true
 ·subst c4
  have H1 : ((lint_Reach.f k a0_0 l0_1).bind fun t244 => (pinfoldlaw26_LintRuns.l0 k t244 0 0 a0_0 l0_1 a1_0 a1_1 a1_2 a1_3)) = some r := by rw [if_pos rfl] at H;exact H
  clear H
  have H := H1
  clear H1
  replace H := Option.bind_eq_some_iff.mp H
  obtain ⟨t244, A50, H⟩ := H
  replace H : (pinfoldlaw26_LintRuns.l0 k t244 0 0 a0_0 l0_1 a1_0 a1_1 a1_2 a1_3) = some r := H
  have A5 := Aside0.mk A50
  clear A50
  have H' := Aside0.mk H
  clear H
  go_enter Try.func6, Try.ntmps6
  go_wp2_with (first|((with_reducible refine gate_dst (N := 2) rfl ?_);refine box_event ?hg (N := 2) ?hd (cs := #[.int .i64 a0_0, .slice A0_1 l0_1.length c0_1]) (t := 24) ?hr ?_;(case hd => rfl);(case hg => rfl);(case hr => first|(go_simp;done)|(go_simp;rfl));intro gb240 hg w6 hbox hb;have n0_ := Aside0.mk (below_step (by repeat (with_reducible first|exact HB.out|apply xa|apply xb|apply xc)) hb);have n1_ := Aside0.mk (hbox);have n2_ := Aside0.mk ((by rw [hg];exact (below_size (by repeat (with_reducible first|exact HB.out|apply xa|apply xb|apply xc))) : w.heap.size ≤ gb240));have n3_ := Aside0.mk ((by rw [hg];exact (below_size (by repeat (with_reducible first|exact HB.out|apply xa|apply xb|apply xc))) : w.heap.size ≤ gb240));clear HB;have HB := n0_;have BK240 := n1_;have GW240 := n2_;have GE240 := n3_;clear n0_ n1_ n2_ n3_;clear hb hbox hg)|((with_reducible refine gate_dst (N := 3) rfl ?_);refine box_event ?hg (N := 3) ?hd (cs := #[.int .i32 a1_0, .int .i32 a1_1, .int .i32 a1_2, .int .i32 a1_3]) (t := 44) ?hr ?_;(case hd => rfl);(case hg => rfl);(case hr => first|(go_simp;done)|(go_simp;rfl));intro gb241 hg w7 hbox hb;have n0_ := Aside0.mk (blk_below (g := gb240) (o := .cells #[.int .i64 a0_0, .slice A0_1 l0_1.length c0_1] 24 (0, 0)) (by (with_reducible repeat (first|apply blk_drewN|apply blk_drew|apply blk_alloc));exact BK240.out) hb);have n1_ := Aside0.mk (below_step (by repeat (first|(with_reducible first|exact HB.out|apply xa|apply xb|apply xc|refine below_set ?_ GE240.out)|exact HB.out)) hb);have n2_ := Aside0.mk (hbox);have n3_ := Aside0.mk ((by rw [hg];exact (below_size (by repeat (first|(with_reducible first|exact HB.out|apply xa|apply xb|apply xc|refine below_set ?_ GE240.out)|exact HB.out))) : w.heap.size ≤ gb241));have n4_ := Aside0.mk ((by rw [hg];exact (below_size (by repeat (first|(with_reducible first|exact HB.out|apply xa|apply xb|apply xc|refine below_set ?_ GE240.out)|exact HB.out))) : w.heap.size ≤ gb241));have n5_ := Aside0.mk ((by rw [hg];exact Nat.ne_of_lt (blk_lt (g := gb240) (o := .cells #[.int .i64 a0_0, .slice A0_1 l0_1.length c0_1] 24 (0, 0)) (by (with_reducible repeat (first|apply blk_drewN|apply blk_drew|apply blk_alloc));exact BK240.out)) : gb240 ≠ gb241));have n6_ := Aside0.mk ((by rw [hg];exact Nat.ne_of_gt (blk_lt (g := gb240) (o := .cells #[.int .i64 a0_0, .slice A0_1 l0_1.length c0_1] 24 (0, 0)) (by (with_reducible repeat (first|apply blk_drewN|apply blk_drew|apply blk_alloc));exact BK240.out)) : gb241 ≠ gb240));clear BK240;clear HB;have BK240 := n0_;have HB := n1_;have BK241 := n2_;have GW241 := n3_;have GE241 := n4_;have NB240_241 := n5_;have NB241_240 := n6_;clear n0_ n1_ n2_ n3_ n4_ n5_ n6_;clear hb hbox hg;have hnb8 := NB240_241.out;have hnc8 := NB241_240.out;have hcz9_0 : w7.cell? ⟨gb240, 0, none⟩ = some (.int .i64 a0_0) := (blk_cell BK240.out 0).trans rfl;have hcz9_1 : w7.cell? ⟨gb240, 1, none⟩ = some (.slice A0_1 l0_1.length c0_1) := (blk_cell BK240.out 1).trans rfl;have hfz9_0 := blk_frozen BK240.out 0;have hfz9_1 := blk_frozen BK240.out 1)|((with_reducible refine gate_callee (f := 15) rfl ?_);refine goesL_ (some 14) rfl rfl Try.func15 (by kernel_rfl) rfl #[.agg #[.int .i64 a0_0, .slice A0_1 l0_1.length c0_1]] rfl (by (try simp only [List.map_toArray, List.map_cons, List.map_nil]);first|done|rfl|(simp only [List.length_drop, List.length_take];rfl)) ?_;(with_reducible refine (pinfoldlaw26_fine.calls a0_0 _ _ l0_1 true _ ?side1 ?side2 A3.out).mono ?_);(case side1 => repeat (first|exact (Kd.C_below HR0_1.out HB.out)|(with_reducible refine Kd.C_alloc ?_ _)|(with_reducible refine Kd.C_drewN ?_ _)|(with_reducible refine Kd.C_drew ?_)));(case side2 => exact HC0_1.out);rintro e w10 ⟨rfl, hb⟩;refine ⟨_, rfl, ?_⟩;have n0_ := Aside0.mk (blk_below (g := gb240) (o := .cells #[.int .i64 a0_0, .slice A0_1 l0_1.length c0_1] 24 (0, 0)) (by (with_reducible repeat (first|apply blk_drewN|apply blk_drew|apply blk_alloc));exact BK240.out) hb);have n1_ := Aside0.mk (blk_below (g := gb241) (o := .cells #[.int .i32 a1_0, .int .i32 a1_1, .int .i32 a1_2, .int .i32 a1_3] 44 (0, 0)) (by (with_reducible repeat (first|apply blk_drewN|apply blk_drew|apply blk_alloc));exact BK241.out) hb);have n2_ := Aside0.mk (below_step (by repeat (first|(with_reducible first|exact HB.out|apply xa|apply xb|apply xc|refine below_set ?_ GE240.out|refine below_set ?_ GE241.out)|exact HB.out)) hb);clear BK240;clear BK241;clear HB;have BK240 := n0_;have BK241 := n1_;have HB := n2_;clear n0_ n1_ n2_;(try clear hb);(try clear hb2);(try clear hk);(try clear hi);have hcz11_0 : w10.cell? ⟨gb240, 0, none⟩ = some (.int .i64 a0_0) := (blk_cell BK240.out 0).trans rfl;have hcz11_1 : w10.cell? ⟨gb240, 1, none⟩ = some (.slice A0_1 l0_1.length c0_1) := (blk_cell BK240.out 1).trans rfl;have hfz11_0 := blk_frozen BK240.out 0;have hfz11_1 := blk_frozen BK240.out 1)|((with_reducible refine gate_callee (f := 19) rfl ?_);refine goesL_ (some 18) rfl rfl Try.func19 (by kernel_rfl) rfl #[.agg #[.int .i64 a0_0, .slice A0_1 l0_1.length c0_1]] rfl (by (try simp only [List.map_toArray, List.map_cons, List.map_nil]);first|done|rfl|(simp only [List.length_drop, List.length_take];rfl)) ?_;(with_reducible refine (lint_Reach.calls k a0_0 _ _ l0_1 t244 _ ?side1 ?side2 A5.out).mono ?_);(case side1 => repeat (first|exact (Kd.C_below HR0_1.out HB.out)|(with_reducible refine Kd.C_alloc ?_ _)|(with_reducible refine Kd.C_drewN ?_ _)|(with_reducible refine Kd.C_drew ?_)));(case side2 => exact HC0_1.out);rintro e w12 ⟨v245, rfl, ho0, hb⟩;refine ⟨_, rfl, ?_⟩;have n0_ := Aside0.mk (Kd.R_lower ho0 (below_size (by repeat (first|(with_reducible first|exact HB.out|apply xa|apply xb|apply xc|refine below_set ?_ GE240.out|refine below_set ?_ GE241.out)|exact HB.out))));have n1_ := Aside0.mk (blk_below (g := gb240) (o := .cells #[.int .i64 a0_0, .slice A0_1 l0_1.length c0_1] 24 (0, 0)) (by (with_reducible repeat (first|apply blk_drewN|apply blk_drew|apply blk_alloc));exact BK240.out) hb);have n2_ := Aside0.mk (blk_below (g := gb241) (o := .cells #[.int .i32 a1_0, .int .i32 a1_1, .int .i32 a1_2, .int .i32 a1_3] 44 (0, 0)) (by (with_reducible repeat (first|apply blk_drewN|apply blk_drew|apply blk_alloc));exact BK241.out) hb);have n3_ := Aside0.mk (below_step (by repeat (first|(with_reducible first|exact HB.out|apply xa|apply xb|apply xc|refine below_set ?_ GE240.out|refine below_set ?_ GE241.out)|exact HB.out)) hb);clear BK240;clear BK241;clear HB;have HO246 := n0_;have BK240 := n1_;have BK241 := n2_;have HB := n3_;clear n0_ n1_ n2_ n3_;(try clear hb);(try clear hb2);(try clear hk);(try clear hi);(try clear ho0)))
  go_loopg [6, 19] k (fun kq v6 v19 w' => ∃ (x6_1 : Int) (x19_1 : Int) (x242000_1 : Int) (x242001_1 : Int) (x242002_1 : Int) (x242003_1 : Int), v6 = .int .i64 x6_1 ∧ v19 = .int .i64 x19_1 ∧ Aside0 (pinfoldlaw26_LintRuns.l0 kq t244 x6_1 x19_1 a0_0 l0_1 x242000_1 x242001_1 x242002_1 x242003_1 = some r) ∧ Aside0 (kq ≤ k) ∧ Aside0 (Kd.R Kd.bool 4 w' w.heap.size (fun _ => True) v245 t244) ∧ Aside0 (w'.heap[gb240]? = some (.cells #[.int .i64 a0_0, (.slice A0_1 l0_1.length c0_1)] 24 (0, 0))) ∧ Aside0 (w'.heap[gb241]? = some (.cells #[.int .i32 x242000_1, .int .i32 x242001_1, .int .i32 x242002_1, .int .i32 x242003_1] 44 (0, 0))) ∧ Aside0 (Below w.heap.size w w'))
  case atStart => exact ⟨(0), (0), (a1_0), (a1_1), (a1_2), (a1_3), (by first|rfl|(simp;done)|(simp [*];done)), (by first|rfl|(simp;done)|(simp [*];done)), H', ⟨Nat.le_refl _⟩, ⟨by (with_reducible repeat (first|apply Kd.R_alloc|apply Kd.R_drewN|apply Kd.R_drew));exact HO246.out⟩, ⟨by (with_reducible repeat (first|apply blk_drewN|apply blk_drew|apply blk_alloc));exact BK240.out⟩, ⟨by (with_reducible repeat (first|apply blk_drewN|apply blk_drew|apply blk_alloc));exact BK241.out⟩, ⟨by repeat (first|(with_reducible first|exact HB.out|apply xa|apply xb|apply xc|refine below_set ?_ GE240.out|refine below_set ?_ GE241.out)|exact HB.out)⟩⟩
  case round =>
   clear H'
   try clear c1
   try clear p2
   try clear c4
   try clear c6
   try clear c8
   try clear hcz11_0
   try clear hcz11_1
   try clear hcz9_0
   try clear hcz9_1
   try clear hfz11_0
   try clear hfz11_1
   try clear hfz9_0
   try clear hfz9_1
   obtain ⟨x6_1, x19_1, x242000_1, x242001_1, x242002_1, x242003_1, rfl, rfl, HA, HK1, HO_5, BK240, BK241, HB⟩ := hrel
   cases gk with
   | zero => exact absurd HA.out (by simp [pinfoldlaw26_LintRuns.l0])
   | succ k1 =>
    have H := HA.out
    clear HA
    simp only [pinfoldlaw26_LintRuns.l0] at H
    by_cases c13 : x19_1 < 100
    ·rw [if_pos c13] at H
     have c13b0 : decide (x19_1 < 100) = true := decide_eq_true c13
     clear c13
     have HC14 := Aside0.mk H
     clear H
     go_upto_region 7 with (fail)
     go_cut [31] (fun v31 wc => ∃ (kq : Nat) (x31_13 : Bool), v31 = .bool x31_13 ∧ Aside0 (pinfoldlaw26_LintRuns.j1 kq t244 x6_1 x19_1 x31_13 a0_0 l0_1 x242000_1 x242001_1 x242002_1 x242003_1 = some r) ∧ Aside0 (kq ≤ k1) ∧ Aside0 (Kd.R Kd.bool 4 wc w.heap.size (fun _ => True) v245 t244) ∧ Aside0 (wc.heap[gb240]? = some (.cells #[.int .i64 a0_0, (.slice A0_1 l0_1.length c0_1)] 24 (0, 0))) ∧ Aside0 (wc.heap[gb241]? = some (.cells #[.int .i32 x242000_1, .int .i32 x242001_1, .int .i32 x242002_1, .int .i32 x242003_1] 44 (0, 0))) ∧ Aside0 (Below w.heap.size w wc))
     case first =>
      have H := HC14.out
      clear HC14
      by_cases c15 : x6_1 ≥ (t244.length : Int)
      ·rw [if_pos c15] at H
       have c15b0 : decide ((t244.length : Int) ≤ x6_1) = true := decide_eq_true c15
       clear c15
       (first|rw [c15b0]|(simp only [i64_w, i32_w];rw [c15b0])|skip)
       have H' := Aside0.mk H
       clear H
       obtain ⟨Ao16, co16, eo16⟩ := Kd.R_slice HO_5.out
       subst eo16
       go_wp2
       go_meet
       case rel => exact ⟨_, (true), (by first|rfl|(simp;done)|(simp [*];done)), H', ⟨by have := HK1.out;first|omega|exact Nat.le_refl _⟩, ⟨by (with_reducible repeat (first|apply Kd.R_alloc|apply Kd.R_drewN|apply Kd.R_drew));exact HO_5.out⟩, ⟨by (with_reducible repeat (first|apply blk_drewN|apply blk_drew|apply blk_alloc));exact BK240.out⟩, ⟨by (with_reducible repeat (first|apply blk_drewN|apply blk_drew|apply blk_alloc));exact BK241.out⟩, ⟨by repeat (first|(with_reducible first|exact HB.out|apply xa|apply xb|apply xc|refine below_set ?_ GE240.out|refine below_set ?_ GE241.out)|exact HB.out)⟩⟩
      ·rw [if_neg c15] at H
       have c15b0 : decide ((t244.length : Int) ≤ x6_1) = false := decide_eq_false c15
       clear c15
       (first|rw [c15b0]|(simp only [i64_w, i32_w];rw [c15b0])|skip)
       by_cases c17 : 0 ≤ x6_1
       ·rw [if_pos c17] at H
        have c17b0 : decide (0 ≤ x6_1) = true := decide_eq_true c17
        clear c17
        by_cases c18 : x6_1 < (t244.length : Int)
        ·rw [if_pos c18] at H
         have c18b0 : decide (x6_1 < (t244.length : Int)) = true := decide_eq_true c18
         clear c18
         have H' := Aside0.mk H
         clear H
         obtain ⟨Ao19, co19, eo19⟩ := Kd.R_slice HO_5.out
         subst eo19
         have p248 : 0 ≤ (x6_1 : Int) := of_decide_eq_true (by assumption)
         have q248 : x6_1 < (t244.length : Int) := of_decide_eq_true (by assumption)
         obtain ⟨ad248, e248, hx248_0⟩ := Kd.at_bool (Kd.R_reads' HO_5.out).2.2 x6_1 p248 q248
         cases e248
         replace p248 := eq_true p248
         replace q248 := eq_true q248
         go_wp2
         go_meet
         case rel => exact ⟨_, (!(rdOf false t244 x6_1)), (by first|rfl|(simp;done)|(simp [*];done)), H', ⟨by have := HK1.out;first|omega|exact Nat.le_refl _⟩, ⟨by (with_reducible repeat (first|apply Kd.R_alloc|apply Kd.R_drewN|apply Kd.R_drew));exact HO_5.out⟩, ⟨by (with_reducible repeat (first|apply blk_drewN|apply blk_drew|apply blk_alloc));exact BK240.out⟩, ⟨by (with_reducible repeat (first|apply blk_drewN|apply blk_drew|apply blk_alloc));exact BK241.out⟩, ⟨by repeat (first|(with_reducible first|exact HB.out|apply xa|apply xb|apply xc|refine below_set ?_ GE240.out|refine below_set ?_ GE241.out)|exact HB.out)⟩⟩
        ·rw [if_neg c18] at H
         exact absurd H (by simp)
       ·rw [if_neg c17] at H
        exact absurd H (by simp)
     case rest =>
      clear HC14
      try clear c1
      try clear p2
      try clear q2
      try clear hx2
      try clear c4
      try clear c6
      try clear c8
      try clear c13
      try clear c13b0
      try clear c15
      try clear c15b0
      try clear c17
      try clear c17b0
      try clear c18
      try clear c18b0
      try clear c19
      try clear hcz11_0
      try clear hcz11_1
      try clear hcz9_0
      try clear hcz9_1
      try clear hfz11_0
      try clear hfz11_1
      try clear hfz9_0
      try clear hfz9_1
      try clear hx248_0
      try clear p2
      try clear p248
      try clear q248
      obtain ⟨kq, x31_13, rfl, HA, HJ13, HO_5, BK240, BK241, HB⟩ := hcut
      cases kq with
      | zero => exact absurd HA.out (by simp [pinfoldlaw26_LintRuns.j1])
      | succ kj13 =>
       have H := HA.out
       clear HA
       simp only [pinfoldlaw26_LintRuns.j1] at H
       by_cases c20 : x31_13 = true
       ·subst c20
        have H1 : (some false) = some r := by rw [if_pos rfl] at H;exact H
        clear H
        have H := H1
        clear H1
        obtain rfl := Option.some.inj H
        go_wp2
        go_ret
        exact ⟨by first|rfl|(simp [errW_none, errW_some] <;> rfl)|(simp [*, errW_none, errW_some] <;> rfl), by repeat (first|(with_reducible first|exact HB.out|apply xa|apply xb|apply xc|refine below_set ?_ GE240.out|refine below_set ?_ GE241.out)|exact HB.out)⟩
       ·replace c20 := Bool.eq_false_iff.mpr c20
        subst c20
        have H1 : ((exec_Step.f a0_0 l0_1 x6_1 x242000_1 x242001_1 x242002_1 x242003_1).bind fun bt249 => (if bt249.2.2.2.2.2.1 = 14 then ((pinfoldlaw26_lives.f kj13).bind fun t259 => (some t259)) else ((lint_Next.f kj13 a0_0 l0_1 x6_1).bind fun t260 => (pinfoldlaw26_LintRuns.l1 kj13 t244 bt249.1 false x19_1 t260 (t260.length : Int) 0 a0_0 l0_1 bt249.2.1 bt249.2.2.1 bt249.2.2.2.1 bt249.2.2.2.2.1)))) = some r := by rw [if_neg (show ¬ (false = true) by decide)] at H;exact H
        clear H
        have H := H1
        clear H1
        replace H := Option.bind_eq_some_iff.mp H
        obtain ⟨⟨t249, t250, t251, t252, t253, t254, t255, t256⟩, A210, H⟩ := H
        replace H : (if t254 = 14 then ((pinfoldlaw26_lives.f kj13).bind fun t259 => (some t259)) else ((lint_Next.f kj13 a0_0 l0_1 x6_1).bind fun t260 => (pinfoldlaw26_LintRuns.l1 kj13 t244 t249 false x19_1 t260 (t260.length : Int) 0 a0_0 l0_1 t250 t251 t252 t253))) = some r := H
        have A21 := Aside0.mk A210
        clear A210
        by_cases c22 : t254 = 14
        ·rw [if_pos c22] at H
         have c22b0 : (t254 == 14) = true := beq_iff_eq.mpr c22
         have c22b1 : (t254 != 14) = false := bne_eq_false_iff_eq.mpr c22
         clear c22
         replace H := Option.bind_eq_some_iff.mp H
         obtain ⟨t259, A230, H⟩ := H
         replace H : (some t259) = some r := H
         have A23 := Aside0.mk A230
         clear A230
         obtain rfl := Option.some.inj H
         have hnb24 := NB240_241.out
         have hnc24 := NB241_240.out
         have hcz25_0 : wc.cell? ⟨gb240, 0, none⟩ = some (.int .i64 a0_0) := (blk_cell BK240.out 0).trans rfl
         have hcz25_1 : wc.cell? ⟨gb240, 1, none⟩ = some (.slice A0_1 l0_1.length c0_1) := (blk_cell BK240.out 1).trans rfl
         have hfz25_0 := blk_frozen BK240.out 0
         have hfz25_1 := blk_frozen BK240.out 1
         have hcz26_0 : wc.cell? ⟨gb241, 0, none⟩ = some (.int .i32 x242000_1) := (blk_cell BK241.out 0).trans rfl
         have hcz26_1 : wc.cell? ⟨gb241, 1, none⟩ = some (.int .i32 x242001_1) := (blk_cell BK241.out 1).trans rfl
         have hcz26_2 : wc.cell? ⟨gb241, 2, none⟩ = some (.int .i32 x242002_1) := (blk_cell BK241.out 2).trans rfl
         have hcz26_3 : wc.cell? ⟨gb241, 3, none⟩ = some (.int .i32 x242003_1) := (blk_cell BK241.out 3).trans rfl
         have hfz26_0 := blk_frozen BK241.out 0
         have hfz26_1 := blk_frozen BK241.out 1
         have hfz26_2 := blk_frozen BK241.out 2
         have hfz26_3 := blk_frozen BK241.out 3
         go_wp2_with (first|((with_reducible refine gate_callee (f := 29) rfl ?_);refine goesL_ (some 36) rfl rfl Try.func29 (by kernel_rfl) rfl #[.agg #[.int .i64 a0_0, .slice A0_1 l0_1.length c0_1], .int .i64 x6_1, .agg #[.int .i32 x242000_1, .int .i32 x242001_1, .int .i32 x242002_1, .int .i32 x242003_1]] rfl (by (try simp only [List.map_toArray, List.map_cons, List.map_nil]);first|done|rfl|(simp only [List.length_drop, List.length_take];rfl)) ?_;(with_reducible refine (exec_Step.calls a0_0 _ _ l0_1 x6_1 x242000_1 x242001_1 x242002_1 x242003_1 t249 t250 t251 t252 t253 t254 t255 t256 _ ?side1 ?side2 A21.out).mono ?_);(case side1 => repeat (first|exact (Kd.C_below HR0_1.out HB.out)|(with_reducible refine Kd.C_alloc ?_ _)|(with_reducible refine Kd.C_drewN ?_ _)|(with_reducible refine Kd.C_drew ?_)));(case side2 => exact HC0_1.out);rintro e w27 ⟨rfl, hb⟩;refine ⟨_, rfl, ?_⟩;have n0_ := Aside0.mk (Kd.R_below (by (with_reducible repeat (first|apply Kd.R_alloc|apply Kd.R_drewN|apply Kd.R_drew));exact HO_5.out) hb);have n1_ := Aside0.mk (blk_below (g := gb240) (o := .cells #[.int .i64 a0_0, .slice A0_1 l0_1.length c0_1] 24 (0, 0)) (by (with_reducible repeat (first|apply blk_drewN|apply blk_drew|apply blk_alloc));exact BK240.out) hb);have n2_ := Aside0.mk (blk_below (g := gb241) (o := .cells #[.int .i32 x242000_1, .int .i32 x242001_1, .int .i32 x242002_1, .int .i32 x242003_1] 44 (0, 0)) (by (with_reducible repeat (first|apply blk_drewN|apply blk_drew|apply blk_alloc));exact BK241.out) hb);have n3_ := Aside0.mk (below_step (by repeat (first|(with_reducible first|exact HB.out|apply xa|apply xb|apply xc|refine below_set ?_ GE240.out|refine below_set ?_ GE241.out)|exact HB.out)) hb);clear HO_5;clear BK240;clear BK241;clear HB;have HO_5 := n0_;have BK240 := n1_;have BK241 := n2_;have HB := n3_;clear n0_ n1_ n2_ n3_;(try clear hb);(try clear hb2);(try clear hk);(try clear hi))|((with_reducible refine gate_dst (N := 8) rfl ?_);refine box_event ?hg (N := 8) ?hd (cs := #[.int .i32 0, .int .i32 0, .int .i32 0, .int .i32 0]) (t := 44) ?hr ?_;(case hd => rfl);(case hg => rfl);(case hr => first|(go_simp;done)|(go_simp;rfl));intro gb257 hg w28 hbox hb;have n0_ := Aside0.mk (Kd.R_below (by (with_reducible repeat (first|apply Kd.R_alloc|apply Kd.R_drewN|apply Kd.R_drew));exact HO_5.out) hb);have n1_ := Aside0.mk (blk_below (g := gb240) (o := .cells #[.int .i64 a0_0, .slice A0_1 l0_1.length c0_1] 24 (0, 0)) (by (with_reducible repeat (first|apply blk_drewN|apply blk_drew|apply blk_alloc));exact BK240.out) hb);have n2_ := Aside0.mk (blk_below (g := gb241) (o := .cells #[.int .i32 x242000_1, .int .i32 x242001_1, .int .i32 x242002_1, .int .i32 x242003_1] 44 (0, 0)) (by (with_reducible repeat (first|apply blk_drewN|apply blk_drew|apply blk_alloc));exact BK241.out) hb);have n3_ := Aside0.mk (below_step (by repeat (first|(with_reducible first|exact HB.out|apply xa|apply xb|apply xc|refine below_set ?_ GE240.out|refine below_set ?_ GE241.out)|exact HB.out)) hb);have n4_ := Aside0.mk (hbox);have n5_ := Aside0.mk ((by rw [hg];exact (below_size (by repeat (first|(with_reducible first|exact HB.out|apply xa|apply xb|apply xc|refine below_set ?_ GE240.out|refine below_set ?_ GE241.out)|exact HB.out))) : w.heap.size ≤ gb257));have n6_ := Aside0.mk ((by rw [hg];exact (below_size (by repeat (first|(with_reducible first|exact HB.out|apply xa|apply xb|apply xc|refine below_set ?_ GE240.out|refine below_set ?_ GE241.out)|exact HB.out))) : w.heap.size ≤ gb257));have n7_ := Aside0.mk ((by rw [hg];exact Nat.ne_of_lt (blk_lt (g := gb240) (o := .cells #[.int .i64 a0_0, .slice A0_1 l0_1.length c0_1] 24 (0, 0)) (by (with_reducible repeat (first|apply blk_drewN|apply blk_drew|apply blk_alloc));exact BK240.out)) : gb240 ≠ gb257));have n8_ := Aside0.mk ((by rw [hg];exact Nat.ne_of_gt (blk_lt (g := gb240) (o := .cells #[.int .i64 a0_0, .slice A0_1 l0_1.length c0_1] 24 (0, 0)) (by (with_reducible repeat (first|apply blk_drewN|apply blk_drew|apply blk_alloc));exact BK240.out)) : gb257 ≠ gb240));have n9_ := Aside0.mk ((by rw [hg];exact Nat.ne_of_lt (blk_lt (g := gb241) (o := .cells #[.int .i32 x242000_1, .int .i32 x242001_1, .int .i32 x242002_1, .int .i32 x242003_1] 44 (0, 0)) (by (with_reducible repeat (first|apply blk_drewN|apply blk_drew|apply blk_alloc));exact BK241.out)) : gb241 ≠ gb257));have n10_ := Aside0.mk ((by rw [hg];exact Nat.ne_of_gt (blk_lt (g := gb241) (o := .cells #[.int .i32 x242000_1, .int .i32 x242001_1, .int .i32 x242002_1, .int .i32 x242003_1] 44 (0, 0)) (by (with_reducible repeat (first|apply blk_drewN|apply blk_drew|apply blk_alloc));exact BK241.out)) : gb257 ≠ gb241));clear HO_5;clear BK240;clear BK241;clear HB;have HO_5 := n0_;have BK240 := n1_;have BK241 := n2_;have HB := n3_;have BK257 := n4_;have GW257 := n5_;have GE257 := n6_;have NB240_257 := n7_;have NB257_240 := n8_;have NB241_257 := n9_;have NB257_241 := n10_;clear n0_ n1_ n2_ n3_ n4_ n5_ n6_ n7_ n8_ n9_ n10_;clear hb hbox hg)|((with_reducible refine gate_dst (N := 9) rfl ?_);refine box_event ?hg (N := 9) ?hd (cs := #[.int .i64 0, .int .i64 0, .int .i32 0]) (t := 46) ?hr ?_;(case hd => rfl);(case hg => rfl);(case hr => first|(go_simp;done)|(go_simp;rfl));intro gb258 hg w29 hbox hb;have n0_ := Aside0.mk (Kd.R_below (by (with_reducible repeat (first|apply Kd.R_alloc|apply Kd.R_drewN|apply Kd.R_drew));exact HO_5.out) hb);have n1_ := Aside0.mk (blk_below (g := gb240) (o := .cells #[.int .i64 a0_0, .slice A0_1 l0_1.length c0_1] 24 (0, 0)) (by (with_reducible repeat (first|apply blk_drewN|apply blk_drew|apply blk_alloc));exact BK240.out) hb);have n2_ := Aside0.mk (blk_below (g := gb241) (o := .cells #[.int .i32 x242000_1, .int .i32 x242001_1, .int .i32 x242002_1, .int .i32 x242003_1] 44 (0, 0)) (by (with_reducible repeat (first|apply blk_drewN|apply blk_drew|apply blk_alloc));exact BK241.out) hb);have n3_ := Aside0.mk (blk_below (g := gb257) (o := .cells #[.int .i32 0, .int .i32 0, .int .i32 0, .int .i32 0] 44 (0, 0)) (by (with_reducible repeat (first|apply blk_drewN|apply blk_drew|apply blk_alloc));exact BK257.out) hb);have n4_ := Aside0.mk (below_step (by repeat (first|(with_reducible first|exact HB.out|apply xa|apply xb|apply xc|refine below_set ?_ GE240.out|refine below_set ?_ GE241.out|refine below_set ?_ GE257.out)|exact HB.out)) hb);have n5_ := Aside0.mk (hbox);have n6_ := Aside0.mk ((by rw [hg];exact (below_size (by repeat (first|(with_reducible first|exact HB.out|apply xa|apply xb|apply xc|refine below_set ?_ GE240.out|refine below_set ?_ GE241.out|refine below_set ?_ GE257.out)|exact HB.out))) : w.heap.size ≤ gb258));have n7_ := Aside0.mk ((by rw [hg];exact (below_size (by repeat (first|(with_reducible first|exact HB.out|apply xa|apply xb|apply xc|refine below_set ?_ GE240.out|refine below_set ?_ GE241.out|refine below_set ?_ GE257.out)|exact HB.out))) : w.heap.size ≤ gb258));have n8_ := Aside0.mk ((by rw [hg];exact Nat.ne_of_lt (blk_lt (g := gb240) (o := .cells #[.int .i64 a0_0, .slice A0_1 l0_1.length c0_1] 24 (0, 0)) (by (with_reducible repeat (first|apply blk_drewN|apply blk_drew|apply blk_alloc));exact BK240.out)) : gb240 ≠ gb258));have n9_ := Aside0.mk ((by rw [hg];exact Nat.ne_of_gt (blk_lt (g := gb240) (o := .cells #[.int .i64 a0_0, .slice A0_1 l0_1.length c0_1] 24 (0, 0)) (by (with_reducible repeat (first|apply blk_drewN|apply blk_drew|apply blk_alloc));exact BK240.out)) : gb258 ≠ gb240));have n10_ := Aside0.mk ((by rw [hg];exact Nat.ne_of_lt (blk_lt (g := gb241) (o := .cells #[.int .i32 x242000_1, .int .i32 x242001_1, .int .i32 x242002_1, .int .i32 x242003_1] 44 (0, 0)) (by (with_reducible repeat (first|apply blk_drewN|apply blk_drew|apply blk_alloc));exact BK241.out)) : gb241 ≠ gb258));have n11_ := Aside0.mk ((by rw [hg];exact Nat.ne_of_gt (blk_lt (g := gb241) (o := .cells #[.int .i32 x242000_1, .int .i32 x242001_1, .int .i32 x242002_1, .int .i32 x242003_1] 44 (0, 0)) (by (with_reducible repeat (first|apply blk_drewN|apply blk_drew|apply blk_alloc));exact BK241.out)) : gb258 ≠ gb241));have n12_ := Aside0.mk ((by rw [hg];exact Nat.ne_of_lt (blk_lt (g := gb257) (o := .cells #[.int .i32 0, .int .i32 0, .int .i32 0, .int .i32 0] 44 (0, 0)) (by (with_reducible repeat (first|apply blk_drewN|apply blk_drew|apply blk_alloc));exact BK257.out)) : gb257 ≠ gb258));have n13_ := Aside0.mk ((by rw [hg];exact Nat.ne_of_gt (blk_lt (g := gb257) (o := .cells #[.int .i32 0, .int .i32 0, .int .i32 0, .int .i32 0] 44 (0, 0)) (by (with_reducible repeat (first|apply blk_drewN|apply blk_drew|apply blk_alloc));exact BK257.out)) : gb258 ≠ gb257));clear HO_5;clear BK240;clear BK241;clear BK257;clear HB;have HO_5 := n0_;have BK240 := n1_;have BK241 := n2_;have BK257 := n3_;have HB := n4_;have BK258 := n5_;have GW258 := n6_;have GE258 := n7_;have NB240_258 := n8_;have NB258_240 := n9_;have NB241_258 := n10_;have NB258_241 := n11_;have NB257_258 := n12_;have NB258_257 := n13_;clear n0_ n1_ n2_ n3_ n4_ n5_ n6_ n7_ n8_ n9_ n10_ n11_ n12_ n13_;clear hb hbox hg;have hnb30 := NB257_240.out;have hnc30 := NB240_257.out;have hnb31 := NB257_241.out;have hnc31 := NB241_257.out;have hnb32 := NB257_258.out;have hnc32 := NB258_257.out;have hcz33_0 : w29.cell? ⟨gb257, 0, none⟩ = some (.int .i32 0) := (blk_cell BK257.out 0).trans rfl;have hcz33_1 : w29.cell? ⟨gb257, 1, none⟩ = some (.int .i32 0) := (blk_cell BK257.out 1).trans rfl;have hcz33_2 : w29.cell? ⟨gb257, 2, none⟩ = some (.int .i32 0) := (blk_cell BK257.out 2).trans rfl;have hcz33_3 : w29.cell? ⟨gb257, 3, none⟩ = some (.int .i32 0) := (blk_cell BK257.out 3).trans rfl;have hfz33_0 := blk_frozen BK257.out 0;have hfz33_1 := blk_frozen BK257.out 1;have hfz33_2 := blk_frozen BK257.out 2;have hfz33_3 := blk_frozen BK257.out 3;have hnb34 := NB258_240.out;have hnc34 := NB240_258.out;have hnb35 := NB258_241.out;have hnc35 := NB241_258.out;have hcz36_0 : w29.cell? ⟨gb258, 0, none⟩ = some (.int .i64 0) := (blk_cell BK258.out 0).trans rfl;have hcz36_1 : w29.cell? ⟨gb258, 1, none⟩ = some (.int .i64 0) := (blk_cell BK258.out 1).trans rfl;have hcz36_2 : w29.cell? ⟨gb258, 2, none⟩ = some (.int .i32 0) := (blk_cell BK258.out 2).trans rfl;have hfz36_0 := blk_frozen BK258.out 0;have hfz36_1 := blk_frozen BK258.out 1;have hfz36_2 := blk_frozen BK258.out 2)|((with_reducible refine gate_callee (f := 16) rfl ?_);refine goesL_ (some 63) rfl rfl Try.func16 (by kernel_rfl) rfl #[] rfl (by (try simp only [List.map_toArray, List.map_cons, List.map_nil]);first|done|rfl|(simp only [List.length_drop, List.length_take];rfl)) ?_;(with_reducible refine (pinfoldlaw26_lives.calls kj13  t259 _ A23.out).mono ?_);rintro e w37 ⟨rfl, hb⟩;refine ⟨_, rfl, ?_⟩;have n0_ := Aside0.mk (Kd.R_below (by (with_reducible repeat (first|apply Kd.R_alloc|apply Kd.R_drewN|apply Kd.R_drew));exact (Kd.R_mono (Kd.R_mono (Kd.R_far (p := ⟨gb258, 2, none⟩) (Kd.R_far (p := ⟨gb258, 1, none⟩) (Kd.R_far (p := ⟨gb258, 0, none⟩) (Kd.R_far (p := ⟨gb257, 3, none⟩) (Kd.R_far (p := ⟨gb257, 2, none⟩) (Kd.R_far (p := ⟨gb257, 1, none⟩) (Kd.R_far (p := ⟨gb257, 0, none⟩) (Kd.R_types (Kd.R_types HO_5.out BK257.out (by decide)) BK258.out (by decide)) (fun _ hk => hk.1.2) (.int .i32 t250)) (fun _ hk => hk.1.2) (.int .i32 t251)) (fun _ hk => hk.1.2) (.int .i32 t252)) (fun _ hk => hk.1.2) (.int .i32 t253)) (fun _ hk => hk.2) (.int .i64 t254)) (fun _ hk => hk.2) (.int .i64 t255)) (fun _ hk => hk.2) (.int .i32 t256)) (fun _ h_ => h_.1)) (fun _ h_ => h_.1))) hb);have n1_ := Aside0.mk (blk_below (g := gb240) (o := .cells #[.int .i64 a0_0, .slice A0_1 l0_1.length c0_1] 24 (0, 0)) (by (with_reducible repeat (first|apply blk_drewN|apply blk_drew|apply blk_alloc));refine blk_far ?_ NB240_258.out _;(with_reducible repeat (first|apply blk_drewN|apply blk_drew|apply blk_alloc));refine blk_far ?_ NB240_258.out _;(with_reducible repeat (first|apply blk_drewN|apply blk_drew|apply blk_alloc));refine blk_far ?_ NB240_258.out _;(with_reducible repeat (first|apply blk_drewN|apply blk_drew|apply blk_alloc));refine blk_far ?_ NB240_257.out _;(with_reducible repeat (first|apply blk_drewN|apply blk_drew|apply blk_alloc));refine blk_far ?_ NB240_257.out _;(with_reducible repeat (first|apply blk_drewN|apply blk_drew|apply blk_alloc));refine blk_far ?_ NB240_257.out _;(with_reducible repeat (first|apply blk_drewN|apply blk_drew|apply blk_alloc));refine blk_far ?_ NB240_257.out _;(with_reducible repeat (first|apply blk_drewN|apply blk_drew|apply blk_alloc));exact BK240.out) hb);have n2_ := Aside0.mk (blk_below (g := gb241) (o := .cells #[.int .i32 x242000_1, .int .i32 x242001_1, .int .i32 x242002_1, .int .i32 x242003_1] 44 (0, 0)) (by (with_reducible repeat (first|apply blk_drewN|apply blk_drew|apply blk_alloc));refine blk_far ?_ NB241_258.out _;(with_reducible repeat (first|apply blk_drewN|apply blk_drew|apply blk_alloc));refine blk_far ?_ NB241_258.out _;(with_reducible repeat (first|apply blk_drewN|apply blk_drew|apply blk_alloc));refine blk_far ?_ NB241_258.out _;(with_reducible repeat (first|apply blk_drewN|apply blk_drew|apply blk_alloc));refine blk_far ?_ NB241_257.out _;(with_reducible repeat (first|apply blk_drewN|apply blk_drew|apply blk_alloc));refine blk_far ?_ NB241_257.out _;(with_reducible repeat (first|apply blk_drewN|apply blk_drew|apply blk_alloc));refine blk_far ?_ NB241_257.out _;(with_reducible repeat (first|apply blk_drewN|apply blk_drew|apply blk_alloc));refine blk_far ?_ NB241_257.out _;(with_reducible repeat (first|apply blk_drewN|apply blk_drew|apply blk_alloc));exact BK241.out) hb);have n3_ := Aside0.mk (blk_below (g := gb257) (o := .cells #[.int .i32 t250, .int .i32 t251, .int .i32 t252, .int .i32 t253] 44 (0, 0)) (by (with_reducible repeat (first|apply blk_drewN|apply blk_drew|apply blk_alloc));refine blk_far ?_ NB257_258.out _;(with_reducible repeat (first|apply blk_drewN|apply blk_drew|apply blk_alloc));refine blk_far ?_ NB257_258.out _;(with_reducible repeat (first|apply blk_drewN|apply blk_drew|apply blk_alloc));refine blk_far ?_ NB257_258.out _;(with_reducible repeat (first|apply blk_drewN|apply blk_drew|apply blk_alloc));refine blk_put (cs := #[.int .i32 t250, .int .i32 t251, .int .i32 t252, .int .i32 0]) ?_ 3 _ rfl;(with_reducible repeat (first|apply blk_drewN|apply blk_drew|apply blk_alloc));refine blk_put (cs := #[.int .i32 t250, .int .i32 t251, .int .i32 0, .int .i32 0]) ?_ 2 _ rfl;(with_reducible repeat (first|apply blk_drewN|apply blk_drew|apply blk_alloc));refine blk_put (cs := #[.int .i32 t250, .int .i32 0, .int .i32 0, .int .i32 0]) ?_ 1 _ rfl;(with_reducible repeat (first|apply blk_drewN|apply blk_drew|apply blk_alloc));refine blk_put (cs := #[.int .i32 0, .int .i32 0, .int .i32 0, .int .i32 0]) ?_ 0 _ rfl;(with_reducible repeat (first|apply blk_drewN|apply blk_drew|apply blk_alloc));exact BK257.out) hb);have n4_ := Aside0.mk (blk_below (g := gb258) (o := .cells #[.int .i64 t254, .int .i64 t255, .int .i32 t256] 46 (0, 0)) (by (with_reducible repeat (first|apply blk_drewN|apply blk_drew|apply blk_alloc));refine blk_put (cs := #[.int .i64 t254, .int .i64 t255, .int .i32 0]) ?_ 2 _ rfl;(with_reducible repeat (first|apply blk_drewN|apply blk_drew|apply blk_alloc));refine blk_put (cs := #[.int .i64 t254, .int .i64 0, .int .i32 0]) ?_ 1 _ rfl;(with_reducible repeat (first|apply blk_drewN|apply blk_drew|apply blk_alloc));refine blk_put (cs := #[.int .i64 0, .int .i64 0, .int .i32 0]) ?_ 0 _ rfl;(with_reducible repeat (first|apply blk_drewN|apply blk_drew|apply blk_alloc));refine blk_far ?_ NB258_257.out _;(with_reducible repeat (first|apply blk_drewN|apply blk_drew|apply blk_alloc));refine blk_far ?_ NB258_257.out _;(with_reducible repeat (first|apply blk_drewN|apply blk_drew|apply blk_alloc));refine blk_far ?_ NB258_257.out _;(with_reducible repeat (first|apply blk_drewN|apply blk_drew|apply blk_alloc));refine blk_far ?_ NB258_257.out _;(with_reducible repeat (first|apply blk_drewN|apply blk_drew|apply blk_alloc));exact BK258.out) hb);have n5_ := Aside0.mk (below_step (by repeat (first|(with_reducible first|exact HB.out|apply xa|apply xb|apply xc|refine below_set ?_ GE240.out|refine below_set ?_ GE241.out|refine below_set ?_ GE257.out|refine below_set ?_ GE258.out)|exact HB.out)) hb);clear HO_5;clear BK240;clear BK241;clear BK257;clear BK258;clear HB;have HO_5 := n0_;have BK240 := n1_;have BK241 := n2_;have BK257 := n3_;have BK258 := n4_;have HB := n5_;clear n0_ n1_ n2_ n3_ n4_ n5_;(try clear hb);(try clear hb2);(try clear hk);(try clear hi)))
         go_ret
         exact ⟨by first|rfl|(simp [errW_none, errW_some] <;> rfl)|(simp [*, errW_none, errW_some] <;> rfl), by repeat (first|(with_reducible first|exact HB.out|apply xa|apply xb|apply xc|refine below_set ?_ GE240.out|refine below_set ?_ GE241.out|refine below_set ?_ GE257.out|refine below_set ?_ GE258.out)|exact HB.out)⟩
        ·rw [if_neg c22] at H
         have c22b0 : (t254 == 14) = false := beq_eq_false_iff_ne.mpr c22
         have c22b1 : (t254 != 14) = true := bne_iff_ne.mpr c22
         replace H := Option.bind_eq_some_iff.mp H
         obtain ⟨t260, A380, H⟩ := H
         replace H : (pinfoldlaw26_LintRuns.l1 kj13 t244 t249 false x19_1 t260 (t260.length : Int) 0 a0_0 l0_1 t250 t251 t252 t253) = some r := H
         have A38 := Aside0.mk A380
         clear A380
         have H' := Aside0.mk H
         clear H
         have hnb39 := NB240_241.out
         have hnc39 := NB241_240.out
         have hcz40_0 : wc.cell? ⟨gb240, 0, none⟩ = some (.int .i64 a0_0) := (blk_cell BK240.out 0).trans rfl
         have hcz40_1 : wc.cell? ⟨gb240, 1, none⟩ = some (.slice A0_1 l0_1.length c0_1) := (blk_cell BK240.out 1).trans rfl
         have hfz40_0 := blk_frozen BK240.out 0
         have hfz40_1 := blk_frozen BK240.out 1
         have hcz41_0 : wc.cell? ⟨gb241, 0, none⟩ = some (.int .i32 x242000_1) := (blk_cell BK241.out 0).trans rfl
         have hcz41_1 : wc.cell? ⟨gb241, 1, none⟩ = some (.int .i32 x242001_1) := (blk_cell BK241.out 1).trans rfl
         have hcz41_2 : wc.cell? ⟨gb241, 2, none⟩ = some (.int .i32 x242002_1) := (blk_cell BK241.out 2).trans rfl
         have hcz41_3 : wc.cell? ⟨gb241, 3, none⟩ = some (.int .i32 x242003_1) := (blk_cell BK241.out 3).trans rfl
         have hfz41_0 := blk_frozen BK241.out 0
         have hfz41_1 := blk_frozen BK241.out 1
         have hfz41_2 := blk_frozen BK241.out 2
         have hfz41_3 := blk_frozen BK241.out 3
         go_wp2_with (first|((with_reducible refine gate_callee (f := 29) rfl ?_);refine goesL_ (some 36) rfl rfl Try.func29 (by kernel_rfl) rfl #[.agg #[.int .i64 a0_0, .slice A0_1 l0_1.length c0_1], .int .i64 x6_1, .agg #[.int .i32 x242000_1, .int .i32 x242001_1, .int .i32 x242002_1, .int .i32 x242003_1]] rfl (by (try simp only [List.map_toArray, List.map_cons, List.map_nil]);first|done|rfl|(simp only [List.length_drop, List.length_take];rfl)) ?_;(with_reducible refine (exec_Step.calls a0_0 _ _ l0_1 x6_1 x242000_1 x242001_1 x242002_1 x242003_1 t249 t250 t251 t252 t253 t254 t255 t256 _ ?side1 ?side2 A21.out).mono ?_);(case side1 => repeat (first|exact (Kd.C_below HR0_1.out HB.out)|(with_reducible refine Kd.C_alloc ?_ _)|(with_reducible refine Kd.C_drewN ?_ _)|(with_reducible refine Kd.C_drew ?_)));(case side2 => exact HC0_1.out);rintro e w42 ⟨rfl, hb⟩;refine ⟨_, rfl, ?_⟩;have n0_ := Aside0.mk (Kd.R_below (by (with_reducible repeat (first|apply Kd.R_alloc|apply Kd.R_drewN|apply Kd.R_drew));exact HO_5.out) hb);have n1_ := Aside0.mk (blk_below (g := gb240) (o := .cells #[.int .i64 a0_0, .slice A0_1 l0_1.length c0_1] 24 (0, 0)) (by (with_reducible repeat (first|apply blk_drewN|apply blk_drew|apply blk_alloc));exact BK240.out) hb);have n2_ := Aside0.mk (blk_below (g := gb241) (o := .cells #[.int .i32 x242000_1, .int .i32 x242001_1, .int .i32 x242002_1, .int .i32 x242003_1] 44 (0, 0)) (by (with_reducible repeat (first|apply blk_drewN|apply blk_drew|apply blk_alloc));exact BK241.out) hb);have n3_ := Aside0.mk (below_step (by repeat (first|(with_reducible first|exact HB.out|apply xa|apply xb|apply xc|refine below_set ?_ GE240.out|refine below_set ?_ GE241.out)|exact HB.out)) hb);clear HO_5;clear BK240;clear BK241;clear HB;have HO_5 := n0_;have BK240 := n1_;have BK241 := n2_;have HB := n3_;clear n0_ n1_ n2_ n3_;(try clear hb);(try clear hb2);(try clear hk);(try clear hi))|((with_reducible refine gate_dst (N := 8) rfl ?_);refine box_event ?hg (N := 8) ?hd (cs := #[.int .i32 0, .int .i32 0, .int .i32 0, .int .i32 0]) (t := 44) ?hr ?_;(case hd => rfl);(case hg => rfl);(case hr => first|(go_simp;done)|(go_simp;rfl));intro gb257 hg w43 hbox hb;have n0_ := Aside0.mk (Kd.R_below (by (with_reducible repeat (first|apply Kd.R_alloc|apply Kd.R_drewN|apply Kd.R_drew));exact HO_5.out) hb);have n1_ := Aside0.mk (blk_below (g := gb240) (o := .cells #[.int .i64 a0_0, .slice A0_1 l0_1.length c0_1] 24 (0, 0)) (by (with_reducible repeat (first|apply blk_drewN|apply blk_drew|apply blk_alloc));exact BK240.out) hb);have n2_ := Aside0.mk (blk_below (g := gb241) (o := .cells #[.int .i32 x242000_1, .int .i32 x242001_1, .int .i32 x242002_1, .int .i32 x242003_1] 44 (0, 0)) (by (with_reducible repeat (first|apply blk_drewN|apply blk_drew|apply blk_alloc));exact BK241.out) hb);have n3_ := Aside0.mk (below_step (by repeat (first|(with_reducible first|exact HB.out|apply xa|apply xb|apply xc|refine below_set ?_ GE240.out|refine below_set ?_ GE241.out)|exact HB.out)) hb);have n4_ := Aside0.mk (hbox);have n5_ := Aside0.mk ((by rw [hg];exact (below_size (by repeat (first|(with_reducible first|exact HB.out|apply xa|apply xb|apply xc|refine below_set ?_ GE240.out|refine below_set ?_ GE241.out)|exact HB.out))) : w.heap.size ≤ gb257));have n6_ := Aside0.mk ((by rw [hg];exact (below_size (by repeat (first|(with_reducible first|exact HB.out|apply xa|apply xb|apply xc|refine below_set ?_ GE240.out|refine below_set ?_ GE241.out)|exact HB.out))) : w.heap.size ≤ gb257));have n7_ := Aside0.mk ((by rw [hg];exact Nat.ne_of_lt (blk_lt (g := gb240) (o := .cells #[.int .i64 a0_0, .slice A0_1 l0_1.length c0_1] 24 (0, 0)) (by (with_reducible repeat (first|apply blk_drewN|apply blk_drew|apply blk_alloc));exact BK240.out)) : gb240 ≠ gb257));have n8_ := Aside0.mk ((by rw [hg];exact Nat.ne_of_gt (blk_lt (g := gb240) (o := .cells #[.int .i64 a0_0, .slice A0_1 l0_1.length c0_1] 24 (0, 0)) (by (with_reducible repeat (first|apply blk_drewN|apply blk_drew|apply blk_alloc));exact BK240.out)) : gb257 ≠ gb240));have n9_ := Aside0.mk ((by rw [hg];exact Nat.ne_of_lt (blk_lt (g := gb241) (o := .cells #[.int .i32 x242000_1, .int .i32 x242001_1, .int .i32 x242002_1, .int .i32 x242003_1] 44 (0, 0)) (by (with_reducible repeat (first|apply blk_drewN|apply blk_drew|apply blk_alloc));exact BK241.out)) : gb241 ≠ gb257));have n10_ := Aside0.mk ((by rw [hg];exact Nat.ne_of_gt (blk_lt (g := gb241) (o := .cells #[.int .i32 x242000_1, .int .i32 x242001_1, .int .i32 x242002_1, .int .i32 x242003_1] 44 (0, 0)) (by (with_reducible repeat (first|apply blk_drewN|apply blk_drew|apply blk_alloc));exact BK241.out)) : gb257 ≠ gb241));clear HO_5;clear BK240;clear BK241;clear HB;have HO_5 := n0_;have BK240 := n1_;have BK241 := n2_;have HB := n3_;have BK257 := n4_;have GW257 := n5_;have GE257 := n6_;have NB240_257 := n7_;have NB257_240 := n8_;have NB241_257 := n9_;have NB257_241 := n10_;clear n0_ n1_ n2_ n3_ n4_ n5_ n6_ n7_ n8_ n9_ n10_;clear hb hbox hg)|((with_reducible refine gate_dst (N := 9) rfl ?_);refine box_event ?hg (N := 9) ?hd (cs := #[.int .i64 0, .int .i64 0, .int .i32 0]) (t := 46) ?hr ?_;(case hd => rfl);(case hg => rfl);(case hr => first|(go_simp;done)|(go_simp;rfl));intro gb258 hg w44 hbox hb;have n0_ := Aside0.mk (Kd.R_below (by (with_reducible repeat (first|apply Kd.R_alloc|apply Kd.R_drewN|apply Kd.R_drew));exact HO_5.out) hb);have n1_ := Aside0.mk (blk_below (g := gb240) (o := .cells #[.int .i64 a0_0, .slice A0_1 l0_1.length c0_1] 24 (0, 0)) (by (with_reducible repeat (first|apply blk_drewN|apply blk_drew|apply blk_alloc));exact BK240.out) hb);have n2_ := Aside0.mk (blk_below (g := gb241) (o := .cells #[.int .i32 x242000_1, .int .i32 x242001_1, .int .i32 x242002_1, .int .i32 x242003_1] 44 (0, 0)) (by (with_reducible repeat (first|apply blk_drewN|apply blk_drew|apply blk_alloc));exact BK241.out) hb);have n3_ := Aside0.mk (blk_below (g := gb257) (o := .cells #[.int .i32 0, .int .i32 0, .int .i32 0, .int .i32 0] 44 (0, 0)) (by (with_reducible repeat (first|apply blk_drewN|apply blk_drew|apply blk_alloc));exact BK257.out) hb);have n4_ := Aside0.mk (below_step (by repeat (first|(with_reducible first|exact HB.out|apply xa|apply xb|apply xc|refine below_set ?_ GE240.out|refine below_set ?_ GE241.out|refine below_set ?_ GE257.out)|exact HB.out)) hb);have n5_ := Aside0.mk (hbox);have n6_ := Aside0.mk ((by rw [hg];exact (below_size (by repeat (first|(with_reducible first|exact HB.out|apply xa|apply xb|apply xc|refine below_set ?_ GE240.out|refine below_set ?_ GE241.out|refine below_set ?_ GE257.out)|exact HB.out))) : w.heap.size ≤ gb258));have n7_ := Aside0.mk ((by rw [hg];exact (below_size (by repeat (first|(with_reducible first|exact HB.out|apply xa|apply xb|apply xc|refine below_set ?_ GE240.out|refine below_set ?_ GE241.out|refine below_set ?_ GE257.out)|exact HB.out))) : w.heap.size ≤ gb258));have n8_ := Aside0.mk ((by rw [hg];exact Nat.ne_of_lt (blk_lt (g := gb240) (o := .cells #[.int .i64 a0_0, .slice A0_1 l0_1.length c0_1] 24 (0, 0)) (by (with_reducible repeat (first|apply blk_drewN|apply blk_drew|apply blk_alloc));exact BK240.out)) : gb240 ≠ gb258));have n9_ := Aside0.mk ((by rw [hg];exact Nat.ne_of_gt (blk_lt (g := gb240) (o := .cells #[.int .i64 a0_0, .slice A0_1 l0_1.length c0_1] 24 (0, 0)) (by (with_reducible repeat (first|apply blk_drewN|apply blk_drew|apply blk_alloc));exact BK240.out)) : gb258 ≠ gb240));have n10_ := Aside0.mk ((by rw [hg];exact Nat.ne_of_lt (blk_lt (g := gb241) (o := .cells #[.int .i32 x242000_1, .int .i32 x242001_1, .int .i32 x242002_1, .int .i32 x242003_1] 44 (0, 0)) (by (with_reducible repeat (first|apply blk_drewN|apply blk_drew|apply blk_alloc));exact BK241.out)) : gb241 ≠ gb258));have n11_ := Aside0.mk ((by rw [hg];exact Nat.ne_of_gt (blk_lt (g := gb241) (o := .cells #[.int .i32 x242000_1, .int .i32 x242001_1, .int .i32 x242002_1, .int .i32 x242003_1] 44 (0, 0)) (by (with_reducible repeat (first|apply blk_drewN|apply blk_drew|apply blk_alloc));exact BK241.out)) : gb258 ≠ gb241));have n12_ := Aside0.mk ((by rw [hg];exact Nat.ne_of_lt (blk_lt (g := gb257) (o := .cells #[.int .i32 0, .int .i32 0, .int .i32 0, .int .i32 0] 44 (0, 0)) (by (with_reducible repeat (first|apply blk_drewN|apply blk_drew|apply blk_alloc));exact BK257.out)) : gb257 ≠ gb258));have n13_ := Aside0.mk ((by rw [hg];exact Nat.ne_of_gt (blk_lt (g := gb257) (o := .cells #[.int .i32 0, .int .i32 0, .int .i32 0, .int .i32 0] 44 (0, 0)) (by (with_reducible repeat (first|apply blk_drewN|apply blk_drew|apply blk_alloc));exact BK257.out)) : gb258 ≠ gb257));clear HO_5;clear BK240;clear BK241;clear BK257;clear HB;have HO_5 := n0_;have BK240 := n1_;have BK241 := n2_;have BK257 := n3_;have HB := n4_;have BK258 := n5_;have GW258 := n6_;have GE258 := n7_;have NB240_258 := n8_;have NB258_240 := n9_;have NB241_258 := n10_;have NB258_241 := n11_;have NB257_258 := n12_;have NB258_257 := n13_;clear n0_ n1_ n2_ n3_ n4_ n5_ n6_ n7_ n8_ n9_ n10_ n11_ n12_ n13_;clear hb hbox hg;have hnb45 := NB257_240.out;have hnc45 := NB240_257.out;have hnb46 := NB257_241.out;have hnc46 := NB241_257.out;have hnb47 := NB257_258.out;have hnc47 := NB258_257.out;have hcz48_0 : w44.cell? ⟨gb257, 0, none⟩ = some (.int .i32 0) := (blk_cell BK257.out 0).trans rfl;have hcz48_1 : w44.cell? ⟨gb257, 1, none⟩ = some (.int .i32 0) := (blk_cell BK257.out 1).trans rfl;have hcz48_2 : w44.cell? ⟨gb257, 2, none⟩ = some (.int .i32 0) := (blk_cell BK257.out 2).trans rfl;have hcz48_3 : w44.cell? ⟨gb257, 3, none⟩ = some (.int .i32 0) := (blk_cell BK257.out 3).trans rfl;have hfz48_0 := blk_frozen BK257.out 0;have hfz48_1 := blk_frozen BK257.out 1;have hfz48_2 := blk_frozen BK257.out 2;have hfz48_3 := blk_frozen BK257.out 3;have hnb49 := NB258_240.out;have hnc49 := NB240_258.out;have hnb50 := NB258_241.out;have hnc50 := NB241_258.out;have hcz51_0 : w44.cell? ⟨gb258, 0, none⟩ = some (.int .i64 0) := (blk_cell BK258.out 0).trans rfl;have hcz51_1 : w44.cell? ⟨gb258, 1, none⟩ = some (.int .i64 0) := (blk_cell BK258.out 1).trans rfl;have hcz51_2 : w44.cell? ⟨gb258, 2, none⟩ = some (.int .i32 0) := (blk_cell BK258.out 2).trans rfl;have hfz51_0 := blk_frozen BK258.out 0;have hfz51_1 := blk_frozen BK258.out 1;have hfz51_2 := blk_frozen BK258.out 2;have hcz52_0 : w44.cell? ⟨gb240, 0, none⟩ = some (.int .i64 a0_0) := (blk_cell BK240.out 0).trans rfl;have hcz52_1 : w44.cell? ⟨gb240, 1, none⟩ = some (.slice A0_1 l0_1.length c0_1) := (blk_cell BK240.out 1).trans rfl;have hfz52_0 := blk_frozen BK240.out 0;have hfz52_1 := blk_frozen BK240.out 1)|((with_reducible refine gate_callee (f := 21) rfl ?_);refine goesL_ (some 45) rfl rfl Try.func21 (by kernel_rfl) rfl #[.agg #[.int .i64 a0_0, .slice A0_1 l0_1.length c0_1], .int .i64 x6_1] rfl (by (try simp only [List.map_toArray, List.map_cons, List.map_nil]);first|done|rfl|(simp only [List.length_drop, List.length_take];rfl)) ?_;(with_reducible refine (lint_Next.calls kj13 a0_0 _ _ l0_1 x6_1 t260 _ ?side1 ?side2 A38.out).mono ?_);(case side1 => exact Kd.C_below HR0_1.out (by repeat (first|(with_reducible first|exact HB.out|apply xa|apply xb|apply xc|refine below_set ?_ GE240.out|refine below_set ?_ GE241.out|refine below_set ?_ GE257.out|refine below_set ?_ GE258.out)|exact HB.out)));(case side2 => exact HC0_1.out);rintro e w53 ⟨v261, rfl, ho0, hb⟩;refine ⟨_, rfl, ?_⟩;have n0_ := Aside0.mk (Kd.R_below (by (with_reducible repeat (first|apply Kd.R_alloc|apply Kd.R_drewN|apply Kd.R_drew));exact (Kd.R_mono (Kd.R_mono (Kd.R_far (p := ⟨gb258, 2, none⟩) (Kd.R_far (p := ⟨gb258, 1, none⟩) (Kd.R_far (p := ⟨gb258, 0, none⟩) (Kd.R_far (p := ⟨gb257, 3, none⟩) (Kd.R_far (p := ⟨gb257, 2, none⟩) (Kd.R_far (p := ⟨gb257, 1, none⟩) (Kd.R_far (p := ⟨gb257, 0, none⟩) (Kd.R_types (Kd.R_types HO_5.out BK257.out (by decide)) BK258.out (by decide)) (fun _ hk => hk.1.2) (.int .i32 t250)) (fun _ hk => hk.1.2) (.int .i32 t251)) (fun _ hk => hk.1.2) (.int .i32 t252)) (fun _ hk => hk.1.2) (.int .i32 t253)) (fun _ hk => hk.2) (.int .i64 t254)) (fun _ hk => hk.2) (.int .i64 t255)) (fun _ hk => hk.2) (.int .i32 t256)) (fun _ h_ => h_.1)) (fun _ h_ => h_.1))) hb);have n1_ := Aside0.mk (Kd.R_lower ho0 (below_size (by repeat (first|(with_reducible first|exact HB.out|apply xa|apply xb|apply xc|refine below_set ?_ GE240.out|refine below_set ?_ GE241.out|refine below_set ?_ GE257.out|refine below_set ?_ GE258.out)|exact HB.out))));have n2_ := Aside0.mk (blk_below (g := gb240) (o := .cells #[.int .i64 a0_0, .slice A0_1 l0_1.length c0_1] 24 (0, 0)) (by (with_reducible repeat (first|apply blk_drewN|apply blk_drew|apply blk_alloc));refine blk_far ?_ NB240_258.out _;(with_reducible repeat (first|apply blk_drewN|apply blk_drew|apply blk_alloc));refine blk_far ?_ NB240_258.out _;(with_reducible repeat (first|apply blk_drewN|apply blk_drew|apply blk_alloc));refine blk_far ?_ NB240_258.out _;(with_reducible repeat (first|apply blk_drewN|apply blk_drew|apply blk_alloc));refine blk_far ?_ NB240_257.out _;(with_reducible repeat (first|apply blk_drewN|apply blk_drew|apply blk_alloc));refine blk_far ?_ NB240_257.out _;(with_reducible repeat (first|apply blk_drewN|apply blk_drew|apply blk_alloc));refine blk_far ?_ NB240_257.out _;(with_reducible repeat (first|apply blk_drewN|apply blk_drew|apply blk_alloc));refine blk_far ?_ NB240_257.out _;(with_reducible repeat (first|apply blk_drewN|apply blk_drew|apply blk_alloc));exact BK240.out) hb);have n3_ := Aside0.mk (blk_below (g := gb241) (o := .cells #[.int .i32 x242000_1, .int .i32 x242001_1, .int .i32 x242002_1, .int .i32 x242003_1] 44 (0, 0)) (by (with_reducible repeat (first|apply blk_drewN|apply blk_drew|apply blk_alloc));refine blk_far ?_ NB241_258.out _;(with_reducible repeat (first|apply blk_drewN|apply blk_drew|apply blk_alloc));refine blk_far ?_ NB241_258.out _;(with_reducible repeat (first|apply blk_drewN|apply blk_drew|apply blk_alloc));refine blk_far ?_ NB241_258.out _;(with_reducible repeat (first|apply blk_drewN|apply blk_drew|apply blk_alloc));refine blk_far ?_ NB241_257.out _;(with_reducible repeat (first|apply blk_drewN|apply blk_drew|apply blk_alloc));refine blk_far ?_ NB241_257.out _;(with_reducible repeat (first|apply blk_drewN|apply blk_drew|apply blk_alloc));refine blk_far ?_ NB241_257.out _;(with_reducible repeat (first|apply blk_drewN|apply blk_drew|apply blk_alloc));refine blk_far ?_ NB241_257.out _;(with_reducible repeat (first|apply blk_drewN|apply blk_drew|apply blk_alloc));exact BK241.out) hb);have n4_ := Aside0.mk (blk_below (g := gb257) (o := .cells #[.int .i32 t250, .int .i32 t251, .int .i32 t252, .int .i32 t253] 44 (0, 0)) (by (with_reducible repeat (first|apply blk_drewN|apply blk_drew|apply blk_alloc));refine blk_far ?_ NB257_258.out _;(with_reducible repeat (first|apply blk_drewN|apply blk_drew|apply blk_alloc));refine blk_far ?_ NB257_258.out _;(with_reducible repeat (first|apply blk_drewN|apply blk_drew|apply blk_alloc));refine blk_far ?_ NB257_258.out _;(with_reducible repeat (first|apply blk_drewN|apply blk_drew|apply blk_alloc));refine blk_put (cs := #[.int .i32 t250, .int .i32 t251, .int .i32 t252, .int .i32 0]) ?_ 3 _ rfl;(with_reducible repeat (first|apply blk_drewN|apply blk_drew|apply blk_alloc));refine blk_put (cs := #[.int .i32 t250, .int .i32 t251, .int .i32 0, .int .i32 0]) ?_ 2 _ rfl;(with_reducible repeat (first|apply blk_drewN|apply blk_drew|apply blk_alloc));refine blk_put (cs := #[.int .i32 t250, .int .i32 0, .int .i32 0, .int .i32 0]) ?_ 1 _ rfl;(with_reducible repeat (first|apply blk_drewN|apply blk_drew|apply blk_alloc));refine blk_put (cs := #[.int .i32 0, .int .i32 0, .int .i32 0, .int .i32 0]) ?_ 0 _ rfl;(with_reducible repeat (first|apply blk_drewN|apply blk_drew|apply blk_alloc));exact BK257.out) hb);have n5_ := Aside0.mk (blk_below (g := gb258) (o := .cells #[.int .i64 t254, .int .i64 t255, .int .i32 t256] 46 (0, 0)) (by (with_reducible repeat (first|apply blk_drewN|apply blk_drew|apply blk_alloc));refine blk_put (cs := #[.int .i64 t254, .int .i64 t255, .int .i32 0]) ?_ 2 _ rfl;(with_reducible repeat (first|apply blk_drewN|apply blk_drew|apply blk_alloc));refine blk_put (cs := #[.int .i64 t254, .int .i64 0, .int .i32 0]) ?_ 1 _ rfl;(with_reducible repeat (first|apply blk_drewN|apply blk_drew|apply blk_alloc));refine blk_put (cs := #[.int .i64 0, .int .i64 0, .int .i32 0]) ?_ 0 _ rfl;(with_reducible repeat (first|apply blk_drewN|apply blk_drew|apply blk_alloc));refine blk_far ?_ NB258_257.out _;(with_reducible repeat (first|apply blk_drewN|apply blk_drew|apply blk_alloc));refine blk_far ?_ NB258_257.out _;(with_reducible repeat (first|apply blk_drewN|apply blk_drew|apply blk_alloc));refine blk_far ?_ NB258_257.out _;(with_reducible repeat (first|apply blk_drewN|apply blk_drew|apply blk_alloc));refine blk_far ?_ NB258_257.out _;(with_reducible repeat (first|apply blk_drewN|apply blk_drew|apply blk_alloc));exact BK258.out) hb);have n6_ := Aside0.mk (below_step (by repeat (first|(with_reducible first|exact HB.out|apply xa|apply xb|apply xc|refine below_set ?_ GE240.out|refine below_set ?_ GE241.out|refine below_set ?_ GE257.out|refine below_set ?_ GE258.out)|exact HB.out)) hb);clear HO_5;clear BK240;clear BK241;clear BK257;clear BK258;clear HB;have HO_5 := n0_;have HO262 := n1_;have BK240 := n2_;have BK241 := n3_;have BK257 := n4_;have BK258 := n5_;have HB := n6_;clear n0_ n1_ n2_ n3_ n4_ n5_ n6_;(try clear hb);(try clear hb2);(try clear hk);(try clear hi);(try clear ho0);obtain ⟨Ao54, co54, eo54⟩ := Kd.R_slice HO262.out;subst eo54))
         go_loopg [10, 47] kj13 (fun kq v10 v47 w' => ∃ (x10_3 : Bool) (x47_3 : Int), v10 = .bool x10_3 ∧ v47 = .int .i64 x47_3 ∧ Aside0 (pinfoldlaw26_LintRuns.l1 kq t244 t249 x10_3 x19_1 t260 (t260.length : Int) x47_3 a0_0 l0_1 t250 t251 t252 t253 = some r) ∧ Aside0 (kq ≤ kj13) ∧ Aside0 (Kd.R Kd.bool 4 w' w.heap.size (fun _ => True) v245 t244) ∧ Aside0 (Kd.R (Kd.int .i64) 3 w' w.heap.size (fun _ => True) (.slice Ao54 t260.length co54) t260) ∧ Aside0 (w'.heap[gb240]? = some (.cells #[.int .i64 a0_0, (.slice A0_1 l0_1.length c0_1)] 24 (0, 0))) ∧ Aside0 (w'.heap[gb241]? = some (.cells #[.int .i32 x242000_1, .int .i32 x242001_1, .int .i32 x242002_1, .int .i32 x242003_1] 44 (0, 0))) ∧ Aside0 (w'.heap[gb257]? = some (.cells #[.int .i32 t250, .int .i32 t251, .int .i32 t252, .int .i32 t253] 44 (0, 0))) ∧ Aside0 (w'.heap[gb258]? = some (.cells #[.int .i64 t254, .int .i64 t255, .int .i32 t256] 46 (0, 0))) ∧ Aside0 (Below w.heap.size w w'))
         case atStart => exact ⟨(false), (0), (by first|rfl|(simp;done)|(simp [*];done)), (by first|rfl|(simp;done)|(simp [*];done)), H', ⟨Nat.le_refl _⟩, ⟨by (with_reducible repeat (first|apply Kd.R_alloc|apply Kd.R_drewN|apply Kd.R_drew));exact HO_5.out⟩, ⟨by (with_reducible repeat (first|apply Kd.R_alloc|apply Kd.R_drewN|apply Kd.R_drew));exact HO262.out⟩, ⟨by (with_reducible repeat (first|apply blk_drewN|apply blk_drew|apply blk_alloc));exact BK240.out⟩, ⟨by (with_reducible repeat (first|apply blk_drewN|apply blk_drew|apply blk_alloc));exact BK241.out⟩, ⟨by (with_reducible repeat (first|apply blk_drewN|apply blk_drew|apply blk_alloc));exact BK257.out⟩, ⟨by (with_reducible repeat (first|apply blk_drewN|apply blk_drew|apply blk_alloc));exact BK258.out⟩, ⟨by repeat (first|(with_reducible first|exact HB.out|apply xa|apply xb|apply xc|refine below_set ?_ GE240.out|refine below_set ?_ GE241.out|refine below_set ?_ GE257.out|refine below_set ?_ GE258.out)|exact HB.out)⟩⟩
         case round =>
          clear H'
          try clear c1
          try clear c2
          try clear p2
          try clear q2
          try clear hx2
          try clear c3
          try clear c4
          try clear c5
          try clear c6
          try clear c8
          try clear c13
          try clear c13b0
          try clear c15
          try clear c15b0
          try clear c16
          try clear c17
          try clear c17b0
          try clear c18
          try clear c18b0
          try clear c19
          try clear c20
          try clear c21
          try clear c22
          try clear c22b0
          try clear c22b1
          try clear c24
          try clear p24
          try clear q24
          try clear hx24
          try clear c29
          try clear c30
          try clear c31
          try clear c32
          try clear c34
          try clear c35
          try clear c39
          try clear c45
          try clear c46
          try clear c47
          try clear c49
          try clear c50
          try clear hcz11_0
          try clear hcz11_1
          try clear hcz25_0
          try clear hcz25_1
          try clear hcz26_0
          try clear hcz26_1
          try clear hcz26_2
          try clear hcz26_3
          try clear hcz33_0
          try clear hcz33_1
          try clear hcz33_2
          try clear hcz33_3
          try clear hcz36_0
          try clear hcz36_1
          try clear hcz36_2
          try clear hcz40_0
          try clear hcz40_1
          try clear hcz41_0
          try clear hcz41_1
          try clear hcz41_2
          try clear hcz41_3
          try clear hcz48_0
          try clear hcz48_1
          try clear hcz48_2
          try clear hcz48_3
          try clear hcz51_0
          try clear hcz51_1
          try clear hcz51_2
          try clear hcz52_0
          try clear hcz52_1
          try clear hcz9_0
          try clear hcz9_1
          try clear hfz11_0
          try clear hfz11_1
          try clear hfz25_0
          try clear hfz25_1
          try clear hfz26_0
          try clear hfz26_1
          try clear hfz26_2
          try clear hfz26_3
          try clear hfz33_0
          try clear hfz33_1
          try clear hfz33_2
          try clear hfz33_3
          try clear hfz36_0
          try clear hfz36_1
          try clear hfz36_2
          try clear hfz40_0
          try clear hfz40_1
          try clear hfz41_0
          try clear hfz41_1
          try clear hfz41_2
          try clear hfz41_3
          try clear hfz48_0
          try clear hfz48_1
          try clear hfz48_2
          try clear hfz48_3
          try clear hfz51_0
          try clear hfz51_1
          try clear hfz51_2
          try clear hfz52_0
          try clear hfz52_1
          try clear hfz9_0
          try clear hfz9_1
          try clear hx248_0
          try clear p2
          try clear p248
          try clear q2
          try clear q248
          obtain ⟨x10_3, x47_3, rfl, rfl, HA, HK3, HO_5, HO_45, BK240, BK241, BK257, BK258, HB⟩ := hrel
          cases gk with
          | zero => exact absurd HA.out (by simp [pinfoldlaw26_LintRuns.l1])
          | succ k3 =>
           have H := HA.out
           clear HA
           simp only [pinfoldlaw26_LintRuns.l1] at H
           by_cases c55 : x47_3 < (t260.length : Int)
           ·rw [if_pos c55] at H
            have c55b0 : decide (x47_3 < (t260.length : Int)) = true := decide_eq_true c55
            clear c55
            by_cases c56 : 0 ≤ x47_3
            ·rw [if_pos c56] at H
             have c56b0 : decide (0 ≤ x47_3) = true := decide_eq_true c56
             clear c56
             by_cases c57 : x47_3 < (t260.length : Int)
             ·rw [if_pos c57] at H
              have c57b0 : decide (x47_3 < (t260.length : Int)) = true := decide_eq_true c57
              clear c57
              by_cases c58 : x10_3 = true
              ·subst c58
               have H1 : (pinfoldlaw26_LintRuns.l1 k3 t244 t249 true x19_1 t260 (t260.length : Int) (wrap64 (x47_3 + 1)) a0_0 l0_1 t250 t251 t252 t253) = some r := by rw [if_pos rfl] at H;exact H
               clear H
               have H := H1
               clear H1
               have H' := Aside0.mk H
               clear H
               have p263 : 0 ≤ (x47_3 : Int) := of_decide_eq_true (by assumption)
               have q263 : x47_3 < (t260.length : Int) := of_decide_eq_true (by assumption)
               obtain ⟨ad263, e263, hx263_0⟩ := Kd.at_int (Kd.R_reads' HO_45.out).2.2 x47_3 p263 q263
               cases e263
               replace p263 := eq_true p263
               replace q263 := eq_true q263
               go_wp2
               (try simp only [px_add0] at *)
               go_roundg k3
               case measure => have := HK1.out;have := HJ13.out;have := HK3.out;omega
               case rel => exact ⟨(true), (wrap64 (x47_3 + 1)), (by first|rfl|(simp;done)|(simp [*];done)), (by first|rfl|(simp;done)|(simp [*];done)), H', ⟨by have := HK1.out;have := HJ13.out;have := HK3.out;omega⟩, ⟨by (with_reducible repeat (first|apply Kd.R_alloc|apply Kd.R_drewN|apply Kd.R_drew));exact HO_5.out⟩, ⟨by (with_reducible repeat (first|apply Kd.R_alloc|apply Kd.R_drewN|apply Kd.R_drew));exact HO_45.out⟩, ⟨by (with_reducible repeat (first|apply blk_drewN|apply blk_drew|apply blk_alloc));exact BK240.out⟩, ⟨by (with_reducible repeat (first|apply blk_drewN|apply blk_drew|apply blk_alloc));exact BK241.out⟩, ⟨by (with_reducible repeat (first|apply blk_drewN|apply blk_drew|apply blk_alloc));exact BK257.out⟩, ⟨by (with_reducible repeat (first|apply blk_drewN|apply blk_drew|apply blk_alloc));exact BK258.out⟩, ⟨by repeat (first|(with_reducible first|exact HB.out|apply xa|apply xb|apply xc|refine below_set ?_ GE240.out|refine below_set ?_ GE241.out|refine below_set ?_ GE257.out|refine below_set ?_ GE258.out)|exact HB.out)⟩⟩
              ·replace c58 := Bool.eq_false_iff.mpr c58
               subst c58
               have H1 : (pinfoldlaw26_LintRuns.l1 k3 t244 t249 ((rd t260 x47_3) == t249) x19_1 t260 (t260.length : Int) (wrap64 (x47_3 + 1)) a0_0 l0_1 t250 t251 t252 t253) = some r := by rw [if_neg (show ¬ (false = true) by decide)] at H;exact H
               clear H
               have H := H1
               clear H1
               have H' := Aside0.mk H
               clear H
               have p263 : 0 ≤ (x47_3 : Int) := of_decide_eq_true (by assumption)
               have q263 : x47_3 < (t260.length : Int) := of_decide_eq_true (by assumption)
               obtain ⟨ad263, e263, hx263_0⟩ := Kd.at_int (Kd.R_reads' HO_45.out).2.2 x47_3 p263 q263
               cases e263
               replace p263 := eq_true p263
               replace q263 := eq_true q263
               go_wp2
               (try simp only [px_add0] at *)
               go_roundg k3
               case measure => have := HK1.out;have := HJ13.out;have := HK3.out;omega
               case rel => exact ⟨(((rd t260 x47_3) == t249)), (wrap64 (x47_3 + 1)), (by first|rfl|(simp;done)|(simp [*];done)), (by first|rfl|(simp;done)|(simp [*];done)), H', ⟨by have := HK1.out;have := HJ13.out;have := HK3.out;omega⟩, ⟨by (with_reducible repeat (first|apply Kd.R_alloc|apply Kd.R_drewN|apply Kd.R_drew));exact HO_5.out⟩, ⟨by (with_reducible repeat (first|apply Kd.R_alloc|apply Kd.R_drewN|apply Kd.R_drew));exact HO_45.out⟩, ⟨by (with_reducible repeat (first|apply blk_drewN|apply blk_drew|apply blk_alloc));exact BK240.out⟩, ⟨by (with_reducible repeat (first|apply blk_drewN|apply blk_drew|apply blk_alloc));exact BK241.out⟩, ⟨by (with_reducible repeat (first|apply blk_drewN|apply blk_drew|apply blk_alloc));exact BK257.out⟩, ⟨by (with_reducible repeat (first|apply blk_drewN|apply blk_drew|apply blk_alloc));exact BK258.out⟩, ⟨by repeat (first|(with_reducible first|exact HB.out|apply xa|apply xb|apply xc|refine below_set ?_ GE240.out|refine below_set ?_ GE241.out|refine below_set ?_ GE257.out|refine below_set ?_ GE258.out)|exact HB.out)⟩⟩
             ·rw [if_neg c57] at H
              exact absurd H (by simp)
            ·rw [if_neg c56] at H
             exact absurd H (by simp)
           ·rw [if_neg c55] at H
            have c55b0 : decide (x47_3 < (t260.length : Int)) = false := decide_eq_false c55
            clear c55
            by_cases c59 : x10_3 = true
            ·subst c59
             have H1 : (pinfoldlaw26_LintRuns.l0 k3 t244 t249 (wrap64 (x19_1 + 1)) a0_0 l0_1 t250 t251 t252 t253) = some r := by rw [if_pos rfl] at H;exact H
             clear H
             have H := H1
             clear H1
             have H' := Aside0.mk H
             clear H
             try go_wp2
             have n0_ := Aside0.mk (Kd.R_drew HO_5.out)
             have n1_ := Aside0.mk (Kd.R_drew HO_45.out)
             have n2_ := Aside0.mk (blk_drew BK240.out)
             have n3_ := Aside0.mk (blk_drew BK241.out)
             have n4_ := Aside0.mk (blk_drew BK257.out)
             have n5_ := Aside0.mk (blk_drew BK258.out)
             have n6_ := Aside0.mk (below_drew1 HB.out)
             clear HO_5
             clear HO_45
             clear BK240
             clear BK241
             clear BK257
             clear BK258
             clear HB
             have HO_5 := n0_
             have HO_45 := n1_
             have BK240 := n2_
             have BK241 := n3_
             have BK257 := n4_
             have BK258 := n5_
             have HB := n6_
             clear n0_ n1_ n2_ n3_ n4_ n5_ n6_
             refine start_ (n := 4) (S := fun w' => w'.cell? ⟨gb257, 0, none⟩ = some (.int .i32 t250) ∧ w'.cell? ⟨gb257, 1, none⟩ = some (.int .i32 t251) ∧ w'.cell? ⟨gb257, 2, none⟩ = some (.int .i32 t252) ∧ w'.cell? ⟨gb257, 3, none⟩ = some (.int .i32 t253)) (ds := []) #[false, false, false, false] (by kernel_rfl) rfl rfl ⟨(blk_cell BK257.out 0).trans rfl, (blk_cell BK257.out 1).trans rfl, (blk_cell BK257.out 2).trans rfl, (blk_cell BK257.out 3).trans rfl⟩ (fun hHeld => ?_)
             generalize wr.drew = w60 at HO_5 HO_45 BK240 BK241 BK257 BK258 HB hHeld ⊢
             refine pure_ (i := 0) (N := some 60) (v := ?_) (a' := ?_) #[true, false, false, false] rfl rfl (by kernel_rfl) (fun _ _ _ h => h) (Or.inl ⟨by rfl, ?_⟩) ?_ ?_
             rotate_left
             ·intro w'
              go_simp
              with_reducible rfl
             rotate_left
             ·simp only [Act.put, List.setIfInBounds_toArray, List.set_cons_zero, List.set_cons_succ, i64_w, i32_w]
              rfl
             refine pure_ (i := 2) (N := some 6) (v := ?_) (a' := ?_) #[true, false, true, false] rfl rfl (by kernel_rfl) (fun _ _ _ h => h) (Or.inl ⟨by rfl, ?_⟩) ?_ ?_
             rotate_left
             ·intro w'
              go_simp
              with_reducible rfl
             rotate_left
             ·simp only [Act.put, List.setIfInBounds_toArray, List.set_cons_zero, List.set_cons_succ, i64_w, i32_w]
              rfl
             refine take_ (i := 1) (N := some 61) (v := ?_) (a' := ?_) #[true, true, true, false] rfl rfl (by kernel_rfl) (fun _ _ _ h => h) (Or.inl ⟨by rfl, ?_⟩) hHeld ?_ ?_
             rotate_left
             ·rintro w' ⟨s0, s1, s2, s3⟩
              go_simp
              with_reducible rfl
             rotate_left
             ·simp only [Act.put, List.setIfInBounds_toArray, List.set_cons_zero, List.set_cons_succ, i64_w, i32_w]
              rfl
             refine one_ (i := 3) (N := none) #[true, true, true, true] rfl rfl (by kernel_rfl) (by decide) (fun K hK => ?_)
             have hs61 : w60.cell? ⟨gb241, 0, none⟩ = some (.int .i32 x242000_1) := (blk_cell BK241.out 0).trans rfl
             have hfs61 := blk_frozen BK241.out 0
             have hns61_0 := NB240_241.out
             have hns61_2 := NB257_241.out
             have hns61_3 := NB258_241.out
             have hms61_0 := NB241_240.out
             have hms61_2 := NB241_257.out
             have hms61_3 := NB241_258.out
             have hs62 : w60.cell? ⟨gb241, 1, none⟩ = some (.int .i32 x242001_1) := (blk_cell BK241.out 1).trans rfl
             have hfs62 := blk_frozen BK241.out 1
             have hns62_0 := NB240_241.out
             have hns62_2 := NB257_241.out
             have hns62_3 := NB258_241.out
             have hms62_0 := NB241_240.out
             have hms62_2 := NB241_257.out
             have hms62_3 := NB241_258.out
             have hs63 : w60.cell? ⟨gb241, 2, none⟩ = some (.int .i32 x242002_1) := (blk_cell BK241.out 2).trans rfl
             have hfs63 := blk_frozen BK241.out 2
             have hns63_0 := NB240_241.out
             have hns63_2 := NB257_241.out
             have hns63_3 := NB258_241.out
             have hms63_0 := NB241_240.out
             have hms63_2 := NB241_257.out
             have hms63_3 := NB241_258.out
             have hs64 : w60.cell? ⟨gb241, 3, none⟩ = some (.int .i32 x242003_1) := (blk_cell BK241.out 3).trans rfl
             have hfs64 := blk_frozen BK241.out 3
             have hns64_0 := NB240_241.out
             have hns64_2 := NB257_241.out
             have hns64_3 := NB258_241.out
             have hms64_0 := NB241_240.out
             have hms64_2 := NB241_257.out
             have hms64_3 := NB241_258.out
             refine skip_ (w1 := ?_) (by rfl) rfl ?_ ?_
             rotate_left
             ·go_simp
              rfl
             refine hK.out _ _ ⟨((cell_far (p := ⟨gb241, _, none⟩) NB257_241.out _).trans (((cell_far (p := ⟨gb241, _, none⟩) NB257_241.out _).trans (((cell_far (p := ⟨gb241, _, none⟩) NB257_241.out _).trans (((cell_far (p := ⟨gb241, _, none⟩) NB257_241.out _).trans (hHeld.1)))))))), ((cell_far (p := ⟨gb241, _, none⟩) NB257_241.out _).trans (((cell_far (p := ⟨gb241, _, none⟩) NB257_241.out _).trans (((cell_far (p := ⟨gb241, _, none⟩) NB257_241.out _).trans (((cell_far (p := ⟨gb241, _, none⟩) NB257_241.out _).trans (hHeld.2.1)))))))), ((cell_far (p := ⟨gb241, _, none⟩) NB257_241.out _).trans (((cell_far (p := ⟨gb241, _, none⟩) NB257_241.out _).trans (((cell_far (p := ⟨gb241, _, none⟩) NB257_241.out _).trans (((cell_far (p := ⟨gb241, _, none⟩) NB257_241.out _).trans (hHeld.2.2.1)))))))), ((cell_far (p := ⟨gb241, _, none⟩) NB257_241.out _).trans (((cell_far (p := ⟨gb241, _, none⟩) NB257_241.out _).trans (((cell_far (p := ⟨gb241, _, none⟩) NB257_241.out _).trans (((cell_far (p := ⟨gb241, _, none⟩) NB257_241.out _).trans (hHeld.2.2.2))))))))⟩ (fun hHeld => ?_)
             clear hK K
             refine done_ (by kernel_rfl) ?_
             try go_wp2
             (try simp only [px_add0] at *)
             go_roundg k3
             case measure => have := HK1.out;have := HJ13.out;have := HK3.out;omega
             case rel => exact ⟨(t249), (wrap64 (x19_1 + 1)), (t250), (t251), (t252), (t253), (by first|rfl|(simp;done)|(simp [*];done)), (by first|rfl|(simp;done)|(simp [*];done)), H', ⟨by have := HK1.out;have := HJ13.out;have := HK3.out;omega⟩, ⟨by (with_reducible repeat (first|apply Kd.R_alloc|apply Kd.R_drewN|apply Kd.R_drew));exact Kd.R_mono (Kd.R_far (p := ⟨gb241, 3, none⟩) (Kd.R_far (p := ⟨gb241, 2, none⟩) (Kd.R_far (p := ⟨gb241, 1, none⟩) (Kd.R_far (p := ⟨gb241, 0, none⟩) (Kd.R_types HO_5.out BK241.out (by decide)) (fun _ hk => hk.2) (.int .i32 t250)) (fun _ hk => hk.2) (.int .i32 t251)) (fun _ hk => hk.2) (.int .i32 t252)) (fun _ hk => hk.2) (.int .i32 t253)) (fun _ hk => trivial)⟩, ⟨by (with_reducible repeat (first|apply blk_drewN|apply blk_drew|apply blk_alloc));refine blk_far ?_ NB240_241.out _;(with_reducible repeat (first|apply blk_drewN|apply blk_drew|apply blk_alloc));refine blk_far ?_ NB240_241.out _;(with_reducible repeat (first|apply blk_drewN|apply blk_drew|apply blk_alloc));refine blk_far ?_ NB240_241.out _;(with_reducible repeat (first|apply blk_drewN|apply blk_drew|apply blk_alloc));refine blk_far ?_ NB240_241.out _;(with_reducible repeat (first|apply blk_drewN|apply blk_drew|apply blk_alloc));exact BK240.out⟩, ⟨by (with_reducible repeat (first|apply blk_drewN|apply blk_drew|apply blk_alloc));refine blk_put (cs := #[.int .i32 t250, .int .i32 t251, .int .i32 t252, .int .i32 x242003_1]) ?_ 3 _ rfl;(with_reducible repeat (first|apply blk_drewN|apply blk_drew|apply blk_alloc));refine blk_put (cs := #[.int .i32 t250, .int .i32 t251, .int .i32 x242002_1, .int .i32 x242003_1]) ?_ 2 _ rfl;(with_reducible repeat (first|apply blk_drewN|apply blk_drew|apply blk_alloc));refine blk_put (cs := #[.int .i32 t250, .int .i32 x242001_1, .int .i32 x242002_1, .int .i32 x242003_1]) ?_ 1 _ rfl;(with_reducible repeat (first|apply blk_drewN|apply blk_drew|apply blk_alloc));refine blk_put (cs := #[.int .i32 x242000_1, .int .i32 x242001_1, .int .i32 x242002_1, .int .i32 x242003_1]) ?_ 0 _ rfl;(with_reducible repeat (first|apply blk_drewN|apply blk_drew|apply blk_alloc));exact BK241.out⟩, ⟨by repeat (first|(with_reducible first|exact HB.out|apply xa|apply xb|apply xc|refine below_set ?_ GE240.out|refine below_set ?_ GE241.out|refine below_set ?_ GE257.out|refine below_set ?_ GE258.out)|exact HB.out)⟩⟩
            ·replace c59 := Bool.eq_false_iff.mpr c59
             subst c59
             have H1 : (some false) = some r := by rw [if_neg (show ¬ (false = true) by decide)] at H;exact H
             clear H
             have H := H1
             clear H1
             obtain rfl := Option.some.inj H
             go_wp2
             go_ret
             exact ⟨by first|rfl|(simp [errW_none, errW_some] <;> rfl)|(simp [*, errW_none, errW_some] <;> rfl), by repeat (first|(with_reducible first|exact HB.out|apply xa|apply xb|apply xc|refine below_set ?_ GE240.out|refine below_set ?_ GE241.out|refine below_set ?_ GE257.out|refine below_set ?_ GE258.out)|exact HB.out)⟩
    ·rw [if_neg c13] at H
     have c13b0 : decide (x19_1 < 100) = false := decide_eq_false c13
     clear c13
     replace H := Option.bind_eq_some_iff.mp H
     obtain ⟨t247, A650, H⟩ := H
     replace H : (some t247) = some r := H
     have A65 := Aside0.mk A650
     clear A650
     obtain rfl := Option.some.inj H
     go_wp2_with (first|((with_reducible refine gate_callee (f := 16) rfl ?_);refine goesL_ (some 63) rfl rfl Try.func16 (by kernel_rfl) rfl #[] rfl (by (try simp only [List.map_toArray, List.map_cons, List.map_nil]);first|done|rfl|(simp only [List.length_drop, List.length_take];rfl)) ?_;(with_reducible refine (pinfoldlaw26_lives.calls k1  t247 _ A65.out).mono ?_);rintro e w66 ⟨rfl, hb⟩;refine ⟨_, rfl, ?_⟩;have n0_ := Aside0.mk (Kd.R_below (by (with_reducible repeat (first|apply Kd.R_alloc|apply Kd.R_drewN|apply Kd.R_drew));exact HO_5.out) hb);have n1_ := Aside0.mk (blk_below (g := gb240) (o := .cells #[.int .i64 a0_0, .slice A0_1 l0_1.length c0_1] 24 (0, 0)) (by (with_reducible repeat (first|apply blk_drewN|apply blk_drew|apply blk_alloc));exact BK240.out) hb);have n2_ := Aside0.mk (blk_below (g := gb241) (o := .cells #[.int .i32 x242000_1, .int .i32 x242001_1, .int .i32 x242002_1, .int .i32 x242003_1] 44 (0, 0)) (by (with_reducible repeat (first|apply blk_drewN|apply blk_drew|apply blk_alloc));exact BK241.out) hb);have n3_ := Aside0.mk (below_step (by repeat (first|(with_reducible first|exact HB.out|apply xa|apply xb|apply xc|refine below_set ?_ GE240.out|refine below_set ?_ GE241.out)|exact HB.out)) hb);clear HO_5;clear BK240;clear BK241;clear HB;have HO_5 := n0_;have BK240 := n1_;have BK241 := n2_;have HB := n3_;clear n0_ n1_ n2_ n3_;(try clear hb);(try clear hb2);(try clear hk);(try clear hi)))
     go_ret
     exact ⟨by first|rfl|(simp [errW_none, errW_some] <;> rfl)|(simp [*, errW_none, errW_some] <;> rfl), by repeat (first|(with_reducible first|exact HB.out|apply xa|apply xb|apply xc|refine below_set ?_ GE240.out|refine below_set ?_ GE241.out)|exact HB.out)⟩
 ·replace c4 := Bool.eq_false_iff.mpr c4
  subst c4
  have H1 : ((pinfoldlaw26_lives.f k).bind fun t243 => (some t243)) = some r := by rw [if_neg (show ¬ (false = true) by decide)] at H;exact H
  clear H
  have H := H1
  clear H1
  replace H := Option.bind_eq_some_iff.mp H
  obtain ⟨t243, A670, H⟩ := H
  replace H : (some t243) = some r := H
  have A67 := Aside0.mk A670
  clear A670
  obtain rfl := Option.some.inj H
  go_enter Try.func6, Try.ntmps6
  go_wp2_with (first|((with_reducible refine gate_dst (N := 2) rfl ?_);refine box_event ?hg (N := 2) ?hd (cs := #[.int .i64 a0_0, .slice A0_1 l0_1.length c0_1]) (t := 24) ?hr ?_;(case hd => rfl);(case hg => rfl);(case hr => first|(go_simp;done)|(go_simp;rfl));intro gb240 hg w68 hbox hb;have n0_ := Aside0.mk (below_step (by repeat (with_reducible first|exact HB.out|apply xa|apply xb|apply xc)) hb);have n1_ := Aside0.mk (hbox);have n2_ := Aside0.mk ((by rw [hg];exact (below_size (by repeat (with_reducible first|exact HB.out|apply xa|apply xb|apply xc))) : w.heap.size ≤ gb240));have n3_ := Aside0.mk ((by rw [hg];exact (below_size (by repeat (with_reducible first|exact HB.out|apply xa|apply xb|apply xc))) : w.heap.size ≤ gb240));clear HB;have HB := n0_;have BK240 := n1_;have GW240 := n2_;have GE240 := n3_;clear n0_ n1_ n2_ n3_;clear hb hbox hg)|((with_reducible refine gate_dst (N := 3) rfl ?_);refine box_event ?hg (N := 3) ?hd (cs := #[.int .i32 a1_0, .int .i32 a1_1, .int .i32 a1_2, .int .i32 a1_3]) (t := 44) ?hr ?_;(case hd => rfl);(case hg => rfl);(case hr => first|(go_simp;done)|(go_simp;rfl));intro gb241 hg w69 hbox hb;have n0_ := Aside0.mk (blk_below (g := gb240) (o := .cells #[.int .i64 a0_0, .slice A0_1 l0_1.length c0_1] 24 (0, 0)) (by (with_reducible repeat (first|apply blk_drewN|apply blk_drew|apply blk_alloc));exact BK240.out) hb);have n1_ := Aside0.mk (below_step (by repeat (first|(with_reducible first|exact HB.out|apply xa|apply xb|apply xc|refine below_set ?_ GE240.out)|exact HB.out)) hb);have n2_ := Aside0.mk (hbox);have n3_ := Aside0.mk ((by rw [hg];exact (below_size (by repeat (first|(with_reducible first|exact HB.out|apply xa|apply xb|apply xc|refine below_set ?_ GE240.out)|exact HB.out))) : w.heap.size ≤ gb241));have n4_ := Aside0.mk ((by rw [hg];exact (below_size (by repeat (first|(with_reducible first|exact HB.out|apply xa|apply xb|apply xc|refine below_set ?_ GE240.out)|exact HB.out))) : w.heap.size ≤ gb241));have n5_ := Aside0.mk ((by rw [hg];exact Nat.ne_of_lt (blk_lt (g := gb240) (o := .cells #[.int .i64 a0_0, .slice A0_1 l0_1.length c0_1] 24 (0, 0)) (by (with_reducible repeat (first|apply blk_drewN|apply blk_drew|apply blk_alloc));exact BK240.out)) : gb240 ≠ gb241));have n6_ := Aside0.mk ((by rw [hg];exact Nat.ne_of_gt (blk_lt (g := gb240) (o := .cells #[.int .i64 a0_0, .slice A0_1 l0_1.length c0_1] 24 (0, 0)) (by (with_reducible repeat (first|apply blk_drewN|apply blk_drew|apply blk_alloc));exact BK240.out)) : gb241 ≠ gb240));clear BK240;clear HB;have BK240 := n0_;have HB := n1_;have BK241 := n2_;have GW241 := n3_;have GE241 := n4_;have NB240_241 := n5_;have NB241_240 := n6_;clear n0_ n1_ n2_ n3_ n4_ n5_ n6_;clear hb hbox hg;have hnb70 := NB240_241.out;have hnc70 := NB241_240.out;have hcz71_0 : w69.cell? ⟨gb240, 0, none⟩ = some (.int .i64 a0_0) := (blk_cell BK240.out 0).trans rfl;have hcz71_1 : w69.cell? ⟨gb240, 1, none⟩ = some (.slice A0_1 l0_1.length c0_1) := (blk_cell BK240.out 1).trans rfl;have hfz71_0 := blk_frozen BK240.out 0;have hfz71_1 := blk_frozen BK240.out 1)|((with_reducible refine gate_callee (f := 15) rfl ?_);refine goesL_ (some 14) rfl rfl Try.func15 (by kernel_rfl) rfl #[.agg #[.int .i64 a0_0, .slice A0_1 l0_1.length c0_1]] rfl (by (try simp only [List.map_toArray, List.map_cons, List.map_nil]);first|done|rfl|(simp only [List.length_drop, List.length_take];rfl)) ?_;(with_reducible refine (pinfoldlaw26_fine.calls a0_0 _ _ l0_1 false _ ?side1 ?side2 A3.out).mono ?_);(case side1 => repeat (first|exact (Kd.C_below HR0_1.out HB.out)|(with_reducible refine Kd.C_alloc ?_ _)|(with_reducible refine Kd.C_drewN ?_ _)|(with_reducible refine Kd.C_drew ?_)));(case side2 => exact HC0_1.out);rintro e w72 ⟨rfl, hb⟩;refine ⟨_, rfl, ?_⟩;have n0_ := Aside0.mk (blk_below (g := gb240) (o := .cells #[.int .i64 a0_0, .slice A0_1 l0_1.length c0_1] 24 (0, 0)) (by (with_reducible repeat (first|apply blk_drewN|apply blk_drew|apply blk_alloc));exact BK240.out) hb);have n1_ := Aside0.mk (blk_below (g := gb241) (o := .cells #[.int .i32 a1_0, .int .i32 a1_1, .int .i32 a1_2, .int .i32 a1_3] 44 (0, 0)) (by (with_reducible repeat (first|apply blk_drewN|apply blk_drew|apply blk_alloc));exact BK241.out) hb);have n2_ := Aside0.mk (below_step (by repeat (first|(with_reducible first|exact HB.out|apply xa|apply xb|apply xc|refine below_set ?_ GE240.out|refine below_set ?_ GE241.out)|exact HB.out)) hb);clear BK240;clear BK241;clear HB;have BK240 := n0_;have BK241 := n1_;have HB := n2_;clear n0_ n1_ n2_;(try clear hb);(try clear hb2);(try clear hk);(try clear hi))|((with_reducible refine gate_callee (f := 16) rfl ?_);refine goesL_ (some 16) rfl rfl Try.func16 (by kernel_rfl) rfl #[] rfl (by (try simp only [List.map_toArray, List.map_cons, List.map_nil]);first|done|rfl|(simp only [List.length_drop, List.length_take];rfl)) ?_;(with_reducible refine (pinfoldlaw26_lives.calls k  t243 _ A67.out).mono ?_);rintro e w73 ⟨rfl, hb⟩;refine ⟨_, rfl, ?_⟩;have n0_ := Aside0.mk (blk_below (g := gb240) (o := .cells #[.int .i64 a0_0, .slice A0_1 l0_1.length c0_1] 24 (0, 0)) (by (with_reducible repeat (first|apply blk_drewN|apply blk_drew|apply blk_alloc));exact BK240.out) hb);have n1_ := Aside0.mk (blk_below (g := gb241) (o := .cells #[.int .i32 a1_0, .int .i32 a1_1, .int .i32 a1_2, .int .i32 a1_3] 44 (0, 0)) (by (with_reducible repeat (first|apply blk_drewN|apply blk_drew|apply blk_alloc));exact BK241.out) hb);have n2_ := Aside0.mk (below_step (by repeat (first|(with_reducible first|exact HB.out|apply xa|apply xb|apply xc|refine below_set ?_ GE240.out|refine below_set ?_ GE241.out)|exact HB.out)) hb);clear BK240;clear BK241;clear HB;have BK240 := n0_;have BK241 := n1_;have HB := n2_;clear n0_ n1_ n2_;(try clear hb);(try clear hb2);(try clear hk);(try clear hi)))
  go_ret
  exact ⟨by first|rfl|(simp [errW_none, errW_some] <;> rfl)|(simp [*, errW_none, errW_some] <;> rfl), by repeat (first|(with_reducible first|exact HB.out|apply xa|apply xb|apply xc|refine below_set ?_ GE240.out|refine below_set ?_ GE241.out)|exact HB.out)⟩

/-! ### pinfoldref26_Goes: function 17 -/
def pinfoldref26_Goes.f (a0_0 : Int) (l0_1 : List (S41)) (a1 : Int) (a2 : Int) : Option (Bool) := if a1 < 0 then (some false) else (if a1 ≥ (l0_1.length : Int) then (some false) else (if 0 ≤ a1 then (if a1 < (l0_1.length : Int) then (if ((rd_T41 l0_1 a1).f0) = 4 then (if a2 = (wrap64 ((rd_T41 l0_1 a1).f3)) then (some true) else (some false)) else (if ((rd_T41 l0_1 a1).f0) = 5 then (if ((rd_T41 l0_1 a1).f0) = 14 then (if a2 = (wrap64 ((rd_T41 l0_1 a1).f3)) then (some true) else (some false)) else (if a2 = (wrap64 ((rd_T41 l0_1 a1).f3)) then (some true) else (some (a2 == (wrap64 (a1 + 1)))))) else (if ((rd_T41 l0_1 a1).f0) = 14 then (some false) else (some (a2 == (wrap64 (a1 + 1))))))) else (none)) else (none)))
set_option maxHeartbeats 8000000 in
set_option maxRecDepth 100000 in
theorem pinfoldref26_Goes.calls (a0_0 : Int) (A0_1 : Option Addr) (c0_1 : Nat) (l0_1 : List (S41)) (a1 : Int) (a2 : Int) (r : Bool) (w : World) (hr0_1 : Kd.C k41 w A0_1 l0_1.length l0_1) (hc0_1 : l0_1.length ≤ c0_1) (h : pinfoldref26_Goes.f a0_0 l0_1 a1 a2 = some r) :
  Calls Try.prog 17 #[.agg #[.int .i64 a0_0, .slice A0_1 l0_1.length c0_1], .int .i64 a1, .int .i64 a2] w fun e w' => e = .returned (.bool r) ∧ Below w.heap.size w w' := by
 have hu24 := Try.underlying24
 have hu41 := Try.underlying41
 have HR0_1 := Aside0.mk hr0_1
 have HC0_1 := Aside0.mk hc0_1
 clear hr0_1 hc0_1
 have HB := Aside0.mk (Below.refl w.heap.size w)
 have H : (if a1 < 0 then (some false) else (if a1 ≥ (l0_1.length : Int) then (some false) else (if 0 ≤ a1 then (if a1 < (l0_1.length : Int) then (if ((rd_T41 l0_1 a1).f0) = 4 then (if a2 = (wrap64 ((rd_T41 l0_1 a1).f3)) then (some true) else (some false)) else (if ((rd_T41 l0_1 a1).f0) = 5 then (if ((rd_T41 l0_1 a1).f0) = 14 then (if a2 = (wrap64 ((rd_T41 l0_1 a1).f3)) then (some true) else (some false)) else (if a2 = (wrap64 ((rd_T41 l0_1 a1).f3)) then (some true) else (some (a2 == (wrap64 (a1 + 1)))))) else (if ((rd_T41 l0_1 a1).f0) = 14 then (some false) else (some (a2 == (wrap64 (a1 + 1))))))) else (none)) else (none)))) = some r := h
 clear h
 by_cases c4 : a1 < 0
 ·rw [if_pos c4] at H
  have c4b0 : decide (a1 < 0) = true := decide_eq_true c4
  clear c4
  obtain rfl := Option.some.inj H
  go_enter Try.func17, Try.ntmps17
  go_wp2_with (first|((with_reducible refine gate_dst (N := 3) rfl ?_);(try (refine gate_guard (by rfl) ?_;dsimp only));refine box_event ?hg (N := 3) ?hd (cs := #[.int .i64 a0_0, .slice A0_1 l0_1.length c0_1]) (t := 24) ?hr ?_;(case hd => rfl);(case hg => rfl);(case hr => first|(go_simp;done)|(go_simp;rfl));intro gb264 hg w5 hbox hb;have n0_ := Aside0.mk (below_step (by repeat (with_reducible first|exact HB.out|apply xa|apply xb|apply xc)) hb);have n1_ := Aside0.mk (hbox);have n2_ := Aside0.mk ((by rw [hg];exact (below_size (by repeat (with_reducible first|exact HB.out|apply xa|apply xb|apply xc))) : w.heap.size ≤ gb264));have n3_ := Aside0.mk ((by rw [hg];exact (below_size (by repeat (with_reducible first|exact HB.out|apply xa|apply xb|apply xc))) : w.heap.size ≤ gb264));clear HB;have HB := n0_;have BK264 := n1_;have GW264 := n2_;have GE264 := n3_;clear n0_ n1_ n2_ n3_;clear hb hbox hg))
  go_ret
  exact ⟨by first|rfl|(simp [errW_none, errW_some] <;> rfl)|(simp [*, errW_none, errW_some] <;> rfl), by repeat (first|(with_reducible first|exact HB.out|apply xa|apply xb|apply xc|refine below_set ?_ GE264.out)|exact HB.out)⟩
 ·rw [if_neg c4] at H
  have c4b0 : decide (a1 < 0) = false := decide_eq_false c4
  clear c4
  by_cases c6 : a1 ≥ (l0_1.length : Int)
  ·rw [if_pos c6] at H
   have c6b0 : decide ((l0_1.length : Int) ≤ a1) = true := decide_eq_true c6
   clear c6
   obtain rfl := Option.some.inj H
   go_enter Try.func17, Try.ntmps17
   go_wp2_with (first|((with_reducible refine gate_dst (N := 3) rfl ?_);(try (refine gate_guard (by rfl) ?_;dsimp only));refine box_event ?hg (N := 3) ?hd (cs := #[.int .i64 a0_0, .slice A0_1 l0_1.length c0_1]) (t := 24) ?hr ?_;(case hd => rfl);(case hg => rfl);(case hr => first|(go_simp;done)|(go_simp;rfl));intro gb264 hg w7 hbox hb;have n0_ := Aside0.mk (below_step (by repeat (with_reducible first|exact HB.out|apply xa|apply xb|apply xc)) hb);have n1_ := Aside0.mk (hbox);have n2_ := Aside0.mk ((by rw [hg];exact (below_size (by repeat (with_reducible first|exact HB.out|apply xa|apply xb|apply xc))) : w.heap.size ≤ gb264));have n3_ := Aside0.mk ((by rw [hg];exact (below_size (by repeat (with_reducible first|exact HB.out|apply xa|apply xb|apply xc))) : w.heap.size ≤ gb264));clear HB;have HB := n0_;have BK264 := n1_;have GW264 := n2_;have GE264 := n3_;clear n0_ n1_ n2_ n3_;clear hb hbox hg;have hcz8_0 : w7.cell? ⟨gb264, 0, none⟩ = some (.int .i64 a0_0) := (blk_cell BK264.out 0).trans rfl;have hcz8_1 : w7.cell? ⟨gb264, 1, none⟩ = some (.slice A0_1 l0_1.length c0_1) := (blk_cell BK264.out 1).trans rfl;have hfz8_0 := blk_frozen BK264.out 0;have hfz8_1 := blk_frozen BK264.out 1))
   go_ret
   exact ⟨by first|rfl|(simp [errW_none, errW_some] <;> rfl)|(simp [*, errW_none, errW_some] <;> rfl), by repeat (first|(with_reducible first|exact HB.out|apply xa|apply xb|apply xc|refine below_set ?_ GE264.out)|exact HB.out)⟩
  ·rw [if_neg c6] at H
   have c6b0 : decide ((l0_1.length : Int) ≤ a1) = false := decide_eq_false c6
   clear c6
   by_cases c9 : 0 ≤ a1
   ·rw [if_pos c9] at H
    have c9b0 : decide (0 ≤ a1) = true := decide_eq_true c9
    clear c9
    by_cases c10 : a1 < (l0_1.length : Int)
    ·rw [if_pos c10] at H
     have c10b0 : decide (a1 < (l0_1.length : Int)) = true := decide_eq_true c10
     clear c10
     by_cases c11 : ((rd_T41 l0_1 a1).f0) = 4
     ·rw [if_pos c11] at H
      have c11b0 : (((rd_T41 l0_1 a1).f0) == 4) = true := beq_iff_eq.mpr c11
      have c11b1 : (((rd_T41 l0_1 a1).f0) != 4) = false := bne_eq_false_iff_eq.mpr c11
      clear c11
      by_cases c12 : a2 = (wrap64 ((rd_T41 l0_1 a1).f3))
      ·rw [if_pos c12] at H
       have c12b0 : (a2 == (wrap64 ((rd_T41 l0_1 a1).f3))) = true := beq_iff_eq.mpr c12
       have c12b1 : (a2 != (wrap64 ((rd_T41 l0_1 a1).f3))) = false := bne_eq_false_iff_eq.mpr c12
       clear c12
       obtain rfl := Option.some.inj H
       go_enter Try.func17, Try.ntmps17
       go_wp2_with (first|((with_reducible refine gate_dst (N := 3) rfl ?_);(try (refine gate_guard (by rfl) ?_;dsimp only));refine box_event ?hg (N := 3) ?hd (cs := #[.int .i64 a0_0, .slice A0_1 l0_1.length c0_1]) (t := 24) ?hr ?_;(case hd => rfl);(case hg => rfl);(case hr => first|(go_simp;done)|(go_simp;rfl));intro gb264 hg w13 hbox hb;have n0_ := Aside0.mk (below_step (by repeat (with_reducible first|exact HB.out|apply xa|apply xb|apply xc)) hb);have n1_ := Aside0.mk (hbox);have n2_ := Aside0.mk ((by rw [hg];exact (below_size (by repeat (with_reducible first|exact HB.out|apply xa|apply xb|apply xc))) : w.heap.size ≤ gb264));have n3_ := Aside0.mk ((by rw [hg];exact (below_size (by repeat (with_reducible first|exact HB.out|apply xa|apply xb|apply xc))) : w.heap.size ≤ gb264));clear HB;have HB := n0_;have BK264 := n1_;have GW264 := n2_;have GE264 := n3_;clear n0_ n1_ n2_ n3_;clear hb hbox hg;have hcz14_0 : w13.cell? ⟨gb264, 0, none⟩ = some (.int .i64 a0_0) := (blk_cell BK264.out 0).trans rfl;have hcz14_1 : w13.cell? ⟨gb264, 1, none⟩ = some (.slice A0_1 l0_1.length c0_1) := (blk_cell BK264.out 1).trans rfl;have hfz14_0 := blk_frozen BK264.out 0;have hfz14_1 := blk_frozen BK264.out 1;have p265 : 0 ≤ (a1 : Int) := of_decide_eq_true (by assumption);have q265 : a1 < (l0_1.length : Int) := of_decide_eq_true (by assumption);obtain ⟨ad265, e265, hx265_0, hx265_1, hx265_2, hx265_3⟩ := at_T41 HR0_1.out a1 p265 q265;cases e265;replace hx265_0 := (HB.out.cell (World.block_lt_of_cell? w _ hx265_0)).trans hx265_0;replace hx265_1 := (HB.out.cell (World.block_lt_of_cell? w _ hx265_1)).trans hx265_1;replace hx265_2 := (HB.out.cell (World.block_lt_of_cell? w _ hx265_2)).trans hx265_2;replace hx265_3 := (HB.out.cell (World.block_lt_of_cell? w _ hx265_3)).trans hx265_3;replace p265 := eq_true p265;replace q265 := eq_true q265)|((with_reducible refine gate_dst (N := 7) rfl ?_);(try (refine gate_guard (by rfl) ?_;dsimp only));refine box_event ?hg (N := 7) ?hd (cs := #[.int .i64 0, .int .i64 0, .int .i64 0, .int .i32 0]) (t := 41) ?hr ?_;(case hd => rfl);(case hg => rfl);(case hr => first|(go_simp;done)|(go_simp;rfl));intro gb266 hg w15 hbox hb;have n0_ := Aside0.mk (blk_below (g := gb264) (o := .cells #[.int .i64 a0_0, .slice (some ad265) l0_1.length c0_1] 24 (0, 0)) (by (with_reducible repeat (first|apply blk_drewN|apply blk_drew|apply blk_alloc));exact BK264.out) hb);have n1_ := Aside0.mk (below_step (by repeat (first|(with_reducible first|exact HB.out|apply xa|apply xb|apply xc|refine below_set ?_ GE264.out)|exact HB.out)) hb);have n2_ := Aside0.mk (hbox);have n3_ := Aside0.mk ((by rw [hg];exact (below_size (by repeat (first|(with_reducible first|exact HB.out|apply xa|apply xb|apply xc|refine below_set ?_ GE264.out)|exact HB.out))) : w.heap.size ≤ gb266));have n4_ := Aside0.mk ((by rw [hg];exact (below_size (by repeat (first|(with_reducible first|exact HB.out|apply xa|apply xb|apply xc|refine below_set ?_ GE264.out)|exact HB.out))) : w.heap.size ≤ gb266));have n5_ := Aside0.mk ((by rw [hg];exact Nat.ne_of_lt (blk_lt (g := gb264) (o := .cells #[.int .i64 a0_0, .slice (some ad265) l0_1.length c0_1] 24 (0, 0)) (by (with_reducible repeat (first|apply blk_drewN|apply blk_drew|apply blk_alloc));exact BK264.out)) : gb264 ≠ gb266));have n6_ := Aside0.mk ((by rw [hg];exact Nat.ne_of_gt (blk_lt (g := gb264) (o := .cells #[.int .i64 a0_0, .slice (some ad265) l0_1.length c0_1] 24 (0, 0)) (by (with_reducible repeat (first|apply blk_drewN|apply blk_drew|apply blk_alloc));exact BK264.out)) : gb266 ≠ gb264));clear BK264;clear HB;have BK264 := n0_;have HB := n1_;have BK266 := n2_;have GW266 := n3_;have GE266 := n4_;have NB264_266 := n5_;have NB266_264 := n6_;clear n0_ n1_ n2_ n3_ n4_ n5_ n6_;clear hb hbox hg;have hnb16 := NB266_264.out;have hnc16 := NB264_266.out;have hcz17_0 : w15.cell? ⟨gb266, 0, none⟩ = some (.int .i64 0) := (blk_cell BK266.out 0).trans rfl;have hcz17_1 : w15.cell? ⟨gb266, 1, none⟩ = some (.int .i64 0) := (blk_cell BK266.out 1).trans rfl;have hcz17_2 : w15.cell? ⟨gb266, 2, none⟩ = some (.int .i64 0) := (blk_cell BK266.out 2).trans rfl;have hcz17_3 : w15.cell? ⟨gb266, 3, none⟩ = some (.int .i32 0) := (blk_cell BK266.out 3).trans rfl;have hfz17_0 := blk_frozen BK266.out 0;have hfz17_1 := blk_frozen BK266.out 1;have hfz17_2 := blk_frozen BK266.out 2;have hfz17_3 := blk_frozen BK266.out 3))
       go_ret
       exact ⟨by first|rfl|(simp [errW_none, errW_some] <;> rfl)|(simp [*, errW_none, errW_some] <;> rfl), by repeat (first|(with_reducible first|exact HB.out|apply xa|apply xb|apply xc|refine below_set ?_ GE264.out|refine below_set ?_ GE266.out)|exact HB.out)⟩
      ·rw [if_neg c12] at H
       have c12b0 : (a2 == (wrap64 ((rd_T41 l0_1 a1).f3))) = false := beq_eq_false_iff_ne.mpr c12
       have c12b1 : (a2 != (wrap64 ((rd_T41 l0_1 a1).f3))) = true := bne_iff_ne.mpr c12
       obtain rfl := Option.some.inj H
       go_enter Try.func17, Try.ntmps17
       go_wp2_with (first|((with_reducible refine gate_dst (N := 3) rfl ?_);(try (refine gate_guard (by rfl) ?_;dsimp only));refine box_event ?hg (N := 3) ?hd (cs := #[.int .i64 a0_0, .slice A0_1 l0_1.length c0_1]) (t := 24) ?hr ?_;(case hd => rfl);(case hg => rfl);(case hr => first|(go_simp;done)|(go_simp;rfl));intro gb264 hg w18 hbox hb;have n0_ := Aside0.mk (below_step (by repeat (with_reducible first|exact HB.out|apply xa|apply xb|apply xc)) hb);have n1_ := Aside0.mk (hbox);have n2_ := Aside0.mk ((by rw [hg];exact (below_size (by repeat (with_reducible first|exact HB.out|apply xa|apply xb|apply xc))) : w.heap.size ≤ gb264));have n3_ := Aside0.mk ((by rw [hg];exact (below_size (by repeat (with_reducible first|exact HB.out|apply xa|apply xb|apply xc))) : w.heap.size ≤ gb264));clear HB;have HB := n0_;have BK264 := n1_;have GW264 := n2_;have GE264 := n3_;clear n0_ n1_ n2_ n3_;clear hb hbox hg;have hcz19_0 : w18.cell? ⟨gb264, 0, none⟩ = some (.int .i64 a0_0) := (blk_cell BK264.out 0).trans rfl;have hcz19_1 : w18.cell? ⟨gb264, 1, none⟩ = some (.slice A0_1 l0_1.length c0_1) := (blk_cell BK264.out 1).trans rfl;have hfz19_0 := blk_frozen BK264.out 0;have hfz19_1 := blk_frozen BK264.out 1;have p265 : 0 ≤ (a1 : Int) := of_decide_eq_true (by assumption);have q265 : a1 < (l0_1.length : Int) := of_decide_eq_true (by assumption);obtain ⟨ad265, e265, hx265_0, hx265_1, hx265_2, hx265_3⟩ := at_T41 HR0_1.out a1 p265 q265;cases e265;replace hx265_0 := (HB.out.cell (World.block_lt_of_cell? w _ hx265_0)).trans hx265_0;replace hx265_1 := (HB.out.cell (World.block_lt_of_cell? w _ hx265_1)).trans hx265_1;replace hx265_2 := (HB.out.cell (World.block_lt_of_cell? w _ hx265_2)).trans hx265_2;replace hx265_3 := (HB.out.cell (World.block_lt_of_cell? w _ hx265_3)).trans hx265_3;replace p265 := eq_true p265;replace q265 := eq_true q265)|((with_reducible refine gate_dst (N := 7) rfl ?_);(try (refine gate_guard (by rfl) ?_;dsimp only));refine box_event ?hg (N := 7) ?hd (cs := #[.int .i64 0, .int .i64 0, .int .i64 0, .int .i32 0]) (t := 41) ?hr ?_;(case hd => rfl);(case hg => rfl);(case hr => first|(go_simp;done)|(go_simp;rfl));intro gb266 hg w20 hbox hb;have n0_ := Aside0.mk (blk_below (g := gb264) (o := .cells #[.int .i64 a0_0, .slice (some ad265) l0_1.length c0_1] 24 (0, 0)) (by (with_reducible repeat (first|apply blk_drewN|apply blk_drew|apply blk_alloc));exact BK264.out) hb);have n1_ := Aside0.mk (below_step (by repeat (first|(with_reducible first|exact HB.out|apply xa|apply xb|apply xc|refine below_set ?_ GE264.out)|exact HB.out)) hb);have n2_ := Aside0.mk (hbox);have n3_ := Aside0.mk ((by rw [hg];exact (below_size (by repeat (first|(with_reducible first|exact HB.out|apply xa|apply xb|apply xc|refine below_set ?_ GE264.out)|exact HB.out))) : w.heap.size ≤ gb266));have n4_ := Aside0.mk ((by rw [hg];exact (below_size (by repeat (first|(with_reducible first|exact HB.out|apply xa|apply xb|apply xc|refine below_set ?_ GE264.out)|exact HB.out))) : w.heap.size ≤ gb266));have n5_ := Aside0.mk ((by rw [hg];exact Nat.ne_of_lt (blk_lt (g := gb264) (o := .cells #[.int .i64 a0_0, .slice (some ad265) l0_1.length c0_1] 24 (0, 0)) (by (with_reducible repeat (first|apply blk_drewN|apply blk_drew|apply blk_alloc));exact BK264.out)) : gb264 ≠ gb266));have n6_ := Aside0.mk ((by rw [hg];exact Nat.ne_of_gt (blk_lt (g := gb264) (o := .cells #[.int .i64 a0_0, .slice (some ad265) l0_1.length c0_1] 24 (0, 0)) (by (with_reducible repeat (first|apply blk_drewN|apply blk_drew|apply blk_alloc));exact BK264.out)) : gb266 ≠ gb264));clear BK264;clear HB;have BK264 := n0_;have HB := n1_;have BK266 := n2_;have GW266 := n3_;have GE266 := n4_;have NB264_266 := n5_;have NB266_264 := n6_;clear n0_ n1_ n2_ n3_ n4_ n5_ n6_;clear hb hbox hg;have hnb21 := NB266_264.out;have hnc21 := NB264_266.out;have hcz22_0 : w20.cell? ⟨gb266, 0, none⟩ = some (.int .i64 0) := (blk_cell BK266.out 0).trans rfl;have hcz22_1 : w20.cell? ⟨gb266, 1, none⟩ = some (.int .i64 0) := (blk_cell BK266.out 1).trans rfl;have hcz22_2 : w20.cell? ⟨gb266, 2, none⟩ = some (.int .i64 0) := (blk_cell BK266.out 2).trans rfl;have hcz22_3 : w20.cell? ⟨gb266, 3, none⟩ = some (.int .i32 0) := (blk_cell BK266.out 3).trans rfl;have hfz22_0 := blk_frozen BK266.out 0;have hfz22_1 := blk_frozen BK266.out 1;have hfz22_2 := blk_frozen BK266.out 2;have hfz22_3 := blk_frozen BK266.out 3))
       go_ret
       exact ⟨by first|rfl|(simp [errW_none, errW_some] <;> rfl)|(simp [*, errW_none, errW_some] <;> rfl), by repeat (first|(with_reducible first|exact HB.out|apply xa|apply xb|apply xc|refine below_set ?_ GE264.out|refine below_set ?_ GE266.out)|exact HB.out)⟩
     ·rw [if_neg c11] at H
      have c11b0 : (((rd_T41 l0_1 a1).f0) == 4) = false := beq_eq_false_iff_ne.mpr c11
      have c11b1 : (((rd_T41 l0_1 a1).f0) != 4) = true := bne_iff_ne.mpr c11
      by_cases c23 : ((rd_T41 l0_1 a1).f0) = 5
      ·rw [if_pos c23] at H
       have c23b0 : (((rd_T41 l0_1 a1).f0) == 5) = true := beq_iff_eq.mpr c23
       have c23b1 : (((rd_T41 l0_1 a1).f0) != 5) = false := bne_eq_false_iff_eq.mpr c23
       clear c23
       by_cases c24 : ((rd_T41 l0_1 a1).f0) = 14
       ·rw [if_pos c24] at H
        have c24b0 : (((rd_T41 l0_1 a1).f0) == 14) = true := beq_iff_eq.mpr c24
        have c24b1 : (((rd_T41 l0_1 a1).f0) != 14) = false := bne_eq_false_iff_eq.mpr c24
        clear c24
        by_cases c25 : a2 = (wrap64 ((rd_T41 l0_1 a1).f3))
        ·rw [if_pos c25] at H
         have c25b0 : (a2 == (wrap64 ((rd_T41 l0_1 a1).f3))) = true := beq_iff_eq.mpr c25
         have c25b1 : (a2 != (wrap64 ((rd_T41 l0_1 a1).f3))) = false := bne_eq_false_iff_eq.mpr c25
         clear c25
         obtain rfl := Option.some.inj H
         go_enter Try.func17, Try.ntmps17
         go_wp2_with (first|((with_reducible refine gate_dst (N := 3) rfl ?_);(try (refine gate_guard (by rfl) ?_;dsimp only));refine box_event ?hg (N := 3) ?hd (cs := #[.int .i64 a0_0, .slice A0_1 l0_1.length c0_1]) (t := 24) ?hr ?_;(case hd => rfl);(case hg => rfl);(case hr => first|(go_simp;done)|(go_simp;rfl));intro gb264 hg w26 hbox hb;have n0_ := Aside0.mk (below_step (by repeat (with_reducible first|exact HB.out|apply xa|apply xb|apply xc)) hb);have n1_ := Aside0.mk (hbox);have n2_ := Aside0.mk ((by rw [hg];exact (below_size (by repeat (with_reducible first|exact HB.out|apply xa|apply xb|apply xc))) : w.heap.size ≤ gb264));have n3_ := Aside0.mk ((by rw [hg];exact (below_size (by repeat (with_reducible first|exact HB.out|apply xa|apply xb|apply xc))) : w.heap.size ≤ gb264));clear HB;have HB := n0_;have BK264 := n1_;have GW264 := n2_;have GE264 := n3_;clear n0_ n1_ n2_ n3_;clear hb hbox hg;have hcz27_0 : w26.cell? ⟨gb264, 0, none⟩ = some (.int .i64 a0_0) := (blk_cell BK264.out 0).trans rfl;have hcz27_1 : w26.cell? ⟨gb264, 1, none⟩ = some (.slice A0_1 l0_1.length c0_1) := (blk_cell BK264.out 1).trans rfl;have hfz27_0 := blk_frozen BK264.out 0;have hfz27_1 := blk_frozen BK264.out 1;have p265 : 0 ≤ (a1 : Int) := of_decide_eq_true (by assumption);have q265 : a1 < (l0_1.length : Int) := of_decide_eq_true (by assumption);obtain ⟨ad265, e265, hx265_0, hx265_1, hx265_2, hx265_3⟩ := at_T41 HR0_1.out a1 p265 q265;cases e265;replace hx265_0 := (HB.out.cell (World.block_lt_of_cell? w _ hx265_0)).trans hx265_0;replace hx265_1 := (HB.out.cell (World.block_lt_of_cell? w _ hx265_1)).trans hx265_1;replace hx265_2 := (HB.out.cell (World.block_lt_of_cell? w _ hx265_2)).trans hx265_2;replace hx265_3 := (HB.out.cell (World.block_lt_of_cell? w _ hx265_3)).trans hx265_3;replace p265 := eq_true p265;replace q265 := eq_true q265)|((with_reducible refine gate_dst (N := 7) rfl ?_);(try (refine gate_guard (by rfl) ?_;dsimp only));refine box_event ?hg (N := 7) ?hd (cs := #[.int .i64 0, .int .i64 0, .int .i64 0, .int .i32 0]) (t := 41) ?hr ?_;(case hd => rfl);(case hg => rfl);(case hr => first|(go_simp;done)|(go_simp;rfl));intro gb266 hg w28 hbox hb;have n0_ := Aside0.mk (blk_below (g := gb264) (o := .cells #[.int .i64 a0_0, .slice (some ad265) l0_1.length c0_1] 24 (0, 0)) (by (with_reducible repeat (first|apply blk_drewN|apply blk_drew|apply blk_alloc));exact BK264.out) hb);have n1_ := Aside0.mk (below_step (by repeat (first|(with_reducible first|exact HB.out|apply xa|apply xb|apply xc|refine below_set ?_ GE264.out)|exact HB.out)) hb);have n2_ := Aside0.mk (hbox);have n3_ := Aside0.mk ((by rw [hg];exact (below_size (by repeat (first|(with_reducible first|exact HB.out|apply xa|apply xb|apply xc|refine below_set ?_ GE264.out)|exact HB.out))) : w.heap.size ≤ gb266));have n4_ := Aside0.mk ((by rw [hg];exact (below_size (by repeat (first|(with_reducible first|exact HB.out|apply xa|apply xb|apply xc|refine below_set ?_ GE264.out)|exact HB.out))) : w.heap.size ≤ gb266));have n5_ := Aside0.mk ((by rw [hg];exact Nat.ne_of_lt (blk_lt (g := gb264) (o := .cells #[.int .i64 a0_0, .slice (some ad265) l0_1.length c0_1] 24 (0, 0)) (by (with_reducible repeat (first|apply blk_drewN|apply blk_drew|apply blk_alloc));exact BK264.out)) : gb264 ≠ gb266));have n6_ := Aside0.mk ((by rw [hg];exact Nat.ne_of_gt (blk_lt (g := gb264) (o := .cells #[.int .i64 a0_0, .slice (some ad265) l0_1.length c0_1] 24 (0, 0)) (by (with_reducible repeat (first|apply blk_drewN|apply blk_drew|apply blk_alloc));exact BK264.out)) : gb266 ≠ gb264));clear BK264;clear HB;have BK264 := n0_;have HB := n1_;have BK266 := n2_;have GW266 := n3_;have GE266 := n4_;have NB264_266 := n5_;have NB266_264 := n6_;clear n0_ n1_ n2_ n3_ n4_ n5_ n6_;clear hb hbox hg;have hnb29 := NB266_264.out;have hnc29 := NB264_266.out;have hcz30_0 : w28.cell? ⟨gb266, 0, none⟩ = some (.int .i64 0) := (blk_cell BK266.out 0).trans rfl;have hcz30_1 : w28.cell? ⟨gb266, 1, none⟩ = some (.int .i64 0) := (blk_cell BK266.out 1).trans rfl;have hcz30_2 : w28.cell? ⟨gb266, 2, none⟩ = some (.int .i64 0) := (blk_cell BK266.out 2).trans rfl;have hcz30_3 : w28.cell? ⟨gb266, 3, none⟩ = some (.int .i32 0) := (blk_cell BK266.out 3).trans rfl;have hfz30_0 := blk_frozen BK266.out 0;have hfz30_1 := blk_frozen BK266.out 1;have hfz30_2 := blk_frozen BK266.out 2;have hfz30_3 := blk_frozen BK266.out 3))
         go_ret
         exact ⟨by first|rfl|(simp [errW_none, errW_some] <;> rfl)|(simp [*, errW_none, errW_some] <;> rfl), by repeat (first|(with_reducible first|exact HB.out|apply xa|apply xb|apply xc|refine below_set ?_ GE264.out|refine below_set ?_ GE266.out)|exact HB.out)⟩
        ·rw [if_neg c25] at H
         have c25b0 : (a2 == (wrap64 ((rd_T41 l0_1 a1).f3))) = false := beq_eq_false_iff_ne.mpr c25
         have c25b1 : (a2 != (wrap64 ((rd_T41 l0_1 a1).f3))) = true := bne_iff_ne.mpr c25
         obtain rfl := Option.some.inj H
         go_enter Try.func17, Try.ntmps17
         go_wp2_with (first|((with_reducible refine gate_dst (N := 3) rfl ?_);(try (refine gate_guard (by rfl) ?_;dsimp only));refine box_event ?hg (N := 3) ?hd (cs := #[.int .i64 a0_0, .slice A0_1 l0_1.length c0_1]) (t := 24) ?hr ?_;(case hd => rfl);(case hg => rfl);(case hr => first|(go_simp;done)|(go_simp;rfl));intro gb264 hg w31 hbox hb;have n0_ := Aside0.mk (below_step (by repeat (with_reducible first|exact HB.out|apply xa|apply xb|apply xc)) hb);have n1_ := Aside0.mk (hbox);have n2_ := Aside0.mk ((by rw [hg];exact (below_size (by repeat (with_reducible first|exact HB.out|apply xa|apply xb|apply xc))) : w.heap.size ≤ gb264));have n3_ := Aside0.mk ((by rw [hg];exact (below_size (by repeat (with_reducible first|exact HB.out|apply xa|apply xb|apply xc))) : w.heap.size ≤ gb264));clear HB;have HB := n0_;have BK264 := n1_;have GW264 := n2_;have GE264 := n3_;clear n0_ n1_ n2_ n3_;clear hb hbox hg;have hcz32_0 : w31.cell? ⟨gb264, 0, none⟩ = some (.int .i64 a0_0) := (blk_cell BK264.out 0).trans rfl;have hcz32_1 : w31.cell? ⟨gb264, 1, none⟩ = some (.slice A0_1 l0_1.length c0_1) := (blk_cell BK264.out 1).trans rfl;have hfz32_0 := blk_frozen BK264.out 0;have hfz32_1 := blk_frozen BK264.out 1;have p265 : 0 ≤ (a1 : Int) := of_decide_eq_true (by assumption);have q265 : a1 < (l0_1.length : Int) := of_decide_eq_true (by assumption);obtain ⟨ad265, e265, hx265_0, hx265_1, hx265_2, hx265_3⟩ := at_T41 HR0_1.out a1 p265 q265;cases e265;replace hx265_0 := (HB.out.cell (World.block_lt_of_cell? w _ hx265_0)).trans hx265_0;replace hx265_1 := (HB.out.cell (World.block_lt_of_cell? w _ hx265_1)).trans hx265_1;replace hx265_2 := (HB.out.cell (World.block_lt_of_cell? w _ hx265_2)).trans hx265_2;replace hx265_3 := (HB.out.cell (World.block_lt_of_cell? w _ hx265_3)).trans hx265_3;replace p265 := eq_true p265;replace q265 := eq_true q265)|((with_reducible refine gate_dst (N := 7) rfl ?_);(try (refine gate_guard (by rfl) ?_;dsimp only));refine box_event ?hg (N := 7) ?hd (cs := #[.int .i64 0, .int .i64 0, .int .i64 0, .int .i32 0]) (t := 41) ?hr ?_;(case hd => rfl);(case hg => rfl);(case hr => first|(go_simp;done)|(go_simp;rfl));intro gb266 hg w33 hbox hb;have n0_ := Aside0.mk (blk_below (g := gb264) (o := .cells #[.int .i64 a0_0, .slice (some ad265) l0_1.length c0_1] 24 (0, 0)) (by (with_reducible repeat (first|apply blk_drewN|apply blk_drew|apply blk_alloc));exact BK264.out) hb);have n1_ := Aside0.mk (below_step (by repeat (first|(with_reducible first|exact HB.out|apply xa|apply xb|apply xc|refine below_set ?_ GE264.out)|exact HB.out)) hb);have n2_ := Aside0.mk (hbox);have n3_ := Aside0.mk ((by rw [hg];exact (below_size (by repeat (first|(with_reducible first|exact HB.out|apply xa|apply xb|apply xc|refine below_set ?_ GE264.out)|exact HB.out))) : w.heap.size ≤ gb266));have n4_ := Aside0.mk ((by rw [hg];exact (below_size (by repeat (first|(with_reducible first|exact HB.out|apply xa|apply xb|apply xc|refine below_set ?_ GE264.out)|exact HB.out))) : w.heap.size ≤ gb266));have n5_ := Aside0.mk ((by rw [hg];exact Nat.ne_of_lt (blk_lt (g := gb264) (o := .cells #[.int .i64 a0_0, .slice (some ad265) l0_1.length c0_1] 24 (0, 0)) (by (with_reducible repeat (first|apply blk_drewN|apply blk_drew|apply blk_alloc));exact BK264.out)) : gb264 ≠ gb266));have n6_ := Aside0.mk ((by rw [hg];exact Nat.ne_of_gt (blk_lt (g := gb264) (o := .cells #[.int .i64 a0_0, .slice (some ad265) l0_1.length c0_1] 24 (0, 0)) (by (with_reducible repeat (first|apply blk_drewN|apply blk_drew|apply blk_alloc));exact BK264.out)) : gb266 ≠ gb264));clear BK264;clear HB;have BK264 := n0_;have HB := n1_;have BK266 := n2_;have GW266 := n3_;have GE266 := n4_;have NB264_266 := n5_;have NB266_264 := n6_;clear n0_ n1_ n2_ n3_ n4_ n5_ n6_;clear hb hbox hg;have hnb34 := NB266_264.out;have hnc34 := NB264_266.out;have hcz35_0 : w33.cell? ⟨gb266, 0, none⟩ = some (.int .i64 0) := (blk_cell BK266.out 0).trans rfl;have hcz35_1 : w33.cell? ⟨gb266, 1, none⟩ = some (.int .i64 0) := (blk_cell BK266.out 1).trans rfl;have hcz35_2 : w33.cell? ⟨gb266, 2, none⟩ = some (.int .i64 0) := (blk_cell BK266.out 2).trans rfl;have hcz35_3 : w33.cell? ⟨gb266, 3, none⟩ = some (.int .i32 0) := (blk_cell BK266.out 3).trans rfl;have hfz35_0 := blk_frozen BK266.out 0;have hfz35_1 := blk_frozen BK266.out 1;have hfz35_2 := blk_frozen BK266.out 2;have hfz35_3 := blk_frozen BK266.out 3))
         go_ret
         exact ⟨by first|rfl|(simp [errW_none, errW_some] <;> rfl)|(simp [*, errW_none, errW_some] <;> rfl), by repeat (first|(with_reducible first|exact HB.out|apply xa|apply xb|apply xc|refine below_set ?_ GE264.out|refine below_set ?_ GE266.out)|exact HB.out)⟩
       ·rw [if_neg c24] at H
        have c24b0 : (((rd_T41 l0_1 a1).f0) == 14) = false := beq_eq_false_iff_ne.mpr c24
        have c24b1 : (((rd_T41 l0_1 a1).f0) != 14) = true := bne_iff_ne.mpr c24
        by_cases c36 : a2 = (wrap64 ((rd_T41 l0_1 a1).f3))
        ·rw [if_pos c36] at H
         have c36b0 : (a2 == (wrap64 ((rd_T41 l0_1 a1).f3))) = true := beq_iff_eq.mpr c36
         have c36b1 : (a2 != (wrap64 ((rd_T41 l0_1 a1).f3))) = false := bne_eq_false_iff_eq.mpr c36
         clear c36
         obtain rfl := Option.some.inj H
         go_enter Try.func17, Try.ntmps17
         go_wp2_with (first|((with_reducible refine gate_dst (N := 3) rfl ?_);(try (refine gate_guard (by rfl) ?_;dsimp only));refine box_event ?hg (N := 3) ?hd (cs := #[.int .i64 a0_0, .slice A0_1 l0_1.length c0_1]) (t := 24) ?hr ?_;(case hd => rfl);(case hg => rfl);(case hr => first|(go_simp;done)|(go_simp;rfl));intro gb264 hg w37 hbox hb;have n0_ := Aside0.mk (below_step (by repeat (with_reducible first|exact HB.out|apply xa|apply xb|apply xc)) hb);have n1_ := Aside0.mk (hbox);have n2_ := Aside0.mk ((by rw [hg];exact (below_size (by repeat (with_reducible first|exact HB.out|apply xa|apply xb|apply xc))) : w.heap.size ≤ gb264));have n3_ := Aside0.mk ((by rw [hg];exact (below_size (by repeat (with_reducible first|exact HB.out|apply xa|apply xb|apply xc))) : w.heap.size ≤ gb264));clear HB;have HB := n0_;have BK264 := n1_;have GW264 := n2_;have GE264 := n3_;clear n0_ n1_ n2_ n3_;clear hb hbox hg;have hcz38_0 : w37.cell? ⟨gb264, 0, none⟩ = some (.int .i64 a0_0) := (blk_cell BK264.out 0).trans rfl;have hcz38_1 : w37.cell? ⟨gb264, 1, none⟩ = some (.slice A0_1 l0_1.length c0_1) := (blk_cell BK264.out 1).trans rfl;have hfz38_0 := blk_frozen BK264.out 0;have hfz38_1 := blk_frozen BK264.out 1;have p265 : 0 ≤ (a1 : Int) := of_decide_eq_true (by assumption);have q265 : a1 < (l0_1.length : Int) := of_decide_eq_true (by assumption);obtain ⟨ad265, e265, hx265_0, hx265_1, hx265_2, hx265_3⟩ := at_T41 HR0_1.out a1 p265 q265;cases e265;replace hx265_0 := (HB.out.cell (World.block_lt_of_cell? w _ hx265_0)).trans hx265_0;replace hx265_1 := (HB.out.cell (World.block_lt_of_cell? w _ hx265_1)).trans hx265_1;replace hx265_2 := (HB.out.cell (World.block_lt_of_cell? w _ hx265_2)).trans hx265_2;replace hx265_3 := (HB.out.cell (World.block_lt_of_cell? w _ hx265_3)).trans hx265_3;replace p265 := eq_true p265;replace q265 := eq_true q265)|((with_reducible refine gate_dst (N := 7) rfl ?_);(try (refine gate_guard (by rfl) ?_;dsimp only));refine box_event ?hg (N := 7) ?hd (cs := #[.int .i64 0, .int .i64 0, .int .i64 0, .int .i32 0]) (t := 41) ?hr ?_;(case hd => rfl);(case hg => rfl);(case hr => first|(go_simp;done)|(go_simp;rfl));intro gb266 hg w39 hbox hb;have n0_ := Aside0.mk (blk_below (g := gb264) (o := .cells #[.int .i64 a0_0, .slice (some ad265) l0_1.length c0_1] 24 (0, 0)) (by (with_reducible repeat (first|apply blk_drewN|apply blk_drew|apply blk_alloc));exact BK264.out) hb);have n1_ := Aside0.mk (below_step (by repeat (first|(with_reducible first|exact HB.out|apply xa|apply xb|apply xc|refine below_set ?_ GE264.out)|exact HB.out)) hb);have n2_ := Aside0.mk (hbox);have n3_ := Aside0.mk ((by rw [hg];exact (below_size (by repeat (first|(with_reducible first|exact HB.out|apply xa|apply xb|apply xc|refine below_set ?_ GE264.out)|exact HB.out))) : w.heap.size ≤ gb266));have n4_ := Aside0.mk ((by rw [hg];exact (below_size (by repeat (first|(with_reducible first|exact HB.out|apply xa|apply xb|apply xc|refine below_set ?_ GE264.out)|exact HB.out))) : w.heap.size ≤ gb266));have n5_ := Aside0.mk ((by rw [hg];exact Nat.ne_of_lt (blk_lt (g := gb264) (o := .cells #[.int .i64 a0_0, .slice (some ad265) l0_1.length c0_1] 24 (0, 0)) (by (with_reducible repeat (first|apply blk_drewN|apply blk_drew|apply blk_alloc));exact BK264.out)) : gb264 ≠ gb266));have n6_ := Aside0.mk ((by rw [hg];exact Nat.ne_of_gt (blk_lt (g := gb264) (o := .cells #[.int .i64 a0_0, .slice (some ad265) l0_1.length c0_1] 24 (0, 0)) (by (with_reducible repeat (first|apply blk_drewN|apply blk_drew|apply blk_alloc));exact BK264.out)) : gb266 ≠ gb264));clear BK264;clear HB;have BK264 := n0_;have HB := n1_;have BK266 := n2_;have GW266 := n3_;have GE266 := n4_;have NB264_266 := n5_;have NB266_264 := n6_;clear n0_ n1_ n2_ n3_ n4_ n5_ n6_;clear hb hbox hg;have hnb40 := NB266_264.out;have hnc40 := NB264_266.out;have hcz41_0 : w39.cell? ⟨gb266, 0, none⟩ = some (.int .i64 0) := (blk_cell BK266.out 0).trans rfl;have hcz41_1 : w39.cell? ⟨gb266, 1, none⟩ = some (.int .i64 0) := (blk_cell BK266.out 1).trans rfl;have hcz41_2 : w39.cell? ⟨gb266, 2, none⟩ = some (.int .i64 0) := (blk_cell BK266.out 2).trans rfl;have hcz41_3 : w39.cell? ⟨gb266, 3, none⟩ = some (.int .i32 0) := (blk_cell BK266.out 3).trans rfl;have hfz41_0 := blk_frozen BK266.out 0;have hfz41_1 := blk_frozen BK266.out 1;have hfz41_2 := blk_frozen BK266.out 2;have hfz41_3 := blk_frozen BK266.out 3))
         go_ret
         exact ⟨by first|rfl|(simp [errW_none, errW_some] <;> rfl)|(simp [*, errW_none, errW_some] <;> rfl), by repeat (first|(with_reducible first|exact HB.out|apply xa|apply xb|apply xc|refine below_set ?_ GE264.out|refine below_set ?_ GE266.out)|exact HB.out)⟩
        ·rw [if_neg c36] at H
         have c36b0 : (a2 == (wrap64 ((rd_T41 l0_1 a1).f3))) = false := beq_eq_false_iff_ne.mpr c36
         have c36b1 : (a2 != (wrap64 ((rd_T41 l0_1 a1).f3))) = true := bne_iff_ne.mpr c36
         obtain rfl := Option.some.inj H
         go_enter Try.func17, Try.ntmps17
         go_wp2_with (first|((with_reducible refine gate_dst (N := 3) rfl ?_);(try (refine gate_guard (by rfl) ?_;dsimp only));refine box_event ?hg (N := 3) ?hd (cs := #[.int .i64 a0_0, .slice A0_1 l0_1.length c0_1]) (t := 24) ?hr ?_;(case hd => rfl);(case hg => rfl);(case hr => first|(go_simp;done)|(go_simp;rfl));intro gb264 hg w42 hbox hb;have n0_ := Aside0.mk (below_step (by repeat (with_reducible first|exact HB.out|apply xa|apply xb|apply xc)) hb);have n1_ := Aside0.mk (hbox);have n2_ := Aside0.mk ((by rw [hg];exact (below_size (by repeat (with_reducible first|exact HB.out|apply xa|apply xb|apply xc))) : w.heap.size ≤ gb264));have n3_ := Aside0.mk ((by rw [hg];exact (below_size (by repeat (with_reducible first|exact HB.out|apply xa|apply xb|apply xc))) : w.heap.size ≤ gb264));clear HB;have HB := n0_;have BK264 := n1_;have GW264 := n2_;have GE264 := n3_;clear n0_ n1_ n2_ n3_;clear hb hbox hg;have hcz43_0 : w42.cell? ⟨gb264, 0, none⟩ = some (.int .i64 a0_0) := (blk_cell BK264.out 0).trans rfl;have hcz43_1 : w42.cell? ⟨gb264, 1, none⟩ = some (.slice A0_1 l0_1.length c0_1) := (blk_cell BK264.out 1).trans rfl;have hfz43_0 := blk_frozen BK264.out 0;have hfz43_1 := blk_frozen BK264.out 1;have p265 : 0 ≤ (a1 : Int) := of_decide_eq_true (by assumption);have q265 : a1 < (l0_1.length : Int) := of_decide_eq_true (by assumption);obtain ⟨ad265, e265, hx265_0, hx265_1, hx265_2, hx265_3⟩ := at_T41 HR0_1.out a1 p265 q265;cases e265;replace hx265_0 := (HB.out.cell (World.block_lt_of_cell? w _ hx265_0)).trans hx265_0;replace hx265_1 := (HB.out.cell (World.block_lt_of_cell? w _ hx265_1)).trans hx265_1;replace hx265_2 := (HB.out.cell (World.block_lt_of_cell? w _ hx265_2)).trans hx265_2;replace hx265_3 := (HB.out.cell (World.block_lt_of_cell? w _ hx265_3)).trans hx265_3;replace p265 := eq_true p265;replace q265 := eq_true q265)|((with_reducible refine gate_dst (N := 7) rfl ?_);(try (refine gate_guard (by rfl) ?_;dsimp only));refine box_event ?hg (N := 7) ?hd (cs := #[.int .i64 0, .int .i64 0, .int .i64 0, .int .i32 0]) (t := 41) ?hr ?_;(case hd => rfl);(case hg => rfl);(case hr => first|(go_simp;done)|(go_simp;rfl));intro gb266 hg w44 hbox hb;have n0_ := Aside0.mk (blk_below (g := gb264) (o := .cells #[.int .i64 a0_0, .slice (some ad265) l0_1.length c0_1] 24 (0, 0)) (by (with_reducible repeat (first|apply blk_drewN|apply blk_drew|apply blk_alloc));exact BK264.out) hb);have n1_ := Aside0.mk (below_step (by repeat (first|(with_reducible first|exact HB.out|apply xa|apply xb|apply xc|refine below_set ?_ GE264.out)|exact HB.out)) hb);have n2_ := Aside0.mk (hbox);have n3_ := Aside0.mk ((by rw [hg];exact (below_size (by repeat (first|(with_reducible first|exact HB.out|apply xa|apply xb|apply xc|refine below_set ?_ GE264.out)|exact HB.out))) : w.heap.size ≤ gb266));have n4_ := Aside0.mk ((by rw [hg];exact (below_size (by repeat (first|(with_reducible first|exact HB.out|apply xa|apply xb|apply xc|refine below_set ?_ GE264.out)|exact HB.out))) : w.heap.size ≤ gb266));have n5_ := Aside0.mk ((by rw [hg];exact Nat.ne_of_lt (blk_lt (g := gb264) (o := .cells #[.int .i64 a0_0, .slice (some ad265) l0_1.length c0_1] 24 (0, 0)) (by (with_reducible repeat (first|apply blk_drewN|apply blk_drew|apply blk_alloc));exact BK264.out)) : gb264 ≠ gb266));have n6_ := Aside0.mk ((by rw [hg];exact Nat.ne_of_gt (blk_lt (g := gb264) (o := .cells #[.int .i64 a0_0, .slice (some ad265) l0_1.length c0_1] 24 (0, 0)) (by (with_reducible repeat (first|apply blk_drewN|apply blk_drew|apply blk_alloc));exact BK264.out)) : gb266 ≠ gb264));clear BK264;clear HB;have BK264 := n0_;have HB := n1_;have BK266 := n2_;have GW266 := n3_;have GE266 := n4_;have NB264_266 := n5_;have NB266_264 := n6_;clear n0_ n1_ n2_ n3_ n4_ n5_ n6_;clear hb hbox hg;have hnb45 := NB266_264.out;have hnc45 := NB264_266.out;have hcz46_0 : w44.cell? ⟨gb266, 0, none⟩ = some (.int .i64 0) := (blk_cell BK266.out 0).trans rfl;have hcz46_1 : w44.cell? ⟨gb266, 1, none⟩ = some (.int .i64 0) := (blk_cell BK266.out 1).trans rfl;have hcz46_2 : w44.cell? ⟨gb266, 2, none⟩ = some (.int .i64 0) := (blk_cell BK266.out 2).trans rfl;have hcz46_3 : w44.cell? ⟨gb266, 3, none⟩ = some (.int .i32 0) := (blk_cell BK266.out 3).trans rfl;have hfz46_0 := blk_frozen BK266.out 0;have hfz46_1 := blk_frozen BK266.out 1;have hfz46_2 := blk_frozen BK266.out 2;have hfz46_3 := blk_frozen BK266.out 3))
         go_ret
         exact ⟨by first|rfl|(simp [errW_none, errW_some] <;> rfl)|(simp [*, errW_none, errW_some] <;> rfl), by repeat (first|(with_reducible first|exact HB.out|apply xa|apply xb|apply xc|refine below_set ?_ GE264.out|refine below_set ?_ GE266.out)|exact HB.out)⟩
      ·rw [if_neg c23] at H
       have c23b0 : (((rd_T41 l0_1 a1).f0) == 5) = false := beq_eq_false_iff_ne.mpr c23
       have c23b1 : (((rd_T41 l0_1 a1).f0) != 5) = true := bne_iff_ne.mpr c23
       by_cases c47 : ((rd_T41 l0_1 a1).f0) = 14
       ·rw [if_pos c47] at H
        have c47b0 : (((rd_T41 l0_1 a1).f0) == 14) = true := beq_iff_eq.mpr c47
        have c47b1 : (((rd_T41 l0_1 a1).f0) != 14) = false := bne_eq_false_iff_eq.mpr c47
        clear c47
        obtain rfl := Option.some.inj H
        go_enter Try.func17, Try.ntmps17
        go_wp2_with (first|((with_reducible refine gate_dst (N := 3) rfl ?_);(try (refine gate_guard (by rfl) ?_;dsimp only));refine box_event ?hg (N := 3) ?hd (cs := #[.int .i64 a0_0, .slice A0_1 l0_1.length c0_1]) (t := 24) ?hr ?_;(case hd => rfl);(case hg => rfl);(case hr => first|(go_simp;done)|(go_simp;rfl));intro gb264 hg w48 hbox hb;have n0_ := Aside0.mk (below_step (by repeat (with_reducible first|exact HB.out|apply xa|apply xb|apply xc)) hb);have n1_ := Aside0.mk (hbox);have n2_ := Aside0.mk ((by rw [hg];exact (below_size (by repeat (with_reducible first|exact HB.out|apply xa|apply xb|apply xc))) : w.heap.size ≤ gb264));have n3_ := Aside0.mk ((by rw [hg];exact (below_size (by repeat (with_reducible first|exact HB.out|apply xa|apply xb|apply xc))) : w.heap.size ≤ gb264));clear HB;have HB := n0_;have BK264 := n1_;have GW264 := n2_;have GE264 := n3_;clear n0_ n1_ n2_ n3_;clear hb hbox hg;have hcz49_0 : w48.cell? ⟨gb264, 0, none⟩ = some (.int .i64 a0_0) := (blk_cell BK264.out 0).trans rfl;have hcz49_1 : w48.cell? ⟨gb264, 1, none⟩ = some (.slice A0_1 l0_1.length c0_1) := (blk_cell BK264.out 1).trans rfl;have hfz49_0 := blk_frozen BK264.out 0;have hfz49_1 := blk_frozen BK264.out 1;have p265 : 0 ≤ (a1 : Int) := of_decide_eq_true (by assumption);have q265 : a1 < (l0_1.length : Int) := of_decide_eq_true (by assumption);obtain ⟨ad265, e265, hx265_0, hx265_1, hx265_2, hx265_3⟩ := at_T41 HR0_1.out a1 p265 q265;cases e265;replace hx265_0 := (HB.out.cell (World.block_lt_of_cell? w _ hx265_0)).trans hx265_0;replace hx265_1 := (HB.out.cell (World.block_lt_of_cell? w _ hx265_1)).trans hx265_1;replace hx265_2 := (HB.out.cell (World.block_lt_of_cell? w _ hx265_2)).trans hx265_2;replace hx265_3 := (HB.out.cell (World.block_lt_of_cell? w _ hx265_3)).trans hx265_3;replace p265 := eq_true p265;replace q265 := eq_true q265)|((with_reducible refine gate_dst (N := 7) rfl ?_);(try (refine gate_guard (by rfl) ?_;dsimp only));refine box_event ?hg (N := 7) ?hd (cs := #[.int .i64 0, .int .i64 0, .int .i64 0, .int .i32 0]) (t := 41) ?hr ?_;(case hd => rfl);(case hg => rfl);(case hr => first|(go_simp;done)|(go_simp;rfl));intro gb266 hg w50 hbox hb;have n0_ := Aside0.mk (blk_below (g := gb264) (o := .cells #[.int .i64 a0_0, .slice (some ad265) l0_1.length c0_1] 24 (0, 0)) (by (with_reducible repeat (first|apply blk_drewN|apply blk_drew|apply blk_alloc));exact BK264.out) hb);have n1_ := Aside0.mk (below_step (by repeat (first|(with_reducible first|exact HB.out|apply xa|apply xb|apply xc|refine below_set ?_ GE264.out)|exact HB.out)) hb);have n2_ := Aside0.mk (hbox);have n3_ := Aside0.mk ((by rw [hg];exact (below_size (by repeat (first|(with_reducible first|exact HB.out|apply xa|apply xb|apply xc|refine below_set ?_ GE264.out)|exact HB.out))) : w.heap.size ≤ gb266));have n4_ := Aside0.mk ((by rw [hg];exact (below_size (by repeat (first|(with_reducible first|exact HB.out|apply xa|apply xb|apply xc|refine below_set ?_ GE264.out)|exact HB.out))) : w.heap.size ≤ gb266));have n5_ := Aside0.mk ((by rw [hg];exact Nat.ne_of_lt (blk_lt (g := gb264) (o := .cells #[.int .i64 a0_0, .slice (some ad265) l0_1.length c0_1] 24 (0, 0)) (by (with_reducible repeat (first|apply blk_drewN|apply blk_drew|apply blk_alloc));exact BK264.out)) : gb264 ≠ gb266));have n6_ := Aside0.mk ((by rw [hg];exact Nat.ne_of_gt (blk_lt (g := gb264) (o := .cells #[.int .i64 a0_0, .slice (some ad265) l0_1.length c0_1] 24 (0, 0)) (by (with_reducible repeat (first|apply blk_drewN|apply blk_drew|apply blk_alloc));exact BK264.out)) : gb266 ≠ gb264));clear BK264;clear HB;have BK264 := n0_;have HB := n1_;have BK266 := n2_;have GW266 := n3_;have GE266 := n4_;have NB264_266 := n5_;have NB266_264 := n6_;clear n0_ n1_ n2_ n3_ n4_ n5_ n6_;clear hb hbox hg;have hnb51 := NB266_264.out;have hnc51 := NB264_266.out;have hcz52_0 : w50.cell? ⟨gb266, 0, none⟩ = some (.int .i64 0) := (blk_cell BK266.out 0).trans rfl;have hcz52_1 : w50.cell? ⟨gb266, 1, none⟩ = some (.int .i64 0) := (blk_cell BK266.out 1).trans rfl;have hcz52_2 : w50.cell? ⟨gb266, 2, none⟩ = some (.int .i64 0) := (blk_cell BK266.out 2).trans rfl;have hcz52_3 : w50.cell? ⟨gb266, 3, none⟩ = some (.int .i32 0) := (blk_cell BK266.out 3).trans rfl;have hfz52_0 := blk_frozen BK266.out 0;have hfz52_1 := blk_frozen BK266.out 1;have hfz52_2 := blk_frozen BK266.out 2;have hfz52_3 := blk_frozen BK266.out 3))
        go_ret
        exact ⟨by first|rfl|(simp [errW_none, errW_some] <;> rfl)|(simp [*, errW_none, errW_some] <;> rfl), by repeat (first|(with_reducible first|exact HB.out|apply xa|apply xb|apply xc|refine below_set ?_ GE264.out|refine below_set ?_ GE266.out)|exact HB.out)⟩
       ·rw [if_neg c47] at H
        have c47b0 : (((rd_T41 l0_1 a1).f0) == 14) = false := beq_eq_false_iff_ne.mpr c47
        have c47b1 : (((rd_T41 l0_1 a1).f0) != 14) = true := bne_iff_ne.mpr c47
        obtain rfl := Option.some.inj H
        go_enter Try.func17, Try.ntmps17
        go_wp2_with (first|((with_reducible refine gate_dst (N := 3) rfl ?_);(try (refine gate_guard (by rfl) ?_;dsimp only));refine box_event ?hg (N := 3) ?hd (cs := #[.int .i64 a0_0, .slice A0_1 l0_1.length c0_1]) (t := 24) ?hr ?_;(case hd => rfl);(case hg => rfl);(case hr => first|(go_simp;done)|(go_simp;rfl));intro gb264 hg w53 hbox hb;have n0_ := Aside0.mk (below_step (by repeat (with_reducible first|exact HB.out|apply xa|apply xb|apply xc)) hb);have n1_ := Aside0.mk (hbox);have n2_ := Aside0.mk ((by rw [hg];exact (below_size (by repeat (with_reducible first|exact HB.out|apply xa|apply xb|apply xc))) : w.heap.size ≤ gb264));have n3_ := Aside0.mk ((by rw [hg];exact (below_size (by repeat (with_reducible first|exact HB.out|apply xa|apply xb|apply xc))) : w.heap.size ≤ gb264));clear HB;have HB := n0_;have BK264 := n1_;have GW264 := n2_;have GE264 := n3_;clear n0_ n1_ n2_ n3_;clear hb hbox hg;have hcz54_0 : w53.cell? ⟨gb264, 0, none⟩ = some (.int .i64 a0_0) := (blk_cell BK264.out 0).trans rfl;have hcz54_1 : w53.cell? ⟨gb264, 1, none⟩ = some (.slice A0_1 l0_1.length c0_1) := (blk_cell BK264.out 1).trans rfl;have hfz54_0 := blk_frozen BK264.out 0;have hfz54_1 := blk_frozen BK264.out 1;have p265 : 0 ≤ (a1 : Int) := of_decide_eq_true (by assumption);have q265 : a1 < (l0_1.length : Int) := of_decide_eq_true (by assumption);obtain ⟨ad265, e265, hx265_0, hx265_1, hx265_2, hx265_3⟩ := at_T41 HR0_1.out a1 p265 q265;cases e265;replace hx265_0 := (HB.out.cell (World.block_lt_of_cell? w _ hx265_0)).trans hx265_0;replace hx265_1 := (HB.out.cell (World.block_lt_of_cell? w _ hx265_1)).trans hx265_1;replace hx265_2 := (HB.out.cell (World.block_lt_of_cell? w _ hx265_2)).trans hx265_2;replace hx265_3 := (HB.out.cell (World.block_lt_of_cell? w _ hx265_3)).trans hx265_3;replace p265 := eq_true p265;replace q265 := eq_true q265)|((with_reducible refine gate_dst (N := 7) rfl ?_);(try (refine gate_guard (by rfl) ?_;dsimp only));refine box_event ?hg (N := 7) ?hd (cs := #[.int .i64 0, .int .i64 0, .int .i64 0, .int .i32 0]) (t := 41) ?hr ?_;(case hd => rfl);(case hg => rfl);(case hr => first|(go_simp;done)|(go_simp;rfl));intro gb266 hg w55 hbox hb;have n0_ := Aside0.mk (blk_below (g := gb264) (o := .cells #[.int .i64 a0_0, .slice (some ad265) l0_1.length c0_1] 24 (0, 0)) (by (with_reducible repeat (first|apply blk_drewN|apply blk_drew|apply blk_alloc));exact BK264.out) hb);have n1_ := Aside0.mk (below_step (by repeat (first|(with_reducible first|exact HB.out|apply xa|apply xb|apply xc|refine below_set ?_ GE264.out)|exact HB.out)) hb);have n2_ := Aside0.mk (hbox);have n3_ := Aside0.mk ((by rw [hg];exact (below_size (by repeat (first|(with_reducible first|exact HB.out|apply xa|apply xb|apply xc|refine below_set ?_ GE264.out)|exact HB.out))) : w.heap.size ≤ gb266));have n4_ := Aside0.mk ((by rw [hg];exact (below_size (by repeat (first|(with_reducible first|exact HB.out|apply xa|apply xb|apply xc|refine below_set ?_ GE264.out)|exact HB.out))) : w.heap.size ≤ gb266));have n5_ := Aside0.mk ((by rw [hg];exact Nat.ne_of_lt (blk_lt (g := gb264) (o := .cells #[.int .i64 a0_0, .slice (some ad265) l0_1.length c0_1] 24 (0, 0)) (by (with_reducible repeat (first|apply blk_drewN|apply blk_drew|apply blk_alloc));exact BK264.out)) : gb264 ≠ gb266));have n6_ := Aside0.mk ((by rw [hg];exact Nat.ne_of_gt (blk_lt (g := gb264) (o := .cells #[.int .i64 a0_0, .slice (some ad265) l0_1.length c0_1] 24 (0, 0)) (by (with_reducible repeat (first|apply blk_drewN|apply blk_drew|apply blk_alloc));exact BK264.out)) : gb266 ≠ gb264));clear BK264;clear HB;have BK264 := n0_;have HB := n1_;have BK266 := n2_;have GW266 := n3_;have GE266 := n4_;have NB264_266 := n5_;have NB266_264 := n6_;clear n0_ n1_ n2_ n3_ n4_ n5_ n6_;clear hb hbox hg;have hnb56 := NB266_264.out;have hnc56 := NB264_266.out;have hcz57_0 : w55.cell? ⟨gb266, 0, none⟩ = some (.int .i64 0) := (blk_cell BK266.out 0).trans rfl;have hcz57_1 : w55.cell? ⟨gb266, 1, none⟩ = some (.int .i64 0) := (blk_cell BK266.out 1).trans rfl;have hcz57_2 : w55.cell? ⟨gb266, 2, none⟩ = some (.int .i64 0) := (blk_cell BK266.out 2).trans rfl;have hcz57_3 : w55.cell? ⟨gb266, 3, none⟩ = some (.int .i32 0) := (blk_cell BK266.out 3).trans rfl;have hfz57_0 := blk_frozen BK266.out 0;have hfz57_1 := blk_frozen BK266.out 1;have hfz57_2 := blk_frozen BK266.out 2;have hfz57_3 := blk_frozen BK266.out 3))
        go_ret
        exact ⟨by first|rfl|(simp [errW_none, errW_some] <;> rfl)|(simp [*, errW_none, errW_some] <;> rfl), by repeat (first|(with_reducible first|exact HB.out|apply xa|apply xb|apply xc|refine below_set ?_ GE264.out|refine below_set ?_ GE266.out)|exact HB.out)⟩
    ·rw [if_neg c10] at H
     exact absurd H (by simp)
   ·rw [if_neg c9] at H
    exact absurd H (by simp)

end Go.Proofs.Ytgiimdoabkcoaaa.PLint
