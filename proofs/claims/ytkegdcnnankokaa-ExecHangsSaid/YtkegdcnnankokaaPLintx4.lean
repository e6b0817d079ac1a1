/- Functions of the program as Lean functions, and proofs that the code comes to their answers: printed by this session's program. -/
import Derived.Test.YtkegdcnnankokaaGCheck
import Derived.Test.YtkegdcnnankokaaGStep
import Derived.Test.YtkegdcnnankokaaPLintx0
import Derived.Test.YtkegdcnnankokaaPLintx1
import Derived.Test.YtkegdcnnankokaaPLintx2
import Derived.Test.YtkegdcnnankokaaPLintx3
namespace Go.Proofs.Ytkegdcnnankokaa.PLint
open Go.RowKit Go.Proofs.YtkegdcnnankokaaW.PrintWords Go.Proofs.YtkegdcnnankokaaW.PrintLast Go.Proofs.YtkegdcnnankokaaW.PrintMore
attribute [local go_sem] max2_int min2_int max_two min_two max_three min_three max_four min_four   -- for this text's walks alone
set_option linter.unusedVariables false
set_option linter.unusedSimpArgs false

attribute [local go_sem high] eqA44 eqA47
/-! ### pinfoldlaw10_hangs: function 31 -/
mutual
def pinfoldlaw10_hangs.j0 : Nat → Int → Bool → Int → List (S109) → Int → List (S109) → Int → Int → Int → Int → Option (Bool)
 | 0, _, _, _, _, _, _, _, _, _, _ => none
 | k + 1, x2, x46, x110000, x110001, x111000, x111001, x112000, x112001, x112002, x112003 => if x46 = true then (some true) else (if (IntKind.u64.wrap ((x110001.length : Int))) = 0 then (none) else ((some (([] : List (S109)) : List (S109))).bind fun y116 => (if y116.length + x111001.length < 4398046511104 then ((some (y116 ++ x111001 : List (S109))).bind fun y119 => (if 0 ≤ (wrap64 (Int.tmod x2 (IntKind.u64.wrap ((x110001.length : Int))))) then (if (wrap64 (Int.tmod x2 (IntKind.u64.wrap ((x110001.length : Int))))) < (x110001.length : Int) then (if (wrap64 (Int.tmod x2 (IntKind.u64.wrap ((x110001.length : Int))))) < (y119.length : Int) then ((some (y119.set ((wrap64 (Int.tmod x2 (IntKind.u64.wrap ((x110001.length : Int))))) : Int).toNat (⟨(rd_T109 x110001 (wrap64 (Int.tmod x2 (IntKind.u64.wrap ((x110001.length : Int)))))).f0, (rd_T109 x110001 (wrap64 (Int.tmod x2 (IntKind.u64.wrap ((x110001.length : Int)))))).f1, (rd_T109 x110001 (wrap64 (Int.tmod x2 (IntKind.u64.wrap ((x110001.length : Int)))))).f2, (rd_T109 x110001 (wrap64 (Int.tmod x2 (IntKind.u64.wrap ((x110001.length : Int)))))).f3⟩ : S109) : List (S109))).bind fun y124 => ((pinfoldref09_Check.f x111000 y124).bind fun bt125 => (if bt125.1 = 0 then ((exec_Step.f x110000 x110001 (wrap64 (Int.tmod x2 (IntKind.u64.wrap ((x110001.length : Int))))) x112000 x112001 x112002 x112003).bind fun bt127 => ((exec_Step.f x111000 y124 (wrap64 (Int.tmod x2 (IntKind.u64.wrap ((x110001.length : Int))))) x112000 x112001 x112002 x112003).bind fun bt137 => (if bt127.1 = bt137.1 then (if (bt127.2.1 == bt137.2.1 && (bt127.2.2.1 == bt137.2.2.1 && (bt127.2.2.2.1 == bt137.2.2.2.1 && (bt127.2.2.2.2.1 == bt137.2.2.2.2.1)))) = true then (pinfoldlaw10_hangs.j1 k (bt127.2.2.2.2.2.1 == bt137.2.2.2.2.2.1 && (bt127.2.2.2.2.2.2.1 == bt137.2.2.2.2.2.2.1 && (bt127.2.2.2.2.2.2.2 == bt137.2.2.2.2.2.2.2)))) else (pinfoldlaw10_hangs.j1 k false)) else (pinfoldlaw10_hangs.j1 k false)))) else (some true)))) else (none)) else (none)) else (none))) else (none))))
def pinfoldlaw10_hangs.j1 : Nat → Bool → Option (Bool)
 | 0, _ => none
 | k + 1, x8 => some x8
end
def pinfoldlaw10_hangs.f (k : Nat) (a0_0 : Int) (l0_1 : List (S109)) (a1_0 : Int) (l1_1 : List (S109)) (a2 : Int) (a3_0 : Int) (a3_1 : Int) (a3_2 : Int) (a3_3 : Int) : Option (Bool) := (pinfoldref09_Check.f a0_0 l0_1).bind fun bt112 => ((pinfoldlaw10_light.f a0_0 l0_1).bind fun t114 => (if t114 = true then ((pinfoldlaw10_light.f a1_0 l1_1).bind fun t115 => (if t115 = true then (if bt112.1 = 0 then (pinfoldlaw10_hangs.j0 k a2 ((l1_1.length : Int) != (l0_1.length : Int)) a0_0 l0_1 a1_0 l1_1 a3_0 a3_1 a3_2 a3_3) else (pinfoldlaw10_hangs.j0 k a2 true a0_0 l0_1 a1_0 l1_1 a3_0 a3_1 a3_2 a3_3)) else (pinfoldlaw10_hangs.j0 k a2 true a0_0 l0_1 a1_0 l1_1 a3_0 a3_1 a3_2 a3_3))) else (pinfoldlaw10_hangs.j0 k a2 true a0_0 l0_1 a1_0 l1_1 a3_0 a3_1 a3_2 a3_3)))
theorem pinfoldlaw10_hangs.mono_l : ∀ k, (∀ y0 y1 y2 y3 y4 y5 y6 y7 y8 y9, LeO (pinfoldlaw10_hangs.j0 k y0 y1 y2 y3 y4 y5 y6 y7 y8 y9) (pinfoldlaw10_hangs.j0 (k + 1) y0 y1 y2 y3 y4 y5 y6 y7 y8 y9)) ∧ (∀ y0, LeO (pinfoldlaw10_hangs.j1 k y0) (pinfoldlaw10_hangs.j1 (k + 1) y0))
 | 0 => ⟨fun _ _ _ _ _ _ _ _ _ _ r h => by simp [pinfoldlaw10_hangs.j0] at h, fun _ r h => by simp [pinfoldlaw10_hangs.j1] at h⟩
 | k + 1 => by
  obtain ⟨ih0, ih1⟩ := pinfoldlaw10_hangs.mono_l k
  refine ⟨?_, ?_⟩
  ·intro y0 y1 y2 y3 y4 y5 y6 y7 y8 y9
   unfold pinfoldlaw10_hangs.j0
   repeat' first
   | (with_reducible exact ih0 _ _ _ _ _ _ _ _ _ _)
   | (with_reducible exact ih1 _)
   | (with_reducible exact LeO.refl _)
   | (with_reducible exact LeO.none _)
   | (with_reducible refine LeO.ite ?_ ?_)
   | (with_reducible refine LeO.bind ?_ (fun _ => ?_))
   | exact ih0 _ _ _ _ _ _ _ _ _ _
   | exact ih1 _
   | exact LeO.none _
   | refine LeO.ite ?_ ?_
   | refine LeO.bind ?_ (fun _ => ?_)
  ·intro y0
   unfold pinfoldlaw10_hangs.j1
   repeat' first
   | (with_reducible exact ih0 _ _ _ _ _ _ _ _ _ _)
   | (with_reducible exact ih1 _)
   | (with_reducible exact LeO.refl _)
   | (with_reducible exact LeO.none _)
   | (with_reducible refine LeO.ite ?_ ?_)
   | (with_reducible refine LeO.bind ?_ (fun _ => ?_))
   | exact ih0 _ _ _ _ _ _ _ _ _ _
   | exact ih1 _
   | exact LeO.none _
   | refine LeO.ite ?_ ?_
   | refine LeO.bind ?_ (fun _ => ?_)
theorem pinfoldlaw10_hangs.mono : ∀ a0 a1 a2 a3 a4 a5 a6 a7 a8 k, LeO (pinfoldlaw10_hangs.f k a0 a1 a2 a3 a4 a5 a6 a7 a8) (pinfoldlaw10_hangs.f (k + 1) a0 a1 a2 a3 a4 a5 a6 a7 a8) := by
 intro a0 a1 a2 a3 a4 a5 a6 a7 a8 k
 obtain ⟨ih0, ih1⟩ := pinfoldlaw10_hangs.mono_l k
 unfold pinfoldlaw10_hangs.f
 repeat' first
   | (with_reducible exact ih0 _ _ _ _ _ _ _ _ _ _)
   | (with_reducible exact ih1 _)
   | (with_reducible exact LeO.refl _)
   | (with_reducible exact LeO.none _)
   | (with_reducible refine LeO.ite ?_ ?_)
   | (with_reducible refine LeO.bind ?_ (fun _ => ?_))
   | exact ih0 _ _ _ _ _ _ _ _ _ _
   | exact ih1 _
   | exact LeO.none _
   | refine LeO.ite ?_ ?_
   | refine LeO.bind ?_ (fun _ => ?_)
def pinfoldlaw10_hangs.T5 : Bool × List (List Nat × List Nat) := (true, [([], []), ([0], [0]), ([], []), ([], []), ([3], [3]), ([2, 4], [2, 4]), ([1, 5], [1, 5]), ([], []), ([7, 6, 5, 0, 1, 2, 3, 4, 5, 6, 7], [6, 7])])
def pinfoldlaw10_hangs.B5 : List Nat := [0, 1, 0, 0, 8, 28, 63, 0, 255]
theorem pinfoldlaw10_hangs.tab5 : rtab .any (opsOf Try.f31 5) = pinfoldlaw10_hangs.T5 := by kernel_rfl
theorem pinfoldlaw10_hangs.bits5 : waitsOk pinfoldlaw10_hangs.T5.2 pinfoldlaw10_hangs.B5 = true := by kernel_rfl
def pinfoldlaw10_hangs.T6 : Bool × List (List Nat × List Nat) := (true, [([], []), ([0], [0]), ([], []), ([], []), ([3], [3]), ([], []), ([4, 5], [4, 5]), ([6], [6]), ([1, 2, 0, 1, 2, 3, 4, 5, 6, 7], [1, 2]), ([8, 7, 0, 1, 2, 3, 4, 5, 6, 7], [7, 8])])
def pinfoldlaw10_hangs.B6 : List Nat := [0, 1, 0, 0, 8, 0, 56, 120, 255, 511]
theorem pinfoldlaw10_hangs.tab6 : rtab .any (opsOf Try.f31 6) = pinfoldlaw10_hangs.T6 := by kernel_rfl
theorem pinfoldlaw10_hangs.bits6 : waitsOk pinfoldlaw10_hangs.T6.2 pinfoldlaw10_hangs.B6 = true := by kernel_rfl
set_option maxHeartbeats 8000000 in
set_option maxRecDepth 100000 in
theorem pinfoldlaw10_hangs.calls (k : Nat) (a0_0 : Int) (A0_1 : Option Addr) (c0_1 : Nat) (l0_1 : List (S109)) (a1_0 : Int) (A1_1 : Option Addr) (c1_1 : Nat) (l1_1 : List (S109)) (a2 : Int) (a3_0 : Int) (a3_1 : Int) (a3_2 : Int) (a3_3 : Int) (r : Bool) (w : World) (hr0_1 : Kd.C k109 w A0_1 l0_1.length l0_1) (hc0_1 : l0_1.length ≤ c0_1) (hr1_1 : Kd.C k109 w A1_1 l1_1.length l1_1) (hc1_1 : l1_1.length ≤ c1_1) (h : pinfoldlaw10_hangs.f k a0_0 l0_1 a1_0 l1_1 a2 a3_0 a3_1 a3_2 a3_3 = some r) :
  Calls Try.prog 31 #[.agg #[.int .i64 a0_0, .slice A0_1 l0_1.length c0_1], .agg #[.int .i64 a1_0, .slice A1_1 l1_1.length c1_1], .int .u64 a2, .agg #[.int .i32 a3_0, .int .i32 a3_1, .int .i32 a3_2, .int .i32 a3_3]] w fun e w' => e = .returned (.bool r) ∧ Below w.heap.size w w' := by
 have hu43 := Try.underlying43
 have hu44 := Try.underlying44
 have hu109 := Try.underlying109
 have hu47 := Try.underlying47
 have HR0_1 := Aside0.mk hr0_1
 have HC0_1 := Aside0.mk hc0_1
 clear hr0_1 hc0_1
 have HR1_1 := Aside0.mk hr1_1
 have HC1_1 := Aside0.mk hc1_1
 clear hr1_1 hc1_1
 have HB := Aside0.mk (Below.refl w.heap.size w)
 have H : ((pinfoldref09_Check.f a0_0 l0_1).bind fun bt112 => ((pinfoldlaw10_light.f a0_0 l0_1).bind fun t114 => (if t114 = true then ((pinfoldlaw10_light.f a1_0 l1_1).bind fun t115 => (if t115 = true then (if bt112.1 = 0 then (pinfoldlaw10_hangs.j0 k a2 ((l1_1.length : Int) != (l0_1.length : Int)) a0_0 l0_1 a1_0 l1_1 a3_0 a3_1 a3_2 a3_3) else (pinfoldlaw10_hangs.j0 k a2 true a0_0 l0_1 a1_0 l1_1 a3_0 a3_1 a3_2 a3_3)) else (pinfoldlaw10_hangs.j0 k a2 true a0_0 l0_1 a1_0 l1_1 a3_0 a3_1 a3_2 a3_3))) else (pinfoldlaw10_hangs.j0 k a2 true a0_0 l0_1 a1_0 l1_1 a3_0 a3_1 a3_2 a3_3)))) = some r := h
 clear h
 replace H := Option.bind_eq_some_iff.mp H
 obtain ⟨⟨t112, t113⟩, A50, H⟩ := H
 replace H : ((pinfoldlaw10_light.f a0_0 l0_1).bind fun t114 => (if t114 = true then ((pinfoldlaw10_light.f a1_0 l1_1).bind fun t115 => (if t115 = true then (if t112 = 0 then (pinfoldlaw10_hangs.j0 k a2 ((l1_1.length : Int) != (l0_1.length : Int)) a0_0 l0_1 a1_0 l1_1 a3_0 a3_1 a3_2 a3_3) else (pinfoldlaw10_hangs.j0 k a2 true a0_0 l0_1 a1_0 l1_1 a3_0 a3_1 a3_2 a3_3)) else (pinfoldlaw10_hangs.j0 k a2 true a0_0 l0_1 a1_0 l1_1 a3_0 a3_1 a3_2 a3_3))) else (pinfoldlaw10_hangs.j0 k a2 true a0_0 l0_1 a1_0 l1_1 a3_0 a3_1 a3_2 a3_3))) = some r := H
 have A5 := Aside0.mk A50
 clear A50
 have HC6 := Aside0.mk H
 clear H
 go_enter Try.func31, Try.ntmps31
 go_upto_region 2 with (first|((with_reducible refine gate_dst (N := 4) rfl ?_);(try (refine gate_guard (by rfl) ?_;dsimp only));refine box_event ?hg (N := 4) ?hd (cs := #[.int .i64 a0_0, .slice A0_1 l0_1.length c0_1]) (t := 43) ?hr ?_;(case hd => rfl);(case hg => rfl);(case hr => first|(go_simp;done)|(go_simp;rfl));intro gb109 hg w7 hbox hb;have n0_ := Aside0.mk (below_step (by repeat (with_reducible first|exact HB.out|apply xa|apply xb|apply xc)) hb);have n1_ := Aside0.mk (hbox);have n2_ := Aside0.mk ((by rw [hg];exact (below_size (by repeat (with_reducible first|exact HB.out|apply xa|apply xb|apply xc))) : w.heap.size ≤ gb109));have n3_ := Aside0.mk ((by rw [hg];exact (below_size (by repeat (with_reducible first|exact HB.out|apply xa|apply xb|apply xc))) : w.heap.size ≤ gb109));clear HB;have HB := n0_;have BK109 := n1_;have GW109 := n2_;have GE109 := n3_;clear n0_ n1_ n2_ n3_;clear hb hbox hg)|((with_reducible refine gate_dst (N := 5) rfl ?_);(try (refine gate_guard (by rfl) ?_;dsimp only));refine box_event ?hg (N := 5) ?hd (cs := #[.int .i64 a1_0, .slice A1_1 l1_1.length c1_1]) (t := 43) ?hr ?_;(case hd => rfl);(case hg => rfl);(case hr => first|(go_simp;done)|(go_simp;rfl));intro gb110 hg w8 hbox hb;have n0_ := Aside0.mk (blk_below (g := gb109) (o := .cells #[.int .i64 a0_0, .slice A0_1 l0_1.length c0_1] 43 (0, 0)) (by (with_reducible repeat (first|apply blk_drewN|apply blk_drew|apply blk_alloc));exact BK109.out) hb);have n1_ := Aside0.mk (below_step (by repeat (first|(with_reducible first|exact HB.out|apply xa|apply xb|apply xc|refine below_set ?_ GE109.out)|exact HB.out)) hb);have n2_ := Aside0.mk (hbox);have n3_ := Aside0.mk ((by rw [hg];exact (below_size (by repeat (first|(with_reducible first|exact HB.out|apply xa|apply xb|apply xc|refine below_set ?_ GE109.out)|exact HB.out))) : w.heap.size ≤ gb110));have n4_ := Aside0.mk ((by rw [hg];exact (below_size (by repeat (first|(with_reducible first|exact HB.out|apply xa|apply xb|apply xc|refine below_set ?_ GE109.out)|exact HB.out))) : w.heap.size ≤ gb110));have n5_ := Aside0.mk ((by rw [hg];exact Nat.ne_of_lt (blk_lt (g := gb109) (o := .cells #[.int .i64 a0_0, .slice A0_1 l0_1.length c0_1] 43 (0, 0)) (by (with_reducible repeat (first|apply blk_drewN|apply blk_drew|apply blk_alloc));exact BK109.out)) : gb109 ≠ gb110));have n6_ := Aside0.mk ((by rw [hg];exact Nat.ne_of_gt (blk_lt (g := gb109) (o := .cells #[.int .i64 a0_0, .slice A0_1 l0_1.length c0_1] 43 (0, 0)) (by (with_reducible repeat (first|apply blk_drewN|apply blk_drew|apply blk_alloc));exact BK109.out)) : gb110 ≠ gb109));clear BK109;clear HB;have BK109 := n0_;have HB := n1_;have BK110 := n2_;have GW110 := n3_;have GE110 := n4_;have NB109_110 := n5_;have NB110_109 := n6_;clear n0_ n1_ n2_ n3_ n4_ n5_ n6_;clear hb hbox hg)|((with_reducible refine gate_dst (N := 7) rfl ?_);(try (refine gate_guard (by rfl) ?_;dsimp only));refine box_event ?hg (N := 7) ?hd (cs := #[.int .i32 a3_0, .int .i32 a3_1, .int .i32 a3_2, .int .i32 a3_3]) (t := 44) ?hr ?_;(case hd => rfl);(case hg => rfl);(case hr => first|(go_simp;done)|(go_simp;rfl));intro gb111 hg w9 hbox hb;have n0_ := Aside0.mk (blk_below (g := gb109) (o := .cells #[.int .i64 a0_0, .slice A0_1 l0_1.length c0_1] 43 (0, 0)) (by (with_reducible repeat (first|apply blk_drewN|apply blk_drew|apply blk_alloc));exact BK109.out) hb);have n1_ := Aside0.mk (blk_below (g := gb110) (o := .cells #[.int .i64 a1_0, .slice A1_1 l1_1.length c1_1] 43 (0, 0)) (by (with_reducible repeat (first|apply blk_drewN|apply blk_drew|apply blk_alloc));exact BK110.out) hb);have n2_ := Aside0.mk (below_step (by repeat (first|(with_reducible first|exact HB.out|apply xa|apply xb|apply xc|refine below_set ?_ GE109.out|refine below_set ?_ GE110.out)|exact HB.out)) hb);have n3_ := Aside0.mk (hbox);have n4_ := Aside0.mk ((by rw [hg];exact (below_size (by repeat (first|(with_reducible first|exact HB.out|apply xa|apply xb|apply xc|refine below_set ?_ GE109.out|refine below_set ?_ GE110.out)|exact HB.out))) : w.heap.size ≤ gb111));have n5_ := Aside0.mk ((by rw [hg];exact (below_size (by repeat (first|(with_reducible first|exact HB.out|apply xa|apply xb|apply xc|refine below_set ?_ GE109.out|refine below_set ?_ GE110.out)|exact HB.out))) : w.heap.size ≤ gb111));have n6_ := Aside0.mk ((by rw [hg];exact Nat.ne_of_lt (blk_lt (g := gb109) (o := .cells #[.int .i64 a0_0, .slice A0_1 l0_1.length c0_1] 43 (0, 0)) (by (with_reducible repeat (first|apply blk_drewN|apply blk_drew|apply blk_alloc));exact BK109.out)) : gb109 ≠ gb111));have n7_ := Aside0.mk ((by rw [hg];exact Nat.ne_of_gt (blk_lt (g := gb109) (o := .cells #[.int .i64 a0_0, .slice A0_1 l0_1.length c0_1] 43 (0, 0)) (by (with_reducible repeat (first|apply blk_drewN|apply blk_drew|apply blk_alloc));exact BK109.out)) : gb111 ≠ gb109));have n8_ := Aside0.mk ((by rw [hg];exact Nat.ne_of_lt (blk_lt (g := gb110) (o := .cells #[.int .i64 a1_0, .slice A1_1 l1_1.length c1_1] 43 (0, 0)) (by (with_reducible repeat (first|apply blk_drewN|apply blk_drew|apply blk_alloc));exact BK110.out)) : gb110 ≠ gb111));have n9_ := Aside0.mk ((by rw [hg];exact Nat.ne_of_gt (blk_lt (g := gb110) (o := .cells #[.int .i64 a1_0, .slice A1_1 l1_1.length c1_1] 43 (0, 0)) (by (with_reducible repeat (first|apply blk_drewN|apply blk_drew|apply blk_alloc));exact BK110.out)) : gb111 ≠ gb110));clear BK109;clear BK110;clear HB;have BK109 := n0_;have BK110 := n1_;have HB := n2_;have BK111 := n3_;have GW111 := n4_;have GE111 := n5_;have NB109_111 := n6_;have NB111_109 := n7_;have NB110_111 := n8_;have NB111_110 := n9_;clear n0_ n1_ n2_ n3_ n4_ n5_ n6_ n7_ n8_ n9_;clear hb hbox hg;have hnb10 := NB109_110.out;have hnc10 := NB110_109.out;have hnb11 := NB109_111.out;have hnc11 := NB111_109.out;have hcz12_0 : w9.cell? ⟨gb109, 0, none⟩ = some (.int .i64 a0_0) := (blk_cell BK109.out 0).trans rfl;have hcz12_1 : w9.cell? ⟨gb109, 1, none⟩ = some (.slice A0_1 l0_1.length c0_1) := (blk_cell BK109.out 1).trans rfl;have hfz12_0 := blk_frozen BK109.out 0;have hfz12_1 := blk_frozen BK109.out 1)|((with_reducible refine gate_callee (f := 62) rfl ?_);refine goesL_ (some 23) rfl rfl Try.func62 (by kernel_rfl) rfl #[.agg #[.int .i64 a0_0, .slice A0_1 l0_1.length c0_1]] rfl (by (try simp only [List.map_toArray, List.map_cons, List.map_nil]);first|done|rfl|(simp only [List.length_drop, List.length_take];rfl)) ?_;(with_reducible refine (pinfoldref09_Check.calls a0_0 _ _ l0_1 t112 t113 _ ?side1 ?side2 A5.out).mono ?_);(case side1 => repeat (first|exact (Kd.C_below HR0_1.out HB.out)|(with_reducible refine Kd.C_alloc ?_ _)|(with_reducible refine Kd.C_drewN ?_ _)|(with_reducible refine Kd.C_drew ?_)));(case side2 => exact HC0_1.out);rintro e w13 ⟨rfl, hb⟩;refine ⟨_, rfl, ?_⟩;have n0_ := Aside0.mk (blk_below (g := gb109) (o := .cells #[.int .i64 a0_0, .slice A0_1 l0_1.length c0_1] 43 (0, 0)) (by (with_reducible repeat (first|apply blk_drewN|apply blk_drew|apply blk_alloc));exact BK109.out) hb);have n1_ := Aside0.mk (blk_below (g := gb110) (o := .cells #[.int .i64 a1_0, .slice A1_1 l1_1.length c1_1] 43 (0, 0)) (by (with_reducible repeat (first|apply blk_drewN|apply blk_drew|apply blk_alloc));exact BK110.out) hb);have n2_ := Aside0.mk (blk_below (g := gb111) (o := .cells #[.int .i32 a3_0, .int .i32 a3_1, .int .i32 a3_2, .int .i32 a3_3] 44 (0, 0)) (by (with_reducible repeat (first|apply blk_drewN|apply blk_drew|apply blk_alloc));exact BK111.out) hb);have n3_ := Aside0.mk (below_step (by repeat (first|(with_reducible first|exact HB.out|apply xa|apply xb|apply xc|refine below_set ?_ GE109.out|refine below_set ?_ GE110.out|refine below_set ?_ GE111.out)|exact HB.out)) hb);clear BK109;clear BK110;clear BK111;clear HB;have BK109 := n0_;have BK110 := n1_;have BK111 := n2_;have HB := n3_;clear n0_ n1_ n2_ n3_;(try clear hb);(try clear hb2);(try clear hk);(try clear hi)))
 (try simp only [Act.put, List.setIfInBounds_toArray, List.set_cons_zero, List.set_cons_succ])
 go_cut [46] (fun v46 wc => ∃ (kq : Nat) (x46_5 : Bool), v46 = .bool x46_5 ∧ Aside0 (pinfoldlaw10_hangs.j0 kq a2 x46_5 a0_0 l0_1 a1_0 l1_1 a3_0 a3_1 a3_2 a3_3 = some r) ∧ Aside0 (kq ≤ k) ∧ Aside0 (wc.heap[gb109]? = some (.cells #[.int .i64 a0_0, (.slice A0_1 l0_1.length c0_1)] 43 (0, 0))) ∧ Aside0 (wc.heap[gb110]? = some (.cells #[.int .i64 a1_0, (.slice A1_1 l1_1.length c1_1)] 43 (0, 0))) ∧ Aside0 (wc.heap[gb111]? = some (.cells #[.int .i32 a3_0, .int .i32 a3_1, .int .i32 a3_2, .int .i32 a3_3] 44 (0, 0))) ∧ Aside0 (Below w.heap.size w wc))
 case first =>
  have H := HC6.out
  clear HC6
  replace H := Option.bind_eq_some_iff.mp H
  obtain ⟨t114, A140, H⟩ := H
  replace H : (if t114 = true then ((pinfoldlaw10_light.f a1_0 l1_1).bind fun t115 => (if t115 = true then (if t112 = 0 then (pinfoldlaw10_hangs.j0 k a2 ((l1_1.length : Int) != (l0_1.length : Int)) a0_0 l0_1 a1_0 l1_1 a3_0 a3_1 a3_2 a3_3) else (pinfoldlaw10_hangs.j0 k a2 true a0_0 l0_1 a1_0 l1_1 a3_0 a3_1 a3_2 a3_3)) else (pinfoldlaw10_hangs.j0 k a2 true a0_0 l0_1 a1_0 l1_1 a3_0 a3_1 a3_2 a3_3))) else (pinfoldlaw10_hangs.j0 k a2 true a0_0 l0_1 a1_0 l1_1 a3_0 a3_1 a3_2 a3_3)) = some r := H
  have A14 := Aside0.mk A140
  clear A140
  by_cases c15 : t114 = true
  ·subst c15
   have H1 : ((pinfoldlaw10_light.f a1_0 l1_1).bind fun t115 => (if t115 = true then (if t112 = 0 then (pinfoldlaw10_hangs.j0 k a2 ((l1_1.length : Int) != (l0_1.length : Int)) a0_0 l0_1 a1_0 l1_1 a3_0 a3_1 a3_2 a3_3) else (pinfoldlaw10_hangs.j0 k a2 true a0_0 l0_1 a1_0 l1_1 a3_0 a3_1 a3_2 a3_3)) else (pinfoldlaw10_hangs.j0 k a2 true a0_0 l0_1 a1_0 l1_1 a3_0 a3_1 a3_2 a3_3))) = some r := by rw [if_pos rfl] at H;exact H
   clear H
   have H := H1
   clear H1
   replace H := Option.bind_eq_some_iff.mp H
   obtain ⟨t115, A160, H⟩ := H
   replace H : (if t115 = true then (if t112 = 0 then (pinfoldlaw10_hangs.j0 k a2 ((l1_1.length : Int) != (l0_1.length : Int)) a0_0 l0_1 a1_0 l1_1 a3_0 a3_1 a3_2 a3_3) else (pinfoldlaw10_hangs.j0 k a2 true a0_0 l0_1 a1_0 l1_1 a3_0 a3_1 a3_2 a3_3)) else (pinfoldlaw10_hangs.j0 k a2 true a0_0 l0_1 a1_0 l1_1 a3_0 a3_1 a3_2 a3_3)) = some r := H
   have A16 := Aside0.mk A160
   clear A160
   by_cases c17 : t115 = true
   ·subst c17
    have H1 : (if t112 = 0 then (pinfoldlaw10_hangs.j0 k a2 ((l1_1.length : Int) != (l0_1.length : Int)) a0_0 l0_1 a1_0 l1_1 a3_0 a3_1 a3_2 a3_3) else (pinfoldlaw10_hangs.j0 k a2 true a0_0 l0_1 a1_0 l1_1 a3_0 a3_1 a3_2 a3_3)) = some r := by rw [if_pos rfl] at H;exact H
    clear H
    have H := H1
    clear H1
    by_cases c18 : t112 = 0
    ·rw [if_pos c18] at H
     have c18b0 : (t112 == 0) = true := beq_iff_eq.mpr c18
     have c18b1 : (t112 != 0) = false := bne_eq_false_iff_eq.mpr c18
     clear c18
     (first|rw [c18b0]|(simp only [i64_w, i32_w];rw [c18b0])|skip)
     have H' := Aside0.mk H
     clear H
     have hnb19 := NB109_110.out
     have hnc19 := NB110_109.out
     have hnb20 := NB109_111.out
     have hnc20 := NB111_109.out
     have hcz21_0 : w13.cell? ⟨gb109, 0, none⟩ = some (.int .i64 a0_0) := (blk_cell BK109.out 0).trans rfl
     have hcz21_1 : w13.cell? ⟨gb109, 1, none⟩ = some (.slice A0_1 l0_1.length c0_1) := (blk_cell BK109.out 1).trans rfl
     have hfz21_0 := blk_frozen BK109.out 0
     have hfz21_1 := blk_frozen BK109.out 1
     go_wp2_with (first|((with_reducible refine gate_callee (f := 27) rfl ?_);refine goesL_ (some 27) rfl rfl Try.func27 (by kernel_rfl) rfl #[.agg #[.int .i64 a0_0, .slice A0_1 l0_1.length c0_1]] rfl (by (try simp only [List.map_toArray, List.map_cons, List.map_nil]);first|done|rfl|(simp only [List.length_drop, List.length_take];rfl)) ?_;(with_reducible refine (pinfoldlaw10_light.calls a0_0 _ _ l0_1 true _ ?side1 ?side2 A14.out).mono ?_);(case side1 => repeat (first|exact (Kd.C_below HR0_1.out HB.out)|(with_reducible refine Kd.C_alloc ?_ _)|(with_reducible refine Kd.C_drewN ?_ _)|(with_reducible refine Kd.C_drew ?_)));(case side2 => exact HC0_1.out);rintro e w22 ⟨rfl, hb⟩;refine ⟨_, rfl, ?_⟩;have n0_ := Aside0.mk (blk_below (g := gb109) (o := .cells #[.int .i64 a0_0, .slice A0_1 l0_1.length c0_1] 43 (0, 0)) (by (with_reducible repeat (first|apply blk_drewN|apply blk_drew|apply blk_alloc));exact BK109.out) hb);have n1_ := Aside0.mk (blk_below (g := gb110) (o := .cells #[.int .i64 a1_0, .slice A1_1 l1_1.length c1_1] 43 (0, 0)) (by (with_reducible repeat (first|apply blk_drewN|apply blk_drew|apply blk_alloc));exact BK110.out) hb);have n2_ := Aside0.mk (blk_below (g := gb111) (o := .cells #[.int .i32 a3_0, .int .i32 a3_1, .int .i32 a3_2, .int .i32 a3_3] 44 (0, 0)) (by (with_reducible repeat (first|apply blk_drewN|apply blk_drew|apply blk_alloc));exact BK111.out) hb);have n3_ := Aside0.mk (below_step (by repeat (first|(with_reducible first|exact HB.out|apply xa|apply xb|apply xc|refine below_set ?_ GE109.out|refine below_set ?_ GE110.out|refine below_set ?_ GE111.out)|exact HB.out)) hb);clear BK109;clear BK110;clear BK111;clear HB;have BK109 := n0_;have BK110 := n1_;have BK111 := n2_;have HB := n3_;clear n0_ n1_ n2_ n3_;(try clear hb);(try clear hb2);(try clear hk);(try clear hi);have hnb23 := NB110_111.out;have hnc23 := NB111_110.out;have hcz24_0 : w22.cell? ⟨gb110, 0, none⟩ = some (.int .i64 a1_0) := (blk_cell BK110.out 0).trans rfl;have hcz24_1 : w22.cell? ⟨gb110, 1, none⟩ = some (.slice A1_1 l1_1.length c1_1) := (blk_cell BK110.out 1).trans rfl;have hfz24_0 := blk_frozen BK110.out 0;have hfz24_1 := blk_frozen BK110.out 1)|(go_at_call 27;(with_reducible refine (pinfoldlaw10_light.calls a1_0 _ _ l1_1 true _ ?side1 ?side2 A16.out).mono ?_);(case side1 => repeat (first|exact (Kd.C_below HR1_1.out HB.out)|(with_reducible refine Kd.C_alloc ?_ _)|(with_reducible refine Kd.C_drewN ?_ _)|(with_reducible refine Kd.C_drew ?_)));(case side2 => exact HC1_1.out);rintro e w25 ⟨rfl, hb⟩;have n0_ := Aside0.mk (blk_below (g := gb109) (o := .cells #[.int .i64 a0_0, .slice A0_1 l0_1.length c0_1] 43 (0, 0)) (by (with_reducible repeat (first|apply blk_drewN|apply blk_drew|apply blk_alloc));exact BK109.out) hb);have n1_ := Aside0.mk (blk_below (g := gb110) (o := .cells #[.int .i64 a1_0, .slice A1_1 l1_1.length c1_1] 43 (0, 0)) (by (with_reducible repeat (first|apply blk_drewN|apply blk_drew|apply blk_alloc));exact BK110.out) hb);have n2_ := Aside0.mk (blk_below (g := gb111) (o := .cells #[.int .i32 a3_0, .int .i32 a3_1, .int .i32 a3_2, .int .i32 a3_3] 44 (0, 0)) (by (with_reducible repeat (first|apply blk_drewN|apply blk_drew|apply blk_alloc));exact BK111.out) hb);have n3_ := Aside0.mk (below_step (by repeat (first|(with_reducible first|exact HB.out|apply xa|apply xb|apply xc|refine below_set ?_ GE109.out|refine below_set ?_ GE110.out|refine below_set ?_ GE111.out)|exact HB.out)) hb);clear BK109;clear BK110;clear BK111;clear HB;have BK109 := n0_;have BK110 := n1_;have BK111 := n2_;have HB := n3_;clear n0_ n1_ n2_ n3_;(try clear hb);(try clear hb2);(try clear hk);(try clear hi);have hcz26_0 : w25.cell? ⟨gb110, 0, none⟩ = some (.int .i64 a1_0) := (blk_cell BK110.out 0).trans rfl;have hcz26_1 : w25.cell? ⟨gb110, 1, none⟩ = some (.slice A1_1 l1_1.length c1_1) := (blk_cell BK110.out 1).trans rfl;have hfz26_0 := blk_frozen BK110.out 0;have hfz26_1 := blk_frozen BK110.out 1;have hcz27_0 : w25.cell? ⟨gb109, 0, none⟩ = some (.int .i64 a0_0) := (blk_cell BK109.out 0).trans rfl;have hcz27_1 : w25.cell? ⟨gb109, 1, none⟩ = some (.slice A0_1 l0_1.length c0_1) := (blk_cell BK109.out 1).trans rfl;have hfz27_0 := blk_frozen BK109.out 0;have hfz27_1 := blk_frozen BK109.out 1))
     go_meet
     case rel => exact ⟨_, (((l1_1.length : Int) != (l0_1.length : Int))), (by first|rfl|(simp;done)|(simp [*];done)), H', ⟨by first|omega|exact Nat.le_refl _⟩, ⟨by (with_reducible repeat (first|apply blk_drewN|apply blk_drew|apply blk_alloc));exact BK109.out⟩, ⟨by (with_reducible repeat (first|apply blk_drewN|apply blk_drew|apply blk_alloc));exact BK110.out⟩, ⟨by (with_reducible repeat (first|apply blk_drewN|apply blk_drew|apply blk_alloc));exact BK111.out⟩, ⟨by repeat (first|(with_reducible first|exact HB.out|apply xa|apply xb|apply xc|refine below_set ?_ GE109.out|refine below_set ?_ GE110.out|refine below_set ?_ GE111.out)|exact HB.out)⟩⟩
    ·rw [if_neg c18] at H
     have c18b0 : (t112 == 0) = false := beq_eq_false_iff_ne.mpr c18
     have c18b1 : (t112 != 0) = true := bne_iff_ne.mpr c18
     (first|rw [c18b0]|(simp only [i64_w, i32_w];rw [c18b0])|skip)
     have H' := Aside0.mk H
     clear H
     have hnb28 := NB109_110.out
     have hnc28 := NB110_109.out
     have hnb29 := NB109_111.out
     have hnc29 := NB111_109.out
     have hcz30_0 : w13.cell? ⟨gb109, 0, none⟩ = some (.int .i64 a0_0) := (blk_cell BK109.out 0).trans rfl
     have hcz30_1 : w13.cell? ⟨gb109, 1, none⟩ = some (.slice A0_1 l0_1.length c0_1) := (blk_cell BK109.out 1).trans rfl
     have hfz30_0 := blk_frozen BK109.out 0
     have hfz30_1 := blk_frozen BK109.out 1
     go_wp2_with (first|((with_reducible refine gate_callee (f := 27) rfl ?_);refine goesL_ (some 27) rfl rfl Try.func27 (by kernel_rfl) rfl #[.agg #[.int .i64 a0_0, .slice A0_1 l0_1.length c0_1]] rfl (by (try simp only [List.map_toArray, List.map_cons, List.map_nil]);first|done|rfl|(simp only [List.length_drop, List.length_take];rfl)) ?_;(with_reducible refine (pinfoldlaw10_light.calls a0_0 _ _ l0_1 true _ ?side1 ?side2 A14.out).mono ?_);(case side1 => repeat (first|exact (Kd.C_below HR0_1.out HB.out)|(with_reducible refine Kd.C_alloc ?_ _)|(with_reducible refine Kd.C_drewN ?_ _)|(with_reducible refine Kd.C_drew ?_)));(case side2 => exact HC0_1.out);rintro e w31 ⟨rfl, hb⟩;refine ⟨_, rfl, ?_⟩;have n0_ := Aside0.mk (blk_below (g := gb109) (o := .cells #[.int .i64 a0_0, .slice A0_1 l0_1.length c0_1] 43 (0, 0)) (by (with_reducible repeat (first|apply blk_drewN|apply blk_drew|apply blk_alloc));exact BK109.out) hb);have n1_ := Aside0.mk (blk_below (g := gb110) (o := .cells #[.int .i64 a1_0, .slice A1_1 l1_1.length c1_1] 43 (0, 0)) (by (with_reducible repeat (first|apply blk_drewN|apply blk_drew|apply blk_alloc));exact BK110.out) hb);have n2_ := Aside0.mk (blk_below (g := gb111) (o := .cells #[.int .i32 a3_0, .int .i32 a3_1, .int .i32 a3_2, .int .i32 a3_3] 44 (0, 0)) (by (with_reducible repeat (first|apply blk_drewN|apply blk_drew|apply blk_alloc));exact BK111.out) hb);have n3_ := Aside0.mk (below_step (by repeat (first|(with_reducible first|exact HB.out|apply xa|apply xb|apply xc|refine below_set ?_ GE109.out|refine below_set ?_ GE110.out|refine below_set ?_ GE111.out)|exact HB.out)) hb);clear BK109;clear BK110;clear BK111;clear HB;have BK109 := n0_;have BK110 := n1_;have BK111 := n2_;have HB := n3_;clear n0_ n1_ n2_ n3_;(try clear hb);(try clear hb2);(try clear hk);(try clear hi);have hnb32 := NB110_111.out;have hnc32 := NB111_110.out;have hcz33_0 : w31.cell? ⟨gb110, 0, none⟩ = some (.int .i64 a1_0) := (blk_cell BK110.out 0).trans rfl;have hcz33_1 : w31.cell? ⟨gb110, 1, none⟩ = some (.slice A1_1 l1_1.length c1_1) := (blk_cell BK110.out 1).trans rfl;have hfz33_0 := blk_frozen BK110.out 0;have hfz33_1 := blk_frozen BK110.out 1)|(go_at_call 27;(with_reducible refine (pinfoldlaw10_light.calls a1_0 _ _ l1_1 true _ ?side1 ?side2 A16.out).mono ?_);(case side1 => repeat (first|exact (Kd.C_below HR1_1.out HB.out)|(with_reducible refine Kd.C_alloc ?_ _)|(with_reducible refine Kd.C_drewN ?_ _)|(with_reducible refine Kd.C_drew ?_)));(case side2 => exact HC1_1.out);rintro e w34 ⟨rfl, hb⟩;have n0_ := Aside0.mk (blk_below (g := gb109) (o := .cells #[.int .i64 a0_0, .slice A0_1 l0_1.length c0_1] 43 (0, 0)) (by (with_reducible repeat (first|apply blk_drewN|apply blk_drew|apply blk_alloc));exact BK109.out) hb);have n1_ := Aside0.mk (blk_below (g := gb110) (o := .cells #[.int .i64 a1_0, .slice A1_1 l1_1.length c1_1] 43 (0, 0)) (by (with_reducible repeat (first|apply blk_drewN|apply blk_drew|apply blk_alloc));exact BK110.out) hb);have n2_ := Aside0.mk (blk_below (g := gb111) (o := .cells #[.int .i32 a3_0, .int .i32 a3_1, .int .i32 a3_2, .int .i32 a3_3] 44 (0, 0)) (by (with_reducible repeat (first|apply blk_drewN|apply blk_drew|apply blk_alloc));exact BK111.out) hb);have n3_ := Aside0.mk (below_step (by repeat (first|(with_reducible first|exact HB.out|apply xa|apply xb|apply xc|refine below_set ?_ GE109.out|refine below_set ?_ GE110.out|refine below_set ?_ GE111.out)|exact HB.out)) hb);clear BK109;clear BK110;clear BK111;clear HB;have BK109 := n0_;have BK110 := n1_;have BK111 := n2_;have HB := n3_;clear n0_ n1_ n2_ n3_;(try clear hb);(try clear hb2);(try clear hk);(try clear hi)))
     go_meet
     case rel => exact ⟨_, (true), (by first|rfl|(simp;done)|(simp [*];done)), H', ⟨by first|omega|exact Nat.le_refl _⟩, ⟨by (with_reducible repeat (first|apply blk_drewN|apply blk_drew|apply blk_alloc));exact BK109.out⟩, ⟨by (with_reducible repeat (first|apply blk_drewN|apply blk_drew|apply blk_alloc));exact BK110.out⟩, ⟨by (with_reducible repeat (first|apply blk_drewN|apply blk_drew|apply blk_alloc));exact BK111.out⟩, ⟨by repeat (first|(with_reducible first|exact HB.out|apply xa|apply xb|apply xc|refine below_set ?_ GE109.out|refine below_set ?_ GE110.out|refine below_set ?_ GE111.out)|exact HB.out)⟩⟩
   ·replace c17 := Bool.eq_false_iff.mpr c17
    subst c17
    have H1 : (pinfoldlaw10_hangs.j0 k a2 true a0_0 l0_1 a1_0 l1_1 a3_0 a3_1 a3_2 a3_3) = some r := by rw [if_neg (show ¬ (false = true) by decide)] at H;exact H
    clear H
    have H := H1
    clear H1
    have H' := Aside0.mk H
    clear H
    have hnb35 := NB109_110.out
    have hnc35 := NB110_109.out
    have hnb36 := NB109_111.out
    have hnc36 := NB111_109.out
    have hcz37_0 : w13.cell? ⟨gb109, 0, none⟩ = some (.int .i64 a0_0) := (blk_cell BK109.out 0).trans rfl
    have hcz37_1 : w13.cell? ⟨gb109, 1, none⟩ = some (.slice A0_1 l0_1.length c0_1) := (blk_cell BK109.out 1).trans rfl
    have hfz37_0 := blk_frozen BK109.out 0
    have hfz37_1 := blk_frozen BK109.out 1
    go_wp2_with (first|((with_reducible refine gate_callee (f := 27) rfl ?_);refine goesL_ (some 27) rfl rfl Try.func27 (by kernel_rfl) rfl #[.agg #[.int .i64 a0_0, .slice A0_1 l0_1.length c0_1]] rfl (by (try simp only [List.map_toArray, List.map_cons, List.map_nil]);first|done|rfl|(simp only [List.length_drop, List.length_take];rfl)) ?_;(with_reducible refine (pinfoldlaw10_light.calls a0_0 _ _ l0_1 true _ ?side1 ?side2 A14.out).mono ?_);(case side1 => repeat (first|exact (Kd.C_below HR0_1.out HB.out)|(with_reducible refine Kd.C_alloc ?_ _)|(with_reducible refine Kd.C_drewN ?_ _)|(with_reducible refine Kd.C_drew ?_)));(case side2 => exact HC0_1.out);rintro e w38 ⟨rfl, hb⟩;refine ⟨_, rfl, ?_⟩;have n0_ := Aside0.mk (blk_below (g := gb109) (o := .cells #[.int .i64 a0_0, .slice A0_1 l0_1.length c0_1] 43 (0, 0)) (by (with_reducible repeat (first|apply blk_drewN|apply blk_drew|apply blk_alloc));exact BK109.out) hb);have n1_ := Aside0.mk (blk_below (g := gb110) (o := .cells #[.int .i64 a1_0, .slice A1_1 l1_1.length c1_1] 43 (0, 0)) (by (with_reducible repeat (first|apply blk_drewN|apply blk_drew|apply blk_alloc));exact BK110.out) hb);have n2_ := Aside0.mk (blk_below (g := gb111) (o := .cells #[.int .i32 a3_0, .int .i32 a3_1, .int .i32 a3_2, .int .i32 a3_3] 44 (0, 0)) (by (with_reducible repeat (first|apply blk_drewN|apply blk_drew|apply blk_alloc));exact BK111.out) hb);have n3_ := Aside0.mk (below_step (by repeat (first|(with_reducible first|exact HB.out|apply xa|apply xb|apply xc|refine below_set ?_ GE109.out|refine below_set ?_ GE110.out|refine below_set ?_ GE111.out)|exact HB.out)) hb);clear BK109;clear BK110;clear BK111;clear HB;have BK109 := n0_;have BK110 := n1_;have BK111 := n2_;have HB := n3_;clear n0_ n1_ n2_ n3_;(try clear hb);(try clear hb2);(try clear hk);(try clear hi);have hnb39 := NB110_111.out;have hnc39 := NB111_110.out;have hcz40_0 : w38.cell? ⟨gb110, 0, none⟩ = some (.int .i64 a1_0) := (blk_cell BK110.out 0).trans rfl;have hcz40_1 : w38.cell? ⟨gb110, 1, none⟩ = some (.slice A1_1 l1_1.length c1_1) := (blk_cell BK110.out 1).trans rfl;have hfz40_0 := blk_frozen BK110.out 0;have hfz40_1 := blk_frozen BK110.out 1)|(go_at_call 27;(with_reducible refine (pinfoldlaw10_light.calls a1_0 _ _ l1_1 false _ ?side1 ?side2 A16.out).mono ?_);(case side1 => repeat (first|exact (Kd.C_below HR1_1.out HB.out)|(with_reducible refine Kd.C_alloc ?_ _)|(with_reducible refine Kd.C_drewN ?_ _)|(with_reducible refine Kd.C_drew ?_)));(case side2 => exact HC1_1.out);rintro e w41 ⟨rfl, hb⟩;have n0_ := Aside0.mk (blk_below (g := gb109) (o := .cells #[.int .i64 a0_0, .slice A0_1 l0_1.length c0_1] 43 (0, 0)) (by (with_reducible repeat (first|apply blk_drewN|apply blk_drew|apply blk_alloc));exact BK109.out) hb);have n1_ := Aside0.mk (blk_below (g := gb110) (o := .cells #[.int .i64 a1_0, .slice A1_1 l1_1.length c1_1] 43 (0, 0)) (by (with_reducible repeat (first|apply blk_drewN|apply blk_drew|apply blk_alloc));exact BK110.out) hb);have n2_ := Aside0.mk (blk_below (g := gb111) (o := .cells #[.int .i32 a3_0, .int .i32 a3_1, .int .i32 a3_2, .int .i32 a3_3] 44 (0, 0)) (by (with_reducible repeat (first|apply blk_drewN|apply blk_drew|apply blk_alloc));exact BK111.out) hb);have n3_ := Aside0.mk (below_step (by repeat (first|(with_reducible first|exact HB.out|apply xa|apply xb|apply xc|refine below_set ?_ GE109.out|refine below_set ?_ GE110.out|refine below_set ?_ GE111.out)|exact HB.out)) hb);clear BK109;clear BK110;clear BK111;clear HB;have BK109 := n0_;have BK110 := n1_;have BK111 := n2_;have HB := n3_;clear n0_ n1_ n2_ n3_;(try clear hb);(try clear hb2);(try clear hk);(try clear hi)))
    go_meet
    case rel => exact ⟨_, (true), (by first|rfl|(simp;done)|(simp [*];done)), H', ⟨by first|omega|exact Nat.le_refl _⟩, ⟨by (with_reducible repeat (first|apply blk_drewN|apply blk_drew|apply blk_alloc));exact BK109.out⟩, ⟨by (with_reducible repeat (first|apply blk_drewN|apply blk_drew|apply blk_alloc));exact BK110.out⟩, ⟨by (with_reducible repeat (first|apply blk_drewN|apply blk_drew|apply blk_alloc));exact BK111.out⟩, ⟨by repeat (first|(with_reducible first|exact HB.out|apply xa|apply xb|apply xc|refine below_set ?_ GE109.out|refine below_set ?_ GE110.out|refine below_set ?_ GE111.out)|exact HB.out)⟩⟩
  ·replace c15 := Bool.eq_false_iff.mpr c15
   subst c15
   have H1 : (pinfoldlaw10_hangs.j0 k a2 true a0_0 l0_1 a1_0 l1_1 a3_0 a3_1 a3_2 a3_3) = some r := by rw [if_neg (show ¬ (false = true) by decide)] at H;exact H
   clear H
   have H := H1
   clear H1
   have H' := Aside0.mk H
   clear H
   have hnb42 := NB109_110.out
   have hnc42 := NB110_109.out
   have hnb43 := NB109_111.out
   have hnc43 := NB111_109.out
   have hcz44_0 : w13.cell? ⟨gb109, 0, none⟩ = some (.int .i64 a0_0) := (blk_cell BK109.out 0).trans rfl
   have hcz44_1 : w13.cell? ⟨gb109, 1, none⟩ = some (.slice A0_1 l0_1.length c0_1) := (blk_cell BK109.out 1).trans rfl
   have hfz44_0 := blk_frozen BK109.out 0
   have hfz44_1 := blk_frozen BK109.out 1
   go_wp2_with (first|((with_reducible refine gate_callee (f := 27) rfl ?_);refine goesL_ (some 27) rfl rfl Try.func27 (by kernel_rfl) rfl #[.agg #[.int .i64 a0_0, .slice A0_1 l0_1.length c0_1]] rfl (by (try simp only [List.map_toArray, List.map_cons, List.map_nil]);first|done|rfl|(simp only [List.length_drop, List.length_take];rfl)) ?_;(with_reducible refine (pinfoldlaw10_light.calls a0_0 _ _ l0_1 false _ ?side1 ?side2 A14.out).mono ?_);(case side1 => repeat (first|exact (Kd.C_below HR0_1.out HB.out)|(with_reducible refine Kd.C_alloc ?_ _)|(with_reducible refine Kd.C_drewN ?_ _)|(with_reducible refine Kd.C_drew ?_)));(case side2 => exact HC0_1.out);rintro e w45 ⟨rfl, hb⟩;refine ⟨_, rfl, ?_⟩;have n0_ := Aside0.mk (blk_below (g := gb109) (o := .cells #[.int .i64 a0_0, .slice A0_1 l0_1.length c0_1] 43 (0, 0)) (by (with_reducible repeat (first|apply blk_drewN|apply blk_drew|apply blk_alloc));exact BK109.out) hb);have n1_ := Aside0.mk (blk_below (g := gb110) (o := .cells #[.int .i64 a1_0, .slice A1_1 l1_1.length c1_1] 43 (0, 0)) (by (with_reducible repeat (first|apply blk_drewN|apply blk_drew|apply blk_alloc));exact BK110.out) hb);have n2_ := Aside0.mk (blk_below (g := gb111) (o := .cells #[.int .i32 a3_0, .int .i32 a3_1, .int .i32 a3_2, .int .i32 a3_3] 44 (0, 0)) (by (with_reducible repeat (first|apply blk_drewN|apply blk_drew|apply blk_alloc));exact BK111.out) hb);have n3_ := Aside0.mk (below_step (by repeat (first|(with_reducible first|exact HB.out|apply xa|apply xb|apply xc|refine below_set ?_ GE109.out|refine below_set ?_ GE110.out|refine below_set ?_ GE111.out)|exact HB.out)) hb);clear BK109;clear BK110;clear BK111;clear HB;have BK109 := n0_;have BK110 := n1_;have BK111 := n2_;have HB := n3_;clear n0_ n1_ n2_ n3_;(try clear hb);(try clear hb2);(try clear hk);(try clear hi)))
   go_meet
   case rel => exact ⟨_, (true), (by first|rfl|(simp;done)|(simp [*];done)), H', ⟨by first|omega|exact Nat.le_refl _⟩, ⟨by (with_reducible repeat (first|apply blk_drewN|apply blk_drew|apply blk_alloc));exact BK109.out⟩, ⟨by (with_reducible repeat (first|apply blk_drewN|apply blk_drew|apply blk_alloc));exact BK110.out⟩, ⟨by (with_reducible repeat (first|apply blk_drewN|apply blk_drew|apply blk_alloc));exact BK111.out⟩, ⟨by repeat (first|(with_reducible first|exact HB.out|apply xa|apply xb|apply xc|refine below_set ?_ GE109.out|refine below_set ?_ GE110.out|refine below_set ?_ GE111.out)|exact HB.out)⟩⟩
 case rest =>
  clear HC6
  try clear c1
  try clear c2
  try clear p2
  try clear c3
  try clear c4
  try clear c6
  try clear c10
  try clear c11
  try clear c15
  try clear c17
  try clear c18
  try clear c18b0
  try clear c18b1
  try clear c19
  try clear c20
  try clear c23
  try clear c27
  try clear c28
  try clear c29
  try clear c31
  try clear c32
  try clear c35
  try clear c36
  try clear c39
  try clear c42
  try clear c43
  try clear hcz12_0
  try clear hcz12_1
  try clear hcz21_0
  try clear hcz21_1
  try clear hcz24_0
  try clear hcz24_1
  try clear hcz26_0
  try clear hcz26_1
  try clear hcz27_0
  try clear hcz27_1
  try clear hcz30_0
  try clear hcz30_1
  try clear hcz33_0
  try clear hcz33_1
  try clear hcz37_0
  try clear hcz37_1
  try clear hcz40_0
  try clear hcz40_1
  try clear hcz44_0
  try clear hcz44_1
  try clear hfz12_0
  try clear hfz12_1
  try clear hfz21_0
  try clear hfz21_1
  try clear hfz24_0
  try clear hfz24_1
  try clear hfz26_0
  try clear hfz26_1
  try clear hfz27_0
  try clear hfz27_1
  try clear hfz30_0
  try clear hfz30_1
  try clear hfz33_0
  try clear hfz33_1
  try clear hfz37_0
  try clear hfz37_1
  try clear hfz40_0
  try clear hfz40_1
  try clear hfz44_0
  try clear hfz44_1
  obtain ⟨kq, x46_5, rfl, HA, HJ5, BK109, BK110, BK111, HB⟩ := hcut
  cases kq with
  | zero => exact absurd HA.out (by simp [pinfoldlaw10_hangs.j0])
  | succ kj5 =>
   have H := HA.out
   clear HA
   simp only [pinfoldlaw10_hangs.j0] at H
   by_cases c46 : x46_5 = true
   ·subst c46
    have H1 : (some true) = some r := by rw [if_pos rfl] at H;exact H
    clear H
    have H := H1
    clear H1
    obtain rfl := Option.some.inj H
    go_wp2
    go_ret
    exact ⟨by first|rfl|(simp [errW_none, errW_some] <;> rfl)|(simp [*, errW_none, errW_some] <;> rfl), by repeat (first|(with_reducible first|exact HB.out|apply xa|apply xb|apply xc|refine below_set ?_ GE109.out|refine below_set ?_ GE110.out|refine below_set ?_ GE111.out)|exact HB.out)⟩
   ·replace c46 := Bool.eq_false_iff.mpr c46
    subst c46
    have H1 : (if (IntKind.u64.wrap ((l0_1.length : Int))) = 0 then (none) else ((some (([] : List (S109)) : List (S109))).bind fun y116 => (if y116.length + l1_1.length < 4398046511104 then ((some (y116 ++ l1_1 : List (S109))).bind fun y119 => (if 0 ≤ (wrap64 (Int.tmod a2 (IntKind.u64.wrap ((l0_1.length : Int))))) then (if (wrap64 (Int.tmod a2 (IntKind.u64.wrap ((l0_1.length : Int))))) < (l0_1.length : Int) then (if (wrap64 (Int.tmod a2 (IntKind.u64.wrap ((l0_1.length : Int))))) < (y119.length : Int) then ((some (y119.set ((wrap64 (Int.tmod a2 (IntKind.u64.wrap ((l0_1.length : Int))))) : Int).toNat (⟨(rd_T109 l0_1 (wrap64 (Int.tmod a2 (IntKind.u64.wrap ((l0_1.length : Int)))))).f0, (rd_T109 l0_1 (wrap64 (Int.tmod a2 (IntKind.u64.wrap ((l0_1.length : Int)))))).f1, (rd_T109 l0_1 (wrap64 (Int.tmod a2 (IntKind.u64.wrap ((l0_1.length : Int)))))).f2, (rd_T109 l0_1 (wrap64 (Int.tmod a2 (IntKind.u64.wrap ((l0_1.length : Int)))))).f3⟩ : S109) : List (S109))).bind fun y124 => ((pinfoldref09_Check.f a1_0 y124).bind fun bt125 => (if bt125.1 = 0 then ((exec_Step.f a0_0 l0_1 (wrap64 (Int.tmod a2 (IntKind.u64.wrap ((l0_1.length : Int))))) a3_0 a3_1 a3_2 a3_3).bind fun bt127 => ((exec_Step.f a1_0 y124 (wrap64 (Int.tmod a2 (IntKind.u64.wrap ((l0_1.length : Int))))) a3_0 a3_1 a3_2 a3_3).bind fun bt137 => (if bt127.1 = bt137.1 then (if (bt127.2.1 == bt137.2.1 && (bt127.2.2.1 == bt137.2.2.1 && (bt127.2.2.2.1 == bt137.2.2.2.1 && (bt127.2.2.2.2.1 == bt137.2.2.2.2.1)))) = true then (pinfoldlaw10_hangs.j1 kj5 (bt127.2.2.2.2.2.1 == bt137.2.2.2.2.2.1 && (bt127.2.2.2.2.2.2.1 == bt137.2.2.2.2.2.2.1 && (bt127.2.2.2.2.2.2.2 == bt137.2.2.2.2.2.2.2)))) else (pinfoldlaw10_hangs.j1 kj5 false)) else (pinfoldlaw10_hangs.j1 kj5 false)))) else (some true)))) else (none)) else (none)) else (none))) else (none)))) = some r := by rw [if_neg (show ¬ (false = true) by decide)] at H;exact H
    clear H
    have H := H1
    clear H1
    by_cases c47 : (IntKind.u64.wrap ((l0_1.length : Int))) = 0
    ·rw [if_pos c47] at H
     exact absurd H (by simp)
    ·rw [if_neg c47] at H
     have c47b0 : ((IntKind.u64.wrap ((l0_1.length : Int))) == 0) = false := beq_eq_false_iff_ne.mpr c47
     have c47b1 : ((IntKind.u64.wrap ((l0_1.length : Int))) != 0) = true := bne_iff_ne.mpr c47
     obtain ⟨y116, hy116⟩ : ∃ y_ : List (S109), y_ = (([] : List (S109))) := ⟨_, rfl⟩
     replace H : (if y116.length + l1_1.length < 4398046511104 then ((some (y116 ++ l1_1 : List (S109))).bind fun y119 => (if 0 ≤ (wrap64 (Int.tmod a2 (IntKind.u64.wrap ((l0_1.length : Int))))) then (if (wrap64 (Int.tmod a2 (IntKind.u64.wrap ((l0_1.length : Int))))) < (l0_1.length : Int) then (if (wrap64 (Int.tmod a2 (IntKind.u64.wrap ((l0_1.length : Int))))) < (y119.length : Int) then ((some (y119.set ((wrap64 (Int.tmod a2 (IntKind.u64.wrap ((l0_1.length : Int))))) : Int).toNat (⟨(rd_T109 l0_1 (wrap64 (Int.tmod a2 (IntKind.u64.wrap ((l0_1.length : Int)))))).f0, (rd_T109 l0_1 (wrap64 (Int.tmod a2 (IntKind.u64.wrap ((l0_1.length : Int)))))).f1, (rd_T109 l0_1 (wrap64 (Int.tmod a2 (IntKind.u64.wrap ((l0_1.length : Int)))))).f2, (rd_T109 l0_1 (wrap64 (Int.tmod a2 (IntKind.u64.wrap ((l0_1.length : Int)))))).f3⟩ : S109) : List (S109))).bind fun y124 => ((pinfoldref09_Check.f a1_0 y124).bind fun bt125 => (if bt125.1 = 0 then ((exec_Step.f a0_0 l0_1 (wrap64 (Int.tmod a2 (IntKind.u64.wrap ((l0_1.length : Int))))) a3_0 a3_1 a3_2 a3_3).bind fun bt127 => ((exec_Step.f a1_0 y124 (wrap64 (Int.tmod a2 (IntKind.u64.wrap ((l0_1.length : Int))))) a3_0 a3_1 a3_2 a3_3).bind fun bt137 => (if bt127.1 = bt137.1 then (if (bt127.2.1 == bt137.2.1 && (bt127.2.2.1 == bt137.2.2.1 && (bt127.2.2.2.1 == bt137.2.2.2.1 && (bt127.2.2.2.2.1 == bt137.2.2.2.2.1)))) = true then (pinfoldlaw10_hangs.j1 kj5 (bt127.2.2.2.2.2.1 == bt137.2.2.2.2.2.1 && (bt127.2.2.2.2.2.2.1 == bt137.2.2.2.2.2.2.1 && (bt127.2.2.2.2.2.2.2 == bt137.2.2.2.2.2.2.2)))) else (pinfoldlaw10_hangs.j1 kj5 false)) else (pinfoldlaw10_hangs.j1 kj5 false)))) else (some true)))) else (none)) else (none)) else (none))) else (none)) = some r := by first|(rw [hy116];with_reducible exact H)|(have H2_ := (Option.bind_some _ _).symm.trans H;rw [hy116];with_reducible exact H2_)|(have H2_ := (Option.bind_some _ _).symm.trans H;with_reducible exact H2_)|with_reducible exact H|(rw [hy116];exact H)|exact H
     have Ny116 := Aside0.mk hy116
     clear hy116
     by_cases c48 : y116.length + l1_1.length < 4398046511104
     ·rw [if_pos c48] at H
      have LMc48 := Aside0.mk c48
      clear c48
      obtain ⟨y119, hy119⟩ : ∃ y_ : List (S109), y_ = (y116 ++ l1_1) := ⟨_, rfl⟩
      replace H : (if 0 ≤ (wrap64 (Int.tmod a2 (IntKind.u64.wrap ((l0_1.length : Int))))) then (if (wrap64 (Int.tmod a2 (IntKind.u64.wrap ((l0_1.length : Int))))) < (l0_1.length : Int) then (if (wrap64 (Int.tmod a2 (IntKind.u64.wrap ((l0_1.length : Int))))) < (y119.length : Int) then ((some (y119.set ((wrap64 (Int.tmod a2 (IntKind.u64.wrap ((l0_1.length : Int))))) : Int).toNat (⟨(rd_T109 l0_1 (wrap64 (Int.tmod a2 (IntKind.u64.wrap ((l0_1.length : Int)))))).f0, (rd_T109 l0_1 (wrap64 (Int.tmod a2 (IntKind.u64.wrap ((l0_1.length : Int)))))).f1, (rd_T109 l0_1 (wrap64 (Int.tmod a2 (IntKind.u64.wrap ((l0_1.length : Int)))))).f2, (rd_T109 l0_1 (wrap64 (Int.tmod a2 (IntKind.u64.wrap ((l0_1.length : Int)))))).f3⟩ : S109) : List (S109))).bind fun y124 => ((pinfoldref09_Check.f a1_0 y124).bind fun bt125 => (if bt125.1 = 0 then ((exec_Step.f a0_0 l0_1 (wrap64 (Int.tmod a2 (IntKind.u64.wrap ((l0_1.length : Int))))) a3_0 a3_1 a3_2 a3_3).bind fun bt127 => ((exec_Step.f a1_0 y124 (wrap64 (Int.tmod a2 (IntKind.u64.wrap ((l0_1.length : Int))))) a3_0 a3_1 a3_2 a3_3).bind fun bt137 => (if bt127.1 = bt137.1 then (if (bt127.2.1 == bt137.2.1 && (bt127.2.2.1 == bt137.2.2.1 && (bt127.2.2.2.1 == bt137.2.2.2.1 && (bt127.2.2.2.2.1 == bt137.2.2.2.2.1)))) = true then (pinfoldlaw10_hangs.j1 kj5 (bt127.2.2.2.2.2.1 == bt137.2.2.2.2.2.1 && (bt127.2.2.2.2.2.2.1 == bt137.2.2.2.2.2.2.1 && (bt127.2.2.2.2.2.2.2 == bt137.2.2.2.2.2.2.2)))) else (pinfoldlaw10_hangs.j1 kj5 false)) else (pinfoldlaw10_hangs.j1 kj5 false)))) else (some true)))) else (none)) else (none)) else (none)) = some r := by first|(rw [hy119];with_reducible exact H)|(have H2_ := (Option.bind_some _ _).symm.trans H;rw [hy119];with_reducible exact H2_)|(have H2_ := (Option.bind_some _ _).symm.trans H;with_reducible exact H2_)|with_reducible exact H|(rw [hy119];exact H)|exact H
      have Ny119 := Aside0.mk hy119
      clear hy119
      obtain ⟨ji49, hji49⟩ : ∃ j_ : Int, (wrap64 (Int.tmod a2 (IntKind.u64.wrap ((l0_1.length : Int))))) = j_ := ⟨_, rfl⟩
      replace H : (if 0 ≤ (ji49) then (if (ji49) < (l0_1.length : Int) then (if (ji49) < (y119.length : Int) then ((some (y119.set ((ji49) : Int).toNat (⟨(rd_T109 l0_1 (ji49)).f0, (rd_T109 l0_1 (ji49)).f1, (rd_T109 l0_1 (ji49)).f2, (rd_T109 l0_1 (ji49)).f3⟩ : S109) : List (S109))).bind fun y124 => ((pinfoldref09_Check.f a1_0 y124).bind fun bt125 => (if bt125.1 = 0 then ((exec_Step.f a0_0 l0_1 (ji49) a3_0 a3_1 a3_2 a3_3).bind fun bt127 => ((exec_Step.f a1_0 y124 (ji49) a3_0 a3_1 a3_2 a3_3).bind fun bt137 => (if bt127.1 = bt137.1 then (if (bt127.2.1 == bt137.2.1 && (bt127.2.2.1 == bt137.2.2.1 && (bt127.2.2.2.1 == bt137.2.2.2.1 && (bt127.2.2.2.2.1 == bt137.2.2.2.2.1)))) = true then (pinfoldlaw10_hangs.j1 kj5 (bt127.2.2.2.2.2.1 == bt137.2.2.2.2.2.1 && (bt127.2.2.2.2.2.2.1 == bt137.2.2.2.2.2.2.1 && (bt127.2.2.2.2.2.2.2 == bt137.2.2.2.2.2.2.2)))) else (pinfoldlaw10_hangs.j1 kj5 false)) else (pinfoldlaw10_hangs.j1 kj5 false)))) else (some true)))) else (none)) else (none)) else (none)) = some r := by first|(rw [hji49] at H;exact H)|(simp only [hji49] at H ⊢;exact H)
      have hji49w : (IntKind.i64.wrap (Int.tmod a2 (IntKind.u64.wrap ((l0_1.length : Int))))) = ji49 := (i64_w _).trans hji49
      by_cases c50 : 0 ≤ (ji49)
      ·rw [if_pos c50] at H
       have c50b0 : decide (0 ≤ (ji49)) = true := decide_eq_true c50
       clear c50
       by_cases c51 : (ji49) < (l0_1.length : Int)
       ·rw [if_pos c51] at H
        have c51b0 : decide ((ji49) < (l0_1.length : Int)) = true := decide_eq_true c51
        clear c51
        by_cases c52 : (ji49) < (y119.length : Int)
        ·rw [if_pos c52] at H
         have c52b0 : decide ((ji49) < (y119.length : Int)) = true := decide_eq_true c52
         clear c52
         obtain ⟨y124, hy124⟩ : ∃ y_ : List (S109), y_ = (y119.set ((ji49) : Int).toNat (⟨(rd_T109 l0_1 (ji49)).f0, (rd_T109 l0_1 (ji49)).f1, (rd_T109 l0_1 (ji49)).f2, (rd_T109 l0_1 (ji49)).f3⟩ : S109)) := ⟨_, rfl⟩
         replace H : ((pinfoldref09_Check.f a1_0 y124).bind fun bt125 => (if bt125.1 = 0 then ((exec_Step.f a0_0 l0_1 (ji49) a3_0 a3_1 a3_2 a3_3).bind fun bt127 => ((exec_Step.f a1_0 y124 (ji49) a3_0 a3_1 a3_2 a3_3).bind fun bt137 => (if bt127.1 = bt137.1 then (if (bt127.2.1 == bt137.2.1 && (bt127.2.2.1 == bt137.2.2.1 && (bt127.2.2.2.1 == bt137.2.2.2.1 && (bt127.2.2.2.2.1 == bt137.2.2.2.2.1)))) = true then (pinfoldlaw10_hangs.j1 kj5 (bt127.2.2.2.2.2.1 == bt137.2.2.2.2.2.1 && (bt127.2.2.2.2.2.2.1 == bt137.2.2.2.2.2.2.1 && (bt127.2.2.2.2.2.2.2 == bt137.2.2.2.2.2.2.2)))) else (pinfoldlaw10_hangs.j1 kj5 false)) else (pinfoldlaw10_hangs.j1 kj5 false)))) else (some true))) = some r := by first|(rw [hy124];with_reducible exact H)|(have H2_ := (Option.bind_some _ _).symm.trans H;rw [hy124];with_reducible exact H2_)|(have H2_ := (Option.bind_some _ _).symm.trans H;with_reducible exact H2_)|with_reducible exact H|(rw [hy124];exact H)|exact H
         have Ny124 := Aside0.mk hy124
         clear hy124
         replace H := Option.bind_eq_some_iff.mp H
         obtain ⟨⟨t125, t126⟩, A540, H⟩ := H
         replace H : (if t125 = 0 then ((exec_Step.f a0_0 l0_1 (ji49) a3_0 a3_1 a3_2 a3_3).bind fun bt127 => ((exec_Step.f a1_0 y124 (ji49) a3_0 a3_1 a3_2 a3_3).bind fun bt137 => (if bt127.1 = bt137.1 then (if (bt127.2.1 == bt137.2.1 && (bt127.2.2.1 == bt137.2.2.1 && (bt127.2.2.2.1 == bt137.2.2.2.1 && (bt127.2.2.2.2.1 == bt137.2.2.2.2.1)))) = true then (pinfoldlaw10_hangs.j1 kj5 (bt127.2.2.2.2.2.1 == bt137.2.2.2.2.2.1 && (bt127.2.2.2.2.2.2.1 == bt137.2.2.2.2.2.2.1 && (bt127.2.2.2.2.2.2.2 == bt137.2.2.2.2.2.2.2)))) else (pinfoldlaw10_hangs.j1 kj5 false)) else (pinfoldlaw10_hangs.j1 kj5 false)))) else (some true)) = some r := H
         have A54 := Aside0.mk A540
         clear A540
         by_cases c55 : t125 = 0
         ·rw [if_pos c55] at H
          have c55b0 : (t125 == 0) = true := beq_iff_eq.mpr c55
          have c55b1 : (t125 != 0) = false := bne_eq_false_iff_eq.mpr c55
          clear c55
          replace H := Option.bind_eq_some_iff.mp H
          obtain ⟨⟨t127, t128, t129, t130, t131, t132, t133, t134⟩, A560, H⟩ := H
          replace H : ((exec_Step.f a1_0 y124 (ji49) a3_0 a3_1 a3_2 a3_3).bind fun bt137 => (if t127 = bt137.1 then (if (t128 == bt137.2.1 && (t129 == bt137.2.2.1 && (t130 == bt137.2.2.2.1 && (t131 == bt137.2.2.2.2.1)))) = true then (pinfoldlaw10_hangs.j1 kj5 (t132 == bt137.2.2.2.2.2.1 && (t133 == bt137.2.2.2.2.2.2.1 && (t134 == bt137.2.2.2.2.2.2.2)))) else (pinfoldlaw10_hangs.j1 kj5 false)) else (pinfoldlaw10_hangs.j1 kj5 false))) = some r := H
          have A56 := Aside0.mk A560
          clear A560
          replace H := Option.bind_eq_some_iff.mp H
          obtain ⟨⟨t137, t138, t139, t140, t141, t142, t143, t144⟩, A570, H⟩ := H
          replace H : (if t127 = t137 then (if (t128 == t138 && (t129 == t139 && (t130 == t140 && (t131 == t141)))) = true then (pinfoldlaw10_hangs.j1 kj5 (t132 == t142 && (t133 == t143 && (t134 == t144)))) else (pinfoldlaw10_hangs.j1 kj5 false)) else (pinfoldlaw10_hangs.j1 kj5 false)) = some r := H
          have A57 := Aside0.mk A570
          clear A570
          have HC58 := Aside0.mk H
          clear H
          have hnb59 := NB109_110.out
          have hnc59 := NB110_109.out
          have hnb60 := NB109_111.out
          have hnc60 := NB111_109.out
          have hcz61_0 : wc.cell? ⟨gb109, 0, none⟩ = some (.int .i64 a0_0) := (blk_cell BK109.out 0).trans rfl
          have hcz61_1 : wc.cell? ⟨gb109, 1, none⟩ = some (.slice A0_1 l0_1.length c0_1) := (blk_cell BK109.out 1).trans rfl
          have hfz61_0 := blk_frozen BK109.out 0
          have hfz61_1 := blk_frozen BK109.out 1
          try go_wp2
          have n0_ := Aside0.mk (blk_drew BK109.out)
          have n1_ := Aside0.mk (blk_drew BK110.out)
          have n2_ := Aside0.mk (blk_drew BK111.out)
          have n3_ := Aside0.mk (below_drew1 HB.out)
          clear BK109
          clear BK110
          clear BK111
          clear HB
          have BK109 := n0_
          have BK110 := n1_
          have BK111 := n2_
          have HB := n3_
          clear n0_ n1_ n2_ n3_
          refine start_ (n := 9) (S := fun w' => w'.cell? ⟨gb110, 0, none⟩ = some (.int .i64 a1_0) ∧ w'.cell? ⟨gb110, 1, none⟩ = some (.slice A1_1 l1_1.length c1_1)) (ds := []) #[false, false, false, false, false, false, false, false, false] (by kernel_rfl) rfl rfl ⟨(blk_cell BK110.out 0).trans rfl, (blk_cell BK110.out 1).trans rfl⟩ (fun hHeld => ?_);refine with_tabW pinfoldlaw10_hangs.tab5 pinfoldlaw10_hangs.bits5 (fun HT_ HW_ => ?_)
          generalize wc.drew = w62 at BK109 BK110 BK111 HB hHeld ⊢
          refine pure_ (i := 0) (N := some 54) (v := ?_) (a' := ?_) #[true, false, false, false, false, false, false, false, false] rfl rfl (any_of HT_.out (by kernel_rfl)) (fun _ _ _ h => h) (Or.inl ⟨by rfl, ?_⟩) ?_ ?_
          rotate_left
          ·intro w'
           go_simp
           with_reducible rfl
          rotate_left
          ·simp only [Act.put, List.setIfInBounds_toArray, List.set_cons_zero, List.set_cons_succ, i64_w, i32_w]
           rfl
          refine pure_ (i := 3) (N := some 57) (v := ?_) (a' := ?_) #[true, false, false, true, false, false, false, false, false] rfl rfl (any_of HT_.out (by kernel_rfl)) (fun _ _ _ h => h) (Or.inl ⟨by rfl, ?_⟩) ?_ ?_
          rotate_left
          ·intro w'
           go_simp
           with_reducible rfl
          rotate_left
          ·simp only [Act.put, List.setIfInBounds_toArray, List.set_cons_zero, List.set_cons_succ, i64_w, i32_w]
           rfl
          refine take_ (i := 1) (N := some 55) (v := ?_) (a' := ?_) #[true, true, false, true, false, false, false, false, false] rfl rfl (take_ofW HT_.out HW_.out (by kernel_rfl)) (fun _ _ _ h => h) (Or.inl ⟨by rfl, ?_⟩) hHeld ?_ ?_
          rotate_left
          ·rintro w' ⟨s0, s1⟩
           go_simp
           with_reducible rfl
          rotate_left
          ·simp only [Act.put, List.setIfInBounds_toArray, List.set_cons_zero, List.set_cons_succ, i64_w, i32_w]
           rfl
          refine take_ (i := 4) (N := some 58) (v := ?_) (a' := ?_) #[true, true, false, true, true, false, false, false, false] rfl rfl (take_ofW HT_.out HW_.out (by kernel_rfl)) (fun _ _ _ h => h) (Or.inl ⟨by rfl, ?_⟩) hHeld ?_ ?_
          rotate_left
          ·rintro w' ⟨s0, s1⟩
           go_simp
           with_reducible rfl
          rotate_left
          ·simp only [Act.put, List.setIfInBounds_toArray, List.set_cons_zero, List.set_cons_succ, i64_w, i32_w]
           rfl
          refine join_ (σ := Value × Value × Nat) 1 #[true, true, true, true, true, true, true, true, false] (fun s_ => [(56, s_.1), (59, s_.2.1), (12, .pointer (some ⟨s_.2.2, 0, none⟩)), (60, .agg #[.int .i64 a1_0, s_.2.1])]) (fun s_ w' => (w'.cell? ⟨gb110, 0, none⟩ = some (.int .i64 a1_0) ∧ w'.cell? ⟨gb110, 1, none⟩ = some (.slice A1_1 l1_1.length c1_1)) ∧ (Kd.R k109 109 w' w.heap.size (fun _ => True) s_.2.1 y119) ∧ (w'.heap[gb109]? = some (.cells #[.int .i64 a0_0, .slice A0_1 l0_1.length c0_1] 43 (0, 0))) ∧ (w'.heap[gb110]? = some (.cells #[.int .i64 a1_0, .slice A1_1 l1_1.length c1_1] 43 (0, 0))) ∧ (w'.heap[gb111]? = some (.cells #[.int .i32 a3_0, .int .i32 a3_1, .int .i32 a3_2, .int .i32 a3_3] 44 (0, 0))) ∧ (w'.heap[s_.2.2]? = some (.cells #[.int .i64 0, .slice none 0 0] 43 (0, 0))) ∧ (w.heap.size ≤ s_.2.2) ∧ (w.heap.size ≤ s_.2.2) ∧ (gb109 ≠ s_.2.2) ∧ (s_.2.2 ≠ gb109) ∧ (gb110 ≠ s_.2.2) ∧ (s_.2.2 ≠ gb110) ∧ (gb111 ≠ s_.2.2) ∧ (s_.2.2 ≠ gb111) ∧ (Below w.heap.size w w')) ?_ ?_
          rotate_left
          ·intro hCont
           refine two_ (i := 2) (j := 7) (Ni := some 56) (Nj := some 12) #[true, true, true, true, true, false, false, false, false] #[true, true, false, true, true, false, false, true, false] rfl rfl rfl rfl (two_of HT_.out (by kernel_rfl)) (by decide) (by decide) (fun K hK => ?_) (fun K hK => ?_)
           ·skip
            refine Kd.R_lit_step k109 _ 109 ?hg (N := 56) ?hd (xs := ([] : List (S109))) (inner := []) (ok := fun _ => True) (okp := fun _ => True) ?hr ?hp (fun _ hk => hk) trivial (Below.refl _ _) (Nat.le_refl _) (by simp) ?_;(case hd => rfl);(case hg => rfl);(case hr => first|(go_simp;done)|(go_simp;rfl));(case hp => exact (Reps.none _ _))
            intro v117 w63 ho64 hb hg_ hnew_
            clear hg_ hnew_
            (first|rw [← Ny116.out] at ho64|(simp only [Int.reduceToNat] at ho64;rw [← Ny116.out] at ho64))
            have n0_ := Aside0.mk (Kd.R_lower ho64 (below_size (by repeat (first|(with_reducible first|exact HB.out|apply xa|apply xb|apply xc|refine below_set ?_ GE109.out|refine below_set ?_ GE110.out|refine below_set ?_ GE111.out)|exact HB.out))))
            have n1_ := Aside0.mk (blk_below (g := gb109) (o := .cells #[.int .i64 a0_0, .slice A0_1 l0_1.length c0_1] 43 (0, 0)) (by (with_reducible repeat (first|apply blk_drewN|apply blk_drew|apply blk_alloc));exact BK109.out) hb)
            have n2_ := Aside0.mk (blk_below (g := gb110) (o := .cells #[.int .i64 a1_0, .slice A1_1 l1_1.length c1_1] 43 (0, 0)) (by (with_reducible repeat (first|apply blk_drewN|apply blk_drew|apply blk_alloc));exact BK110.out) hb)
            have n3_ := Aside0.mk (blk_below (g := gb111) (o := .cells #[.int .i32 a3_0, .int .i32 a3_1, .int .i32 a3_2, .int .i32 a3_3] 44 (0, 0)) (by (with_reducible repeat (first|apply blk_drewN|apply blk_drew|apply blk_alloc));exact BK111.out) hb)
            have n4_ := Aside0.mk (below_step (by repeat (first|(with_reducible first|exact HB.out|apply xa|apply xb|apply xc|refine below_set ?_ GE109.out|refine below_set ?_ GE110.out|refine below_set ?_ GE111.out)|exact HB.out)) hb)
            clear BK109
            clear BK110
            clear BK111
            clear HB
            have HO118 := n0_
            have BK109 := n1_
            have BK110 := n2_
            have BK111 := n3_
            have HB := n4_
            clear n0_ n1_ n2_ n3_ n4_
            clear hb ho64
            refine hK.out _ _ ⟨(blk_cell BK110.out 0).trans rfl, (blk_cell BK110.out 1).trans rfl⟩ (fun hHeld => ?_)
            clear hK K
            refine norm_ (a' := ?_) ?_ ?_
            rotate_left
            ·show Act.put _ (some 56) _ = _
             simp only [Act.put, List.setIfInBounds_toArray, List.set_cons_zero, List.set_cons_succ, i64_w, i32_w]
             rfl
            refine two_ (i := 5) (j := 7) (Ni := some 59) (Nj := some 12) #[true, true, true, true, true, true, false, false, false] #[true, true, true, true, true, false, false, true, false] rfl rfl rfl rfl (two_of HT_.out (by kernel_rfl)) (by decide) (by decide) (fun K hK => ?_) (fun K hK => ?_)
            ·skip
             refine Kd.R_append_rows_step k109 (w0 := w) w.heap.size (by rfl) (.tmp 56) (.tmp 58) 41 109 (.agg #[(.int .i64 0), (.int .i64 0), (.int .i64 0), (.int .i32 0)]) 32 rfl Try.underlying41 info109 rfl (by decide) (by omega) v117 y116 l1_1 _ _ _ (fun _ => True) (fun _ => False) rfl rfl ?aO ?aR (fun _ _ h => h) (fun _ h => h.elim) ?aF ?aB ?aS ?aL ?_
             (case aR => repeat (first|exact (Kd.C_below HR1_1.out HB.out)|(with_reducible refine Kd.C_alloc ?_ _)|(with_reducible refine Kd.C_drewN ?_ _)|(with_reducible refine Kd.C_drew ?_)))
             (case aB => exact (by repeat (first|(with_reducible first|exact HB.out|apply xa|apply xb|apply xc|refine below_set ?_ GE109.out|refine below_set ?_ GE110.out|refine below_set ?_ GE111.out)|exact HB.out)))
             (case aF => exact (fun _ _ => trivial))
             (case aO => exact (by (with_reducible repeat (first|apply Kd.R_alloc|apply Kd.R_drewN|apply Kd.R_drew));exact HO118.out))
             (case aS => exact (below_size (by repeat (first|(with_reducible first|exact HB.out|apply xa|apply xb|apply xc|refine below_set ?_ GE109.out|refine below_set ?_ GE110.out|refine below_set ?_ GE111.out)|exact HB.out))))
             (case aL => have := LMc48.out;omega)
             intro v120 w65 ho hb hg hat
             rw [← Ny119.out] at ho
             have n0_ := Aside0.mk (blk_grown (g := gb109) (o := .cells #[.int .i64 a0_0, .slice A0_1 l0_1.length c0_1] 43 (0, 0)) (by (with_reducible repeat (first|apply blk_drewN|apply blk_drew|apply blk_alloc));exact BK109.out) hg (Kd.R_ne HO118.out BK109.out (by decide)))
             have n1_ := Aside0.mk (blk_grown (g := gb110) (o := .cells #[.int .i64 a1_0, .slice A1_1 l1_1.length c1_1] 43 (0, 0)) (by (with_reducible repeat (first|apply blk_drewN|apply blk_drew|apply blk_alloc));exact BK110.out) hg (Kd.R_ne HO118.out BK110.out (by decide)))
             have n2_ := Aside0.mk (blk_grown (g := gb111) (o := .cells #[.int .i32 a3_0, .int .i32 a3_1, .int .i32 a3_2, .int .i32 a3_3] 44 (0, 0)) (by (with_reducible repeat (first|apply blk_drewN|apply blk_drew|apply blk_alloc));exact BK111.out) hg (Kd.R_ne HO118.out BK111.out (by decide)))
             have n3_ := Aside0.mk (hb)
             have n4_ := Aside0.mk (ho)
             clear BK109
             clear BK110
             clear BK111
             clear HB
             clear HO118
             have BK109 := n0_
             have BK110 := n1_
             have BK111 := n2_
             have HB := n3_
             have HO121 := n4_
             clear n0_ n1_ n2_ n3_ n4_
             clear ho hb hg hat
             obtain ⟨Ao66, co66, eo66⟩ := Kd.R_slice HO121.out
             (first|subst eo66|(injection eo66 with f1_ f2_ f3_;have f4_ := f1_.symm;have f5_ := f3_.symm;clear f1_ f2_ f3_;subst f4_;subst f5_))
             refine hK.out _ _ ⟨(blk_cell BK110.out 0).trans rfl, (blk_cell BK110.out 1).trans rfl⟩ (fun hHeld => ?_)
             clear hK K
             refine norm_ (a' := ?_) ?_ ?_
             rotate_left
             ·show Act.put _ (some 59) _ = _
              simp only [Act.put, List.setIfInBounds_toArray, List.set_cons_zero, List.set_cons_succ, i64_w, i32_w]
              rfl
             refine pure_ (i := 6) (N := some 60) (v := ?_) (a' := ?_) #[true, true, true, true, true, true, true, false, false] rfl rfl (any_of HT_.out (by kernel_rfl)) (fun _ _ _ h => h) (Or.inl ⟨by rfl, ?_⟩) ?_ ?_
             rotate_left
             ·intro w'
              go_simp
              with_reducible rfl
             rotate_left
             ·simp only [Act.put, List.setIfInBounds_toArray, List.set_cons_zero, List.set_cons_succ, i64_w, i32_w]
              rfl
             refine one_ (i := 7) (N := some 12) #[true, true, true, true, true, true, true, true, false] rfl rfl (one_of HT_.out (by kernel_rfl)) (by decide) (fun K hK => ?_)
             refine box_step ?hg (N := 12) ?hd (cs := #[.int .i64 0, .slice none 0 0]) (t := 43) ?hr ?_;(case hd => rfl);(case hg => rfl);(case hr => first|(go_simp;done)|(go_simp;rfl))
             intro gb122 hg w67 hbox hb
             have n0_ := Aside0.mk (Kd.R_below (by (with_reducible repeat (first|apply Kd.R_alloc|apply Kd.R_drewN|apply Kd.R_drew));exact HO121.out) hb)
             have n1_ := Aside0.mk (blk_below (g := gb109) (o := .cells #[.int .i64 a0_0, .slice A0_1 l0_1.length c0_1] 43 (0, 0)) (by (with_reducible repeat (first|apply blk_drewN|apply blk_drew|apply blk_alloc));exact BK109.out) hb)
             have n2_ := Aside0.mk (blk_below (g := gb110) (o := .cells #[.int .i64 a1_0, .slice A1_1 l1_1.length c1_1] 43 (0, 0)) (by (with_reducible repeat (first|apply blk_drewN|apply blk_drew|apply blk_alloc));exact BK110.out) hb)
             have n3_ := Aside0.mk (blk_below (g := gb111) (o := .cells #[.int .i32 a3_0, .int .i32 a3_1, .int .i32 a3_2, .int .i32 a3_3] 44 (0, 0)) (by (with_reducible repeat (first|apply blk_drewN|apply blk_drew|apply blk_alloc));exact BK111.out) hb)
             have n4_ := Aside0.mk (below_step (by repeat (first|(with_reducible first|exact HB.out|apply xa|apply xb|apply xc|refine below_set ?_ GE109.out|refine below_set ?_ GE110.out|refine below_set ?_ GE111.out)|exact HB.out)) hb)
             have n5_ := Aside0.mk (hbox)
             have n6_ := Aside0.mk ((by rw [hg];exact (below_size (by repeat (first|(with_reducible first|exact HB.out|apply xa|apply xb|apply xc|refine below_set ?_ GE109.out|refine below_set ?_ GE110.out|refine below_set ?_ GE111.out)|exact HB.out))) : w.heap.size ≤ gb122))
             have n7_ := Aside0.mk ((by rw [hg];exact (below_size (by repeat (first|(with_reducible first|exact HB.out|apply xa|apply xb|apply xc|refine below_set ?_ GE109.out|refine below_set ?_ GE110.out|refine below_set ?_ GE111.out)|exact HB.out))) : w.heap.size ≤ gb122))
             have n8_ := Aside0.mk ((by rw [hg];exact Nat.ne_of_lt (blk_lt (g := gb109) (o := .cells #[.int .i64 a0_0, .slice A0_1 l0_1.length c0_1] 43 (0, 0)) (by (with_reducible repeat (first|apply blk_drewN|apply blk_drew|apply blk_alloc));exact BK109.out)) : gb109 ≠ gb122))
             have n9_ := Aside0.mk ((by rw [hg];exact Nat.ne_of_gt (blk_lt (g := gb109) (o := .cells #[.int .i64 a0_0, .slice A0_1 l0_1.length c0_1] 43 (0, 0)) (by (with_reducible repeat (first|apply blk_drewN|apply blk_drew|apply blk_alloc));exact BK109.out)) : gb122 ≠ gb109))
             have n10_ := Aside0.mk ((by rw [hg];exact Nat.ne_of_lt (blk_lt (g := gb110) (o := .cells #[.int .i64 a1_0, .slice A1_1 l1_1.length c1_1] 43 (0, 0)) (by (with_reducible repeat (first|apply blk_drewN|apply blk_drew|apply blk_alloc));exact BK110.out)) : gb110 ≠ gb122))
             have n11_ := Aside0.mk ((by rw [hg];exact Nat.ne_of_gt (blk_lt (g := gb110) (o := .cells #[.int .i64 a1_0, .slice A1_1 l1_1.length c1_1] 43 (0, 0)) (by (with_reducible repeat (first|apply blk_drewN|apply blk_drew|apply blk_alloc));exact BK110.out)) : gb122 ≠ gb110))
             have n12_ := Aside0.mk ((by rw [hg];exact Nat.ne_of_lt (blk_lt (g := gb111) (o := .cells #[.int .i32 a3_0, .int .i32 a3_1, .int .i32 a3_2, .int .i32 a3_3] 44 (0, 0)) (by (with_reducible repeat (first|apply blk_drewN|apply blk_drew|apply blk_alloc));exact BK111.out)) : gb111 ≠ gb122))
             have n13_ := Aside0.mk ((by rw [hg];exact Nat.ne_of_gt (blk_lt (g := gb111) (o := .cells #[.int .i32 a3_0, .int .i32 a3_1, .int .i32 a3_2, .int .i32 a3_3] 44 (0, 0)) (by (with_reducible repeat (first|apply blk_drewN|apply blk_drew|apply blk_alloc));exact BK111.out)) : gb122 ≠ gb111))
             clear HO121
             clear BK109
             clear BK110
             clear BK111
             clear HB
             have HO121 := n0_
             have BK109 := n1_
             have BK110 := n2_
             have BK111 := n3_
             have HB := n4_
             have BK122 := n5_
             have GW122 := n6_
             have GE122 := n7_
             have NB109_122 := n8_
             have NB122_109 := n9_
             have NB110_122 := n10_
             have NB122_110 := n11_
             have NB111_122 := n12_
             have NB122_111 := n13_
             clear n0_ n1_ n2_ n3_ n4_ n5_ n6_ n7_ n8_ n9_ n10_ n11_ n12_ n13_
             clear hb hbox hg
             refine hK.out _ _ ⟨(blk_cell BK110.out 0).trans rfl, (blk_cell BK110.out 1).trans rfl⟩ (fun hHeld => ?_)
             clear hK K
             refine norm_ (a' := ?_) ?_ ?_
             rotate_left
             ·show Act.put _ (some 12) _ = _
              simp only [Act.put, List.setIfInBounds_toArray, List.set_cons_zero, List.set_cons_succ, i64_w, i32_w]
              rfl
             exact norm_ (by simp only [putAll, Act.put, List.setIfInBounds_toArray, List.set_cons_zero, List.set_cons_succ]) (hCont (v117, .slice Ao66 y119.length co66, gb122) _ ⟨hHeld, (by (with_reducible repeat (first|apply Kd.R_alloc|apply Kd.R_drewN|apply Kd.R_drew));exact HO121.out), (by (with_reducible repeat (first|apply blk_drewN|apply blk_drew|apply blk_alloc));exact BK109.out), (by (with_reducible repeat (first|apply blk_drewN|apply blk_drew|apply blk_alloc));exact BK110.out), (by (with_reducible repeat (first|apply blk_drewN|apply blk_drew|apply blk_alloc));exact BK111.out), (by (with_reducible repeat (first|apply blk_drewN|apply blk_drew|apply blk_alloc));exact BK122.out), GW122.out, GE122.out, NB109_122.out, NB122_109.out, NB110_122.out, NB122_110.out, NB111_122.out, NB122_111.out, (by repeat (first|(with_reducible first|exact HB.out|apply xa|apply xb|apply xc|refine below_set ?_ GE109.out|refine below_set ?_ GE110.out|refine below_set ?_ GE111.out|refine below_set ?_ GE122.out)|exact HB.out))⟩)
            ·skip
             refine box_step ?hg (N := 12) ?hd (cs := #[.int .i64 0, .slice none 0 0]) (t := 43) ?hr ?_;(case hd => rfl);(case hg => rfl);(case hr => first|(go_simp;done)|(go_simp;rfl))
             intro gb122 hg w65 hbox hb
             have n0_ := Aside0.mk (Kd.R_below (by (with_reducible repeat (first|apply Kd.R_alloc|apply Kd.R_drewN|apply Kd.R_drew));exact HO118.out) hb)
             have n1_ := Aside0.mk (blk_below (g := gb109) (o := .cells #[.int .i64 a0_0, .slice A0_1 l0_1.length c0_1] 43 (0, 0)) (by (with_reducible repeat (first|apply blk_drewN|apply blk_drew|apply blk_alloc));exact BK109.out) hb)
             have n2_ := Aside0.mk (blk_below (g := gb110) (o := .cells #[.int .i64 a1_0, .slice A1_1 l1_1.length c1_1] 43 (0, 0)) (by (with_reducible repeat (first|apply blk_drewN|apply blk_drew|apply blk_alloc));exact BK110.out) hb)
             have n3_ := Aside0.mk (blk_below (g := gb111) (o := .cells #[.int .i32 a3_0, .int .i32 a3_1, .int .i32 a3_2, .int .i32 a3_3] 44 (0, 0)) (by (with_reducible repeat (first|apply blk_drewN|apply blk_drew|apply blk_alloc));exact BK111.out) hb)
             have n4_ := Aside0.mk (below_step (by repeat (first|(with_reducible first|exact HB.out|apply xa|apply xb|apply xc|refine below_set ?_ GE109.out|refine below_set ?_ GE110.out|refine below_set ?_ GE111.out)|exact HB.out)) hb)
             have n5_ := Aside0.mk (hbox)
             have n6_ := Aside0.mk ((by rw [hg];exact (below_size (by repeat (first|(with_reducible first|exact HB.out|apply xa|apply xb|apply xc|refine below_set ?_ GE109.out|refine below_set ?_ GE110.out|refine below_set ?_ GE111.out)|exact HB.out))) : w.heap.size ≤ gb122))
             have n7_ := Aside0.mk ((by rw [hg];exact (below_size (by repeat (first|(with_reducible first|exact HB.out|apply xa|apply xb|apply xc|refine below_set ?_ GE109.out|refine below_set ?_ GE110.out|refine below_set ?_ GE111.out)|exact HB.out))) : w.heap.size ≤ gb122))
             have n8_ := Aside0.mk ((by rw [hg];exact Nat.ne_of_lt (blk_lt (g := gb109) (o := .cells #[.int .i64 a0_0, .slice A0_1 l0_1.length c0_1] 43 (0, 0)) (by (with_reducible repeat (first|apply blk_drewN|apply blk_drew|apply blk_alloc));exact BK109.out)) : gb109 ≠ gb122))
             have n9_ := Aside0.mk ((by rw [hg];exact Nat.ne_of_gt (blk_lt (g := gb109) (o := .cells #[.int .i64 a0_0, .slice A0_1 l0_1.length c0_1] 43 (0, 0)) (by (with_reducible repeat (first|apply blk_drewN|apply blk_drew|apply blk_alloc));exact BK109.out)) : gb122 ≠ gb109))
             have n10_ := Aside0.mk ((by rw [hg];exact Nat.ne_of_lt (blk_lt (g := gb110) (o := .cells #[.int .i64 a1_0, .slice A1_1 l1_1.length c1_1] 43 (0, 0)) (by (with_reducible repeat (first|apply blk_drewN|apply blk_drew|apply blk_alloc));exact BK110.out)) : gb110 ≠ gb122))
             have n11_ := Aside0.mk ((by rw [hg];exact Nat.ne_of_gt (blk_lt (g := gb110) (o := .cells #[.int .i64 a1_0, .slice A1_1 l1_1.length c1_1] 43 (0, 0)) (by (with_reducible repeat (first|apply blk_drewN|apply blk_drew|apply blk_alloc));exact BK110.out)) : gb122 ≠ gb110))
             have n12_ := Aside0.mk ((by rw [hg];exact Nat.ne_of_lt (blk_lt (g := gb111) (o := .cells #[.int .i32 a3_0, .int .i32 a3_1, .int .i32 a3_2, .int .i32 a3_3] 44 (0, 0)) (by (with_reducible repeat (first|apply blk_drewN|apply blk_drew|apply blk_alloc));exact BK111.out)) : gb111 ≠ gb122))
             have n13_ := Aside0.mk ((by rw [hg];exact Nat.ne_of_gt (blk_lt (g := gb111) (o := .cells #[.int .i32 a3_0, .int .i32 a3_1, .int .i32 a3_2, .int .i32 a3_3] 44 (0, 0)) (by (with_reducible repeat (first|apply blk_drewN|apply blk_drew|apply blk_alloc));exact BK111.out)) : gb122 ≠ gb111))
             clear HO118
             clear BK109
             clear BK110
             clear BK111
             clear HB
             have HO118 := n0_
             have BK109 := n1_
             have BK110 := n2_
             have BK111 := n3_
             have HB := n4_
             have BK122 := n5_
             have GW122 := n6_
             have GE122 := n7_
             have NB109_122 := n8_
             have NB122_109 := n9_
             have NB110_122 := n10_
             have NB122_110 := n11_
             have NB111_122 := n12_
             have NB122_111 := n13_
             clear n0_ n1_ n2_ n3_ n4_ n5_ n6_ n7_ n8_ n9_ n10_ n11_ n12_ n13_
             clear hb hbox hg
             refine hK.out _ _ ⟨(blk_cell BK110.out 0).trans rfl, (blk_cell BK110.out 1).trans rfl⟩ (fun hHeld => ?_)
             clear hK K
             refine norm_ (a' := ?_) ?_ ?_
             rotate_left
             ·show Act.put _ (some 12) _ = _
              simp only [Act.put, List.setIfInBounds_toArray, List.set_cons_zero, List.set_cons_succ, i64_w, i32_w]
              rfl
             refine one_ (i := 5) (N := some 59) #[true, true, true, true, true, true, false, true, false] rfl rfl (one_of HT_.out (by kernel_rfl)) (by decide) (fun K hK => ?_)
             refine Kd.R_append_rows_step k109 (w0 := w) w.heap.size (by rfl) (.tmp 56) (.tmp 58) 41 109 (.agg #[(.int .i64 0), (.int .i64 0), (.int .i64 0), (.int .i32 0)]) 32 rfl Try.underlying41 info109 rfl (by decide) (by omega) v117 y116 l1_1 _ _ _ (fun _ => True) (fun _ => False) rfl rfl ?aO ?aR (fun _ _ h => h) (fun _ h => h.elim) ?aF ?aB ?aS ?aL ?_
             (case aR => repeat (first|exact (Kd.C_below HR1_1.out HB.out)|(with_reducible refine Kd.C_alloc ?_ _)|(with_reducible refine Kd.C_drewN ?_ _)|(with_reducible refine Kd.C_drew ?_)))
             (case aB => exact (by repeat (first|(with_reducible first|exact HB.out|apply xa|apply xb|apply xc|refine below_set ?_ GE109.out|refine below_set ?_ GE110.out|refine below_set ?_ GE111.out|refine below_set ?_ GE122.out)|exact HB.out)))
             (case aF => exact (fun _ _ => trivial))
             (case aO => exact (by (with_reducible repeat (first|apply Kd.R_alloc|apply Kd.R_drewN|apply Kd.R_drew));exact HO118.out))
             (case aS => exact (below_size (by repeat (first|(with_reducible first|exact HB.out|apply xa|apply xb|apply xc|refine below_set ?_ GE109.out|refine below_set ?_ GE110.out|refine below_set ?_ GE111.out|refine below_set ?_ GE122.out)|exact HB.out))))
             (case aL => have := LMc48.out;omega)
             intro v120 w66 ho hb hg hat
             rw [← Ny119.out] at ho
             have n0_ := Aside0.mk (blk_grown (g := gb109) (o := .cells #[.int .i64 a0_0, .slice A0_1 l0_1.length c0_1] 43 (0, 0)) (by (with_reducible repeat (first|apply blk_drewN|apply blk_drew|apply blk_alloc));exact BK109.out) hg (Kd.R_ne HO118.out BK109.out (by decide)))
             have n1_ := Aside0.mk (blk_grown (g := gb110) (o := .cells #[.int .i64 a1_0, .slice A1_1 l1_1.length c1_1] 43 (0, 0)) (by (with_reducible repeat (first|apply blk_drewN|apply blk_drew|apply blk_alloc));exact BK110.out) hg (Kd.R_ne HO118.out BK110.out (by decide)))
             have n2_ := Aside0.mk (blk_grown (g := gb111) (o := .cells #[.int .i32 a3_0, .int .i32 a3_1, .int .i32 a3_2, .int .i32 a3_3] 44 (0, 0)) (by (with_reducible repeat (first|apply blk_drewN|apply blk_drew|apply blk_alloc));exact BK111.out) hg (Kd.R_ne HO118.out BK111.out (by decide)))
             have n3_ := Aside0.mk (blk_grown (g := gb122) (o := .cells #[.int .i64 0, .slice none 0 0] 43 (0, 0)) (by (with_reducible repeat (first|apply blk_drewN|apply blk_drew|apply blk_alloc));exact BK122.out) hg (Kd.R_ne HO118.out BK122.out (by decide)))
             have n4_ := Aside0.mk (hb)
             have n5_ := Aside0.mk (ho)
             clear BK109
             clear BK110
             clear BK111
             clear BK122
             clear HB
             clear HO118
             have BK109 := n0_
             have BK110 := n1_
             have BK111 := n2_
             have BK122 := n3_
             have HB := n4_
             have HO121 := n5_
             clear n0_ n1_ n2_ n3_ n4_ n5_
             clear ho hb hg hat
             obtain ⟨Ao67, co67, eo67⟩ := Kd.R_slice HO121.out
             (first|subst eo67|(injection eo67 with f1_ f2_ f3_;have f4_ := f1_.symm;have f5_ := f3_.symm;clear f1_ f2_ f3_;subst f4_;subst f5_))
             refine hK.out _ _ ⟨(blk_cell BK110.out 0).trans rfl, (blk_cell BK110.out 1).trans rfl⟩ (fun hHeld => ?_)
             clear hK K
             refine norm_ (a' := ?_) ?_ ?_
             rotate_left
             ·show Act.put _ (some 59) _ = _
              simp only [Act.put, List.setIfInBounds_toArray, List.set_cons_zero, List.set_cons_succ, i64_w, i32_w]
              rfl
             refine pure_ (i := 6) (N := some 60) (v := ?_) (a' := ?_) #[true, true, true, true, true, true, true, true, false] rfl rfl (any_of HT_.out (by kernel_rfl)) (fun _ _ _ h => h) (Or.inl ⟨by rfl, ?_⟩) ?_ ?_
             rotate_left
             ·intro w'
              go_simp
              with_reducible rfl
             rotate_left
             ·simp only [Act.put, List.setIfInBounds_toArray, List.set_cons_zero, List.set_cons_succ, i64_w, i32_w]
              rfl
             exact norm_ (by simp only [putAll, Act.put, List.setIfInBounds_toArray, List.set_cons_zero, List.set_cons_succ]) (hCont (v117, .slice Ao67 y119.length co67, gb122) _ ⟨hHeld, (by (with_reducible repeat (first|apply Kd.R_alloc|apply Kd.R_drewN|apply Kd.R_drew));exact HO121.out), (by (with_reducible repeat (first|apply blk_drewN|apply blk_drew|apply blk_alloc));exact BK109.out), (by (with_reducible repeat (first|apply blk_drewN|apply blk_drew|apply blk_alloc));exact BK110.out), (by (with_reducible repeat (first|apply blk_drewN|apply blk_drew|apply blk_alloc));exact BK111.out), (by (with_reducible repeat (first|apply blk_drewN|apply blk_drew|apply blk_alloc));exact BK122.out), GW122.out, GE122.out, NB109_122.out, NB122_109.out, NB110_122.out, NB122_110.out, NB111_122.out, NB122_111.out, (by repeat (first|(with_reducible first|exact HB.out|apply xa|apply xb|apply xc|refine below_set ?_ GE109.out|refine below_set ?_ GE110.out|refine below_set ?_ GE111.out|refine below_set ?_ GE122.out)|exact HB.out))⟩)
           ·skip
            refine box_step ?hg (N := 12) ?hd (cs := #[.int .i64 0, .slice none 0 0]) (t := 43) ?hr ?_;(case hd => rfl);(case hg => rfl);(case hr => first|(go_simp;done)|(go_simp;rfl))
            intro gb122 hg w63 hbox hb
            have n0_ := Aside0.mk (blk_below (g := gb109) (o := .cells #[.int .i64 a0_0, .slice A0_1 l0_1.length c0_1] 43 (0, 0)) (by (with_reducible repeat (first|apply blk_drewN|apply blk_drew|apply blk_alloc));exact BK109.out) hb)
            have n1_ := Aside0.mk (blk_below (g := gb110) (o := .cells #[.int .i64 a1_0, .slice A1_1 l1_1.length c1_1] 43 (0, 0)) (by (with_reducible repeat (first|apply blk_drewN|apply blk_drew|apply blk_alloc));exact BK110.out) hb)
            have n2_ := Aside0.mk (blk_below (g := gb111) (o := .cells #[.int .i32 a3_0, .int .i32 a3_1, .int .i32 a3_2, .int .i32 a3_3] 44 (0, 0)) (by (with_reducible repeat (first|apply blk_drewN|apply blk_drew|apply blk_alloc));exact BK111.out) hb)
            have n3_ := Aside0.mk (below_step (by repeat (first|(with_reducible first|exact HB.out|apply xa|apply xb|apply xc|refine below_set ?_ GE109.out|refine below_set ?_ GE110.out|refine below_set ?_ GE111.out)|exact HB.out)) hb)
            have n4_ := Aside0.mk (hbox)
            have n5_ := Aside0.mk ((by rw [hg];exact (below_size (by repeat (first|(with_reducible first|exact HB.out|apply xa|apply xb|apply xc|refine below_set ?_ GE109.out|refine below_set ?_ GE110.out|refine below_set ?_ GE111.out)|exact HB.out))) : w.heap.size ≤ gb122))
            have n6_ := Aside0.mk ((by rw [hg];exact (below_size (by repeat (first|(with_reducible first|exact HB.out|apply xa|apply xb|apply xc|refine below_set ?_ GE109.out|refine below_set ?_ GE110.out|refine below_set ?_ GE111.out)|exact HB.out))) : w.heap.size ≤ gb122))
            have n7_ := Aside0.mk ((by rw [hg];exact Nat.ne_of_lt (blk_lt (g := gb109) (o := .cells #[.int .i64 a0_0, .slice A0_1 l0_1.length c0_1] 43 (0, 0)) (by (with_reducible repeat (first|apply blk_drewN|apply blk_drew|apply blk_alloc));exact BK109.out)) : gb109 ≠ gb122))
            have n8_ := Aside0.mk ((by rw [hg];exact Nat.ne_of_gt (blk_lt (g := gb109) (o := .cells #[.int .i64 a0_0, .slice A0_1 l0_1.length c0_1] 43 (0, 0)) (by (with_reducible repeat (first|apply blk_drewN|apply blk_drew|apply blk_alloc));exact BK109.out)) : gb122 ≠ gb109))
            have n9_ := Aside0.mk ((by rw [hg];exact Nat.ne_of_lt (blk_lt (g := gb110) (o := .cells #[.int .i64 a1_0, .slice A1_1 l1_1.length c1_1] 43 (0, 0)) (by (with_reducible repeat (first|apply blk_drewN|apply blk_drew|apply blk_alloc));exact BK110.out)) : gb110 ≠ gb122))
            have n10_ := Aside0.mk ((by rw [hg];exact Nat.ne_of_gt (blk_lt (g := gb110) (o := .cells #[.int .i64 a1_0, .slice A1_1 l1_1.length c1_1] 43 (0, 0)) (by (with_reducible repeat (first|apply blk_drewN|apply blk_drew|apply blk_alloc));exact BK110.out)) : gb122 ≠ gb110))
            have n11_ := Aside0.mk ((by rw [hg];exact Nat.ne_of_lt (blk_lt (g := gb111) (o := .cells #[.int .i32 a3_0, .int .i32 a3_1, .int .i32 a3_2, .int .i32 a3_3] 44 (0, 0)) (by (with_reducible repeat (first|apply blk_drewN|apply blk_drew|apply blk_alloc));exact BK111.out)) : gb111 ≠ gb122))
            have n12_ := Aside0.mk ((by rw [hg];exact Nat.ne_of_gt (blk_lt (g := gb111) (o := .cells #[.int .i32 a3_0, .int .i32 a3_1, .int .i32 a3_2, .int .i32 a3_3] 44 (0, 0)) (by (with_reducible repeat (first|apply blk_drewN|apply blk_drew|apply blk_alloc));exact BK111.out)) : gb122 ≠ gb111))
            clear BK109
            clear BK110
            clear BK111
            clear HB
            have BK109 := n0_
            have BK110 := n1_
            have BK111 := n2_
            have HB := n3_
            have BK122 := n4_
            have GW122 := n5_
            have GE122 := n6_
            have NB109_122 := n7_
            have NB122_109 := n8_
            have NB110_122 := n9_
            have NB122_110 := n10_
            have NB111_122 := n11_
            have NB122_111 := n12_
            clear n0_ n1_ n2_ n3_ n4_ n5_ n6_ n7_ n8_ n9_ n10_ n11_ n12_
            clear hb hbox hg
            refine hK.out _ _ ⟨(blk_cell BK110.out 0).trans rfl, (blk_cell BK110.out 1).trans rfl⟩ (fun hHeld => ?_)
            clear hK K
            refine norm_ (a' := ?_) ?_ ?_
            rotate_left
            ·show Act.put _ (some 12) _ = _
             simp only [Act.put, List.setIfInBounds_toArray, List.set_cons_zero, List.set_cons_succ, i64_w, i32_w]
             rfl
            refine one_ (i := 2) (N := some 56) #[true, true, true, true, true, false, false, true, false] rfl rfl (one_of HT_.out (by kernel_rfl)) (by decide) (fun K hK => ?_)
            refine Kd.R_lit_step k109 _ 109 ?hg (N := 56) ?hd (xs := ([] : List (S109))) (inner := []) (ok := fun _ => True) (okp := fun _ => True) ?hr ?hp (fun _ hk => hk) trivial (Below.refl _ _) (Nat.le_refl _) (by simp) ?_;(case hd => rfl);(case hg => rfl);(case hr => first|(go_simp;done)|(go_simp;rfl));(case hp => exact (Reps.none _ _))
            intro v117 w64 ho65 hb hg_ hnew_
            clear hg_ hnew_
            (first|rw [← Ny116.out] at ho65|(simp only [Int.reduceToNat] at ho65;rw [← Ny116.out] at ho65))
            have n0_ := Aside0.mk (Kd.R_lower ho65 (below_size (by repeat (first|(with_reducible first|exact HB.out|apply xa|apply xb|apply xc|refine below_set ?_ GE109.out|refine below_set ?_ GE110.out|refine below_set ?_ GE111.out|refine below_set ?_ GE122.out)|exact HB.out))))
            have n1_ := Aside0.mk (blk_below (g := gb109) (o := .cells #[.int .i64 a0_0, .slice A0_1 l0_1.length c0_1] 43 (0, 0)) (by (with_reducible repeat (first|apply blk_drewN|apply blk_drew|apply blk_alloc));exact BK109.out) hb)
            have n2_ := Aside0.mk (blk_below (g := gb110) (o := .cells #[.int .i64 a1_0, .slice A1_1 l1_1.length c1_1] 43 (0, 0)) (by (with_reducible repeat (first|apply blk_drewN|apply blk_drew|apply blk_alloc));exact BK110.out) hb)
            have n3_ := Aside0.mk (blk_below (g := gb111) (o := .cells #[.int .i32 a3_0, .int .i32 a3_1, .int .i32 a3_2, .int .i32 a3_3] 44 (0, 0)) (by (with_reducible repeat (first|apply blk_drewN|apply blk_drew|apply blk_alloc));exact BK111.out) hb)
            have n4_ := Aside0.mk (blk_below (g := gb122) (o := .cells #[.int .i64 0, .slice none 0 0] 43 (0, 0)) (by (with_reducible repeat (first|apply blk_drewN|apply blk_drew|apply blk_alloc));exact BK122.out) hb)
            have n5_ := Aside0.mk (below_step (by repeat (first|(with_reducible first|exact HB.out|apply xa|apply xb|apply xc|refine below_set ?_ GE109.out|refine below_set ?_ GE110.out|refine below_set ?_ GE111.out|refine below_set ?_ GE122.out)|exact HB.out)) hb)
            clear BK109
            clear BK110
            clear BK111
            clear BK122
            clear HB
            have HO118 := n0_
            have BK109 := n1_
            have BK110 := n2_
            have BK111 := n3_
            have BK122 := n4_
            have HB := n5_
            clear n0_ n1_ n2_ n3_ n4_ n5_
            clear hb ho65
            refine hK.out _ _ ⟨(blk_cell BK110.out 0).trans rfl, (blk_cell BK110.out 1).trans rfl⟩ (fun hHeld => ?_)
            clear hK K
            refine norm_ (a' := ?_) ?_ ?_
            rotate_left
            ·show Act.put _ (some 56) _ = _
             simp only [Act.put, List.setIfInBounds_toArray, List.set_cons_zero, List.set_cons_succ, i64_w, i32_w]
             rfl
            refine one_ (i := 5) (N := some 59) #[true, true, true, true, true, true, false, true, false] rfl rfl (one_of HT_.out (by kernel_rfl)) (by decide) (fun K hK => ?_)
            refine Kd.R_append_rows_step k109 (w0 := w) w.heap.size (by rfl) (.tmp 56) (.tmp 58) 41 109 (.agg #[(.int .i64 0), (.int .i64 0), (.int .i64 0), (.int .i32 0)]) 32 rfl Try.underlying41 info109 rfl (by decide) (by omega) v117 y116 l1_1 _ _ _ (fun _ => True) (fun _ => False) rfl rfl ?aO ?aR (fun _ _ h => h) (fun _ h => h.elim) ?aF ?aB ?aS ?aL ?_
            (case aR => repeat (first|exact (Kd.C_below HR1_1.out HB.out)|(with_reducible refine Kd.C_alloc ?_ _)|(with_reducible refine Kd.C_drewN ?_ _)|(with_reducible refine Kd.C_drew ?_)))
            (case aB => exact (by repeat (first|(with_reducible first|exact HB.out|apply xa|apply xb|apply xc|refine below_set ?_ GE109.out|refine below_set ?_ GE110.out|refine below_set ?_ GE111.out|refine below_set ?_ GE122.out)|exact HB.out)))
            (case aF => exact (fun _ _ => trivial))
            (case aO => exact (by (with_reducible repeat (first|apply Kd.R_alloc|apply Kd.R_drewN|apply Kd.R_drew));exact HO118.out))
            (case aS => exact (below_size (by repeat (first|(with_reducible first|exact HB.out|apply xa|apply xb|apply xc|refine below_set ?_ GE109.out|refine below_set ?_ GE110.out|refine below_set ?_ GE111.out|refine below_set ?_ GE122.out)|exact HB.out))))
            (case aL => have := LMc48.out;omega)
            intro v120 w66 ho hb hg hat
            rw [← Ny119.out] at ho
            have n0_ := Aside0.mk (blk_grown (g := gb109) (o := .cells #[.int .i64 a0_0, .slice A0_1 l0_1.length c0_1] 43 (0, 0)) (by (with_reducible repeat (first|apply blk_drewN|apply blk_drew|apply blk_alloc));exact BK109.out) hg (Kd.R_ne HO118.out BK109.out (by decide)))
            have n1_ := Aside0.mk (blk_grown (g := gb110) (o := .cells #[.int .i64 a1_0, .slice A1_1 l1_1.length c1_1] 43 (0, 0)) (by (with_reducible repeat (first|apply blk_drewN|apply blk_drew|apply blk_alloc));exact BK110.out) hg (Kd.R_ne HO118.out BK110.out (by decide)))
            have n2_ := Aside0.mk (blk_grown (g := gb111) (o := .cells #[.int .i32 a3_0, .int .i32 a3_1, .int .i32 a3_2, .int .i32 a3_3] 44 (0, 0)) (by (with_reducible repeat (first|apply blk_drewN|apply blk_drew|apply blk_alloc));exact BK111.out) hg (Kd.R_ne HO118.out BK111.out (by decide)))
            have n3_ := Aside0.mk (blk_grown (g := gb122) (o := .cells #[.int .i64 0, .slice none 0 0] 43 (0, 0)) (by (with_reducible repeat (first|apply blk_drewN|apply blk_drew|apply blk_alloc));exact BK122.out) hg (Kd.R_ne HO118.out BK122.out (by decide)))
            have n4_ := Aside0.mk (hb)
            have n5_ := Aside0.mk (ho)
            clear BK109
            clear BK110
            clear BK111
            clear BK122
            clear HB
            clear HO118
            have BK109 := n0_
            have BK110 := n1_
            have BK111 := n2_
            have BK122 := n3_
            have HB := n4_
            have HO121 := n5_
            clear n0_ n1_ n2_ n3_ n4_ n5_
            clear ho hb hg hat
            obtain ⟨Ao67, co67, eo67⟩ := Kd.R_slice HO121.out
            (first|subst eo67|(injection eo67 with f1_ f2_ f3_;have f4_ := f1_.symm;have f5_ := f3_.symm;clear f1_ f2_ f3_;subst f4_;subst f5_))
            refine hK.out _ _ ⟨(blk_cell BK110.out 0).trans rfl, (blk_cell BK110.out 1).trans rfl⟩ (fun hHeld => ?_)
            clear hK K
            refine norm_ (a' := ?_) ?_ ?_
            rotate_left
            ·show Act.put _ (some 59) _ = _
             simp only [Act.put, List.setIfInBounds_toArray, List.set_cons_zero, List.set_cons_succ, i64_w, i32_w]
             rfl
            refine pure_ (i := 6) (N := some 60) (v := ?_) (a' := ?_) #[true, true, true, true, true, true, true, true, false] rfl rfl (any_of HT_.out (by kernel_rfl)) (fun _ _ _ h => h) (Or.inl ⟨by rfl, ?_⟩) ?_ ?_
            rotate_left
            ·intro w'
             go_simp
             with_reducible rfl
            rotate_left
            ·simp only [Act.put, List.setIfInBounds_toArray, List.set_cons_zero, List.set_cons_succ, i64_w, i32_w]
             rfl
            exact norm_ (by simp only [putAll, Act.put, List.setIfInBounds_toArray, List.set_cons_zero, List.set_cons_succ]) (hCont (v117, .slice Ao67 y119.length co67, gb122) _ ⟨hHeld, (by (with_reducible repeat (first|apply Kd.R_alloc|apply Kd.R_drewN|apply Kd.R_drew));exact HO121.out), (by (with_reducible repeat (first|apply blk_drewN|apply blk_drew|apply blk_alloc));exact BK109.out), (by (with_reducible repeat (first|apply blk_drewN|apply blk_drew|apply blk_alloc));exact BK110.out), (by (with_reducible repeat (first|apply blk_drewN|apply blk_drew|apply blk_alloc));exact BK111.out), (by (with_reducible repeat (first|apply blk_drewN|apply blk_drew|apply blk_alloc));exact BK122.out), GW122.out, GE122.out, NB109_122.out, NB122_109.out, NB110_122.out, NB122_110.out, NB111_122.out, NB122_111.out, (by repeat (first|(with_reducible first|exact HB.out|apply xa|apply xb|apply xc|refine below_set ?_ GE109.out|refine below_set ?_ GE110.out|refine below_set ?_ GE111.out|refine below_set ?_ GE122.out)|exact HB.out))⟩)
          rintro ⟨v117, v120, gb122⟩ w68 ⟨hS_, h0_, h1_, h2_, h3_, h4_, h5_, h6_, h7_, h8_, h9_, h10_, h11_, h12_, h13_⟩
          have n0_ : Aside0 (Kd.R k109 109 w68 w.heap.size (fun _ => True) v120 y119) := ⟨h0_⟩
          have n1_ : Aside0 (w68.heap[gb109]? = some (.cells #[.int .i64 a0_0, .slice A0_1 l0_1.length c0_1] 43 (0, 0))) := ⟨h1_⟩
          have n2_ : Aside0 (w68.heap[gb110]? = some (.cells #[.int .i64 a1_0, .slice A1_1 l1_1.length c1_1] 43 (0, 0))) := ⟨h2_⟩
          have n3_ : Aside0 (w68.heap[gb111]? = some (.cells #[.int .i32 a3_0, .int .i32 a3_1, .int .i32 a3_2, .int .i32 a3_3] 44 (0, 0))) := ⟨h3_⟩
          have n4_ : Aside0 (w68.heap[gb122]? = some (.cells #[.int .i64 0, .slice none 0 0] 43 (0, 0))) := ⟨h4_⟩
          have n5_ : Aside0 (w.heap.size ≤ gb122) := ⟨h5_⟩
          have n6_ : Aside0 (w.heap.size ≤ gb122) := ⟨h6_⟩
          have n7_ : Aside0 (gb109 ≠ gb122) := ⟨h7_⟩
          have n8_ : Aside0 (gb122 ≠ gb109) := ⟨h8_⟩
          have n9_ : Aside0 (gb110 ≠ gb122) := ⟨h9_⟩
          have n10_ : Aside0 (gb122 ≠ gb110) := ⟨h10_⟩
          have n11_ : Aside0 (gb111 ≠ gb122) := ⟨h11_⟩
          have n12_ : Aside0 (gb122 ≠ gb111) := ⟨h12_⟩
          have n13_ : Aside0 (Below w.heap.size w w68) := ⟨h13_⟩
          clear BK109
          clear BK110
          clear BK111
          clear HB
          clear h0_ h1_ h2_ h3_ h4_ h5_ h6_ h7_ h8_ h9_ h10_ h11_ h12_ h13_
          have HO121 := n0_
          have BK109 := n1_
          have BK110 := n2_
          have BK111 := n3_
          have BK122 := n4_
          have GW122 := n5_
          have GE122 := n6_
          have NB109_122 := n7_
          have NB122_109 := n8_
          have NB110_122 := n9_
          have NB122_110 := n10_
          have NB111_122 := n11_
          have NB122_111 := n12_
          have HB := n13_
          clear n0_ n1_ n2_ n3_ n4_ n5_ n6_ n7_ n8_ n9_ n10_ n11_ n12_ n13_
          have hHeld : w68.cell? ⟨gb110, 0, none⟩ = some (.int .i64 a1_0) ∧ w68.cell? ⟨gb110, 1, none⟩ = some (.slice A1_1 l1_1.length c1_1) := hS_
          obtain ⟨Ao69, co69, eo69⟩ := Kd.R_slice HO121.out
          (first|subst eo69|(injection eo69 with f1_ f2_ f3_;have f4_ := f1_.symm;have f5_ := f3_.symm;clear f1_ f2_ f3_;subst f4_;subst f5_))
          refine norm_ (a' := ?_) ?_ ?_
          rotate_left
          ·simp only [putAll, Act.put, List.setIfInBounds_toArray, List.set_cons_zero, List.set_cons_succ]
           rfl
          refine one_ (i := 8) (N := none) #[true, true, true, true, true, true, true, true, true] rfl rfl (one_of HT_.out (by kernel_rfl)) (by decide) (fun K hK => ?_)
          have hs70 : w68.cell? ⟨gb122, 0, none⟩ = some (.int .i64 0) := (blk_cell BK122.out 0).trans rfl
          have hfs70 := blk_frozen BK122.out 0
          have hns70_0 := NB109_122.out
          have hns70_1 := NB110_122.out
          have hns70_2 := NB111_122.out
          have hms70_0 := NB122_109.out
          have hms70_1 := NB122_110.out
          have hms70_2 := NB122_111.out
          have hs71 : w68.cell? ⟨gb122, 1, none⟩ = some (.slice none 0 0) := (blk_cell BK122.out 1).trans rfl
          have hfs71 := blk_frozen BK122.out 1
          have hns71_0 := NB109_122.out
          have hns71_1 := NB110_122.out
          have hns71_2 := NB111_122.out
          have hms71_0 := NB122_109.out
          have hms71_1 := NB122_110.out
          have hms71_2 := NB122_111.out
          refine skip_ (w1 := ?_) (by rfl) rfl ?_ ?_
          rotate_left
          ·go_simp
           rfl
          refine hK.out _ _ ⟨((cell_far (p := ⟨gb122, _, none⟩) NB110_122.out _).trans (((cell_far (p := ⟨gb122, _, none⟩) NB110_122.out _).trans (hHeld.1)))), ((cell_far (p := ⟨gb122, _, none⟩) NB110_122.out _).trans (((cell_far (p := ⟨gb122, _, none⟩) NB110_122.out _).trans (hHeld.2))))⟩ (fun hHeld => ?_)
          clear hK K
          refine done_ (done_of HT_.out (by kernel_rfl)) ?_
          try go_wp2
          have n0_ : Aside0 (Kd.R k109 109 ((w68.setCell ⟨gb122, 0, none⟩ (.int .i64 a1_0)).setCell ⟨gb122, 1, none⟩ (.slice Ao69 y119.length co69)) w.heap.size (fun _ => True) (.slice Ao69 y119.length co69) y119) := ⟨by (with_reducible repeat (first|apply Kd.R_alloc|apply Kd.R_drewN|apply Kd.R_drew));exact Kd.R_mono (Kd.R_far (p := ⟨gb122, 1, none⟩) (Kd.R_far (p := ⟨gb122, 0, none⟩) (Kd.R_types HO121.out BK122.out (by decide)) (fun _ hk => hk.2) (.int .i64 a1_0)) (fun _ hk => hk.2) (.slice Ao69 y119.length co69)) (fun _ hk => trivial)⟩
          have n1_ : Aside0 (((w68.setCell ⟨gb122, 0, none⟩ (.int .i64 a1_0)).setCell ⟨gb122, 1, none⟩ (.slice Ao69 y119.length co69)).heap[gb109]? = some (.cells #[.int .i64 a0_0, .slice A0_1 l0_1.length c0_1] 43 (0, 0))) := ⟨by (with_reducible repeat (first|apply blk_drewN|apply blk_drew|apply blk_alloc));refine blk_far ?_ NB109_122.out _;(with_reducible repeat (first|apply blk_drewN|apply blk_drew|apply blk_alloc));refine blk_far ?_ NB109_122.out _;(with_reducible repeat (first|apply blk_drewN|apply blk_drew|apply blk_alloc));exact BK109.out⟩
          have n2_ : Aside0 (((w68.setCell ⟨gb122, 0, none⟩ (.int .i64 a1_0)).setCell ⟨gb122, 1, none⟩ (.slice Ao69 y119.length co69)).heap[gb110]? = some (.cells #[.int .i64 a1_0, .slice A1_1 l1_1.length c1_1] 43 (0, 0))) := ⟨by (with_reducible repeat (first|apply blk_drewN|apply blk_drew|apply blk_alloc));refine blk_far ?_ NB110_122.out _;(with_reducible repeat (first|apply blk_drewN|apply blk_drew|apply blk_alloc));refine blk_far ?_ NB110_122.out _;(with_reducible repeat (first|apply blk_drewN|apply blk_drew|apply blk_alloc));exact BK110.out⟩
          have n3_ : Aside0 (((w68.setCell ⟨gb122, 0, none⟩ (.int .i64 a1_0)).setCell ⟨gb122, 1, none⟩ (.slice Ao69 y119.length co69)).heap[gb111]? = some (.cells #[.int .i32 a3_0, .int .i32 a3_1, .int .i32 a3_2, .int .i32 a3_3] 44 (0, 0))) := ⟨by (with_reducible repeat (first|apply blk_drewN|apply blk_drew|apply blk_alloc));refine blk_far ?_ NB111_122.out _;(with_reducible repeat (first|apply blk_drewN|apply blk_drew|apply blk_alloc));refine blk_far ?_ NB111_122.out _;(with_reducible repeat (first|apply blk_drewN|apply blk_drew|apply blk_alloc));exact BK111.out⟩
          have n4_ : Aside0 (((w68.setCell ⟨gb122, 0, none⟩ (.int .i64 a1_0)).setCell ⟨gb122, 1, none⟩ (.slice Ao69 y119.length co69)).heap[gb122]? = some (.cells #[.int .i64 a1_0, .slice Ao69 y119.length co69] 43 (0, 0))) := ⟨by (with_reducible repeat (first|apply blk_drewN|apply blk_drew|apply blk_alloc));refine blk_put (cs := #[.int .i64 a1_0, .slice none 0 0]) ?_ 1 _ rfl;(with_reducible repeat (first|apply blk_drewN|apply blk_drew|apply blk_alloc));refine blk_put (cs := #[.int .i64 0, .slice none 0 0]) ?_ 0 _ rfl;(with_reducible repeat (first|apply blk_drewN|apply blk_drew|apply blk_alloc));exact BK122.out⟩
          have n5_ : Aside0 (Below w.heap.size w ((w68.setCell ⟨gb122, 0, none⟩ (.int .i64 a1_0)).setCell ⟨gb122, 1, none⟩ (.slice Ao69 y119.length co69))) := ⟨by repeat (first|(with_reducible first|exact HB.out|apply xa|apply xb|apply xc|refine below_set ?_ GE109.out|refine below_set ?_ GE110.out|refine below_set ?_ GE111.out|refine below_set ?_ GE122.out)|exact HB.out)⟩
          (try clear HO121)
          (try clear BK109)
          (try clear BK110)
          (try clear BK111)
          (try clear BK122)
          (try clear HB)
          generalize ((w68.setCell ⟨gb122, 0, none⟩ (.int .i64 a1_0)).setCell ⟨gb122, 1, none⟩ (.slice Ao69 y119.length co69)) = w72 at n0_ n1_ n2_ n3_ n4_ n5_ ⊢
          have HO121 := n0_
          have BK109 := n1_
          have BK110 := n2_
          have BK111 := n3_
          have BK122 := n4_
          have HB := n5_
          clear n0_ n1_ n2_ n3_ n4_ n5_
          have n0_ := Aside0.mk (Kd.R_drew HO121.out)
          have n1_ := Aside0.mk (blk_drew BK109.out)
          have n2_ := Aside0.mk (blk_drew BK110.out)
          have n3_ := Aside0.mk (blk_drew BK111.out)
          have n4_ := Aside0.mk (blk_drew BK122.out)
          have n5_ := Aside0.mk (below_drew1 HB.out)
          clear HO121
          clear BK109
          clear BK110
          clear BK111
          clear BK122
          clear HB
          have HO121 := n0_
          have BK109 := n1_
          have BK110 := n2_
          have BK111 := n3_
          have BK122 := n4_
          have HB := n5_
          clear n0_ n1_ n2_ n3_ n4_ n5_
          have p123 : 0 ≤ ((ji49) : Int) := of_decide_eq_true (by assumption)
          have q123 : (ji49) < (l0_1.length : Int) := of_decide_eq_true (by assumption)
          obtain ⟨ad123, e123, hx123_0, hx123_1, hx123_2, hx123_3⟩ := at_T109 HR0_1.out (ji49) p123 q123
          have hw123_3 := hx123_3
          have hw123_2 := hx123_2
          have hw123_1 := hx123_1
          have hw123_0 := hx123_0
          cases e123
          replace hx123_0 := (HB.out.cell (World.block_lt_of_cell? w _ hx123_0)).trans hx123_0
          replace hx123_1 := (HB.out.cell (World.block_lt_of_cell? w _ hx123_1)).trans hx123_1
          replace hx123_2 := (HB.out.cell (World.block_lt_of_cell? w _ hx123_2)).trans hx123_2
          replace hx123_3 := (HB.out.cell (World.block_lt_of_cell? w _ hx123_3)).trans hx123_3
          replace p123 := eq_true p123
          replace q123 := eq_true q123
          have p53 : 0 ≤ ((ji49) : Int) := of_decide_eq_true (by assumption)
          have q53 : ((ji49) : Int) < ((y119.length : Int) : Int) := of_decide_eq_true (by assumption)
          obtain ⟨go53, co53, eo53, gb53, gl53, cl53, HG53⟩ := Kd.R_form HO121.out (by omega)
          (first|cases eo53|(injection eo53 with ea_ en_ ec_;(first|subst ea_|(injection ea_ with ea_;subst ea_));subst ec_;clear en_))
          have GB53 := Aside0.mk gb53
          have GG53 := Aside0.mk HG53
          clear gb53 gl53 HG53
          obtain ⟨ce53, hcl53, hM53, hcc53, hfr53⟩ := Kd.R_elem HO121.out z109 ((ji49) : Int) p53 q53
          obtain rfl := k109_openM hM53
          have hx53_0 : World.cell? _ ⟨go53, ((ji49) : Int).toNat * 4, none⟩ = some (.int .i64 ((rd_T109 y119 (ji49)).f0)) := hcc53 0 _ rfl
          have hx53_1 : World.cell? _ ⟨go53, ((ji49) : Int).toNat * 4 + 1, none⟩ = some (.int .i64 ((rd_T109 y119 (ji49)).f1)) := hcc53 1 _ rfl
          have hx53_2 : World.cell? _ ⟨go53, ((ji49) : Int).toNat * 4 + 2, none⟩ = some (.int .i64 ((rd_T109 y119 (ji49)).f2)) := hcc53 2 _ rfl
          have hx53_3 : World.cell? _ ⟨go53, ((ji49) : Int).toNat * 4 + 3, none⟩ = some (.int .i32 ((rd_T109 y119 (ji49)).f3)) := hcc53 3 _ rfl
          have hf53_0 : World.frozen? _ ⟨go53, ((ji49) : Int).toNat * 4, none⟩ = false := hfr53 0
          have hf53_1 : World.frozen? _ ⟨go53, ((ji49) : Int).toNat * 4 + 1, none⟩ = false := hfr53 1
          have hf53_2 : World.frozen? _ ⟨go53, ((ji49) : Int).toNat * 4 + 2, none⟩ = false := hfr53 2
          have hf53_3 : World.frozen? _ ⟨go53, ((ji49) : Int).toNat * 4 + 3, none⟩ = false := hfr53 3
          clear hcl53 hcc53 hfr53 hM53
          replace p53 := eq_true p53
          replace q53 := eq_true q53
          obtain ⟨ce74, hcl74, hM74, hcc74, hfr74⟩ := Kd.R_elem HO121.out z109 ((ji49) : Int) (of_decide_eq_true (by assumption)) (by have h_ : ((ji49) : Int) < ((y119.length : Int) : Int) := of_decide_eq_true (by assumption);first|exact h_|(have e_ := (Kd.R_reads' HO121.out).1;omega)|simpa using h_)
          obtain rfl := k109_openM hM74
          have HP74 := (Kd.R_seg HO121.out ((ji49) : Int) (of_decide_eq_true (by assumption)) (by have h_ : ((ji49) : Int) < ((y119.length : Int) : Int) := of_decide_eq_true (by assumption);first|exact h_|(have e_ := (Kd.R_reads' HO121.out).1;omega)|simpa using h_) (seg := [.int .i64 ((rd_T109 l0_1 (ji49)).f0), .int .i64 ((rd_T109 l0_1 (ji49)).f1), .int .i64 ((rd_T109 l0_1 (ji49)).f2), .int .i32 ((rd_T109 l0_1 (ji49)).f3)]) (j := 0) hcl74 hcc74 (show 4 ≤ 4 from by decide) (x' := (⟨(rd_T109 l0_1 (ji49)).f0, (rd_T109 l0_1 (ji49)).f1, (rd_T109 l0_1 (ji49)).f2, (rd_T109 l0_1 (ji49)).f3⟩ : S109)) (k109_mkM _ _ _ (⟨(rd_T109 l0_1 (ji49)).f0, (rd_T109 l0_1 (ji49)).f1, (rd_T109 l0_1 (ji49)).f2, (rd_T109 l0_1 (ji49)).f3⟩ : S109) ) (fun _ hk => hk)).1
          rw [← Ny124.out] at HP74
          have HQ74 := Aside0.mk HP74
          clear hcl74 hcc74 hfr74 hM74 HP74
          refine start_ (n := 10) (S := fun w' => w'.cell? ⟨gb122, 0, none⟩ = some (.int .i64 a1_0) ∧ w'.cell? ⟨gb122, 1, none⟩ = some (.slice (some ⟨go53, 0, none⟩) y119.length co69) ∧ w'.cell? ⟨gb109, 0, none⟩ = some (.int .i64 a0_0) ∧ w'.cell? ⟨gb109, 1, none⟩ = some (.slice (some ad123) l0_1.length c0_1) ∧ w'.cell? (ad123.add (((ji49)).toNat * 4)) = some (.int .i64 ((rd_T109 l0_1 (ji49)).f0)) ∧ w'.cell? ⟨(ad123.add (((ji49)).toNat * 4)).block, (ad123.add (((ji49)).toNat * 4)).off + 1, none⟩ = some (.int .i64 ((rd_T109 l0_1 (ji49)).f1)) ∧ w'.cell? ⟨(ad123.add (((ji49)).toNat * 4)).block, (ad123.add (((ji49)).toNat * 4)).off + 2, none⟩ = some (.int .i64 ((rd_T109 l0_1 (ji49)).f2)) ∧ w'.cell? ⟨(ad123.add (((ji49)).toNat * 4)).block, (ad123.add (((ji49)).toNat * 4)).off + 3, none⟩ = some (.int .i32 ((rd_T109 l0_1 (ji49)).f3))) (ds := [9]) #[false, false, false, false, false, false, false, false, false, false] (by kernel_rfl) rfl rfl ⟨(blk_cell BK122.out 0).trans rfl, (blk_cell BK122.out 1).trans rfl, (blk_cell BK109.out 0).trans rfl, (blk_cell BK109.out 1).trans rfl, ((HB.out.cell (World.block_lt_of_cell? w _ hw123_0)).trans hw123_0), ((HB.out.cell (World.block_lt_of_cell? w _ hw123_1)).trans hw123_1), ((HB.out.cell (World.block_lt_of_cell? w _ hw123_2)).trans hw123_2), ((HB.out.cell (World.block_lt_of_cell? w _ hw123_3)).trans hw123_3)⟩ (fun hHeld => ?_);refine with_tabW pinfoldlaw10_hangs.tab6 pinfoldlaw10_hangs.bits6 (fun HT_ HW_ => ?_)
          generalize w72.drew = w73 at HO121 BK109 BK110 BK111 BK122 HB GG53 HQ74 hf53_0 hf53_1 hf53_2 hf53_3 hx123_0 hx123_1 hx123_2 hx123_3 hx53_0 hx53_1 hx53_2 hx53_3 hHeld ⊢
          refine pure_ (i := 0) (N := some 61) (v := ?_) (a' := ?_) #[true, false, false, false, false, false, false, false, false, false] rfl rfl (any_of HT_.out (by kernel_rfl)) (fun _ _ _ h => h) (Or.inl ⟨by rfl, ?_⟩) ?_ ?_
          rotate_left
          ·intro w'
           go_simp
           with_reducible rfl
          rotate_left
          ·simp only [Act.put, List.setIfInBounds_toArray, List.set_cons_zero, List.set_cons_succ, i64_w, i32_w]
           rfl
          refine pure_ (i := 2) (N := some 63) (v := ?_) (a' := ?_) #[true, false, true, false, false, false, false, false, false, false] rfl rfl (any_of HT_.out (by kernel_rfl)) (fun _ _ _ h => h) (Or.inl ⟨by rfl, ?_⟩) ?_ ?_
          rotate_left
          ·intro w'
           go_simp
           with_reducible rfl
          rotate_left
          ·simp only [Act.put, List.setIfInBounds_toArray, List.set_cons_zero, List.set_cons_succ, i64_w, i32_w]
           rfl
          refine pure_ (i := 3) (N := some 64) (v := ?_) (a' := ?_) #[true, false, true, true, false, false, false, false, false, false] rfl rfl (any_of HT_.out (by kernel_rfl)) (fun _ _ _ h => h) (Or.inl ⟨by rfl, ?_⟩) ?_ ?_
          rotate_left
          ·intro w'
           go_simp
           with_reducible rfl
          rotate_left
          ·simp only [Act.put, List.setIfInBounds_toArray, List.set_cons_zero, List.set_cons_succ, i64_w, i32_w]
           rfl
          refine pure_ (i := 5) (N := some 66) (v := ?_) (a' := ?_) #[true, false, true, true, false, true, false, false, false, false] rfl rfl (any_of HT_.out (by kernel_rfl)) (fun _ _ _ h => h) (Or.inl ⟨by rfl, ?_⟩) ?_ ?_
          rotate_left
          ·intro w'
           go_simp
           with_reducible rfl
          rotate_left
          ·simp only [Act.put, List.setIfInBounds_toArray, List.set_cons_zero, List.set_cons_succ, i64_w, i32_w]
           rfl
          refine take_ (i := 1) (N := some 62) (v := ?_) (a' := ?_) #[true, true, true, true, false, true, false, false, false, false] rfl rfl (take_ofW HT_.out HW_.out (by kernel_rfl)) (fun _ _ _ h => h) (Or.inl ⟨by rfl, ?_⟩) hHeld ?_ ?_
          rotate_left
          ·rintro w' ⟨s0, s1, s2, s3, s4, s5, s6, s7⟩
           go_simp
           with_reducible rfl
          rotate_left
          ·simp only [Act.put, List.setIfInBounds_toArray, List.set_cons_zero, List.set_cons_succ, i64_w, i32_w]
           rfl
          refine take_ (i := 4) (N := some 65) (v := ?_) (a' := ?_) #[true, true, true, true, true, true, false, false, false, false] rfl rfl (take_ofW HT_.out HW_.out (by kernel_rfl)) (fun _ _ _ h => h) (Or.inl ⟨by rfl, ?_⟩) hHeld ?_ ?_
          rotate_left
          ·rintro w' ⟨s0, s1, s2, s3, s4, s5, s6, s7⟩
           go_simp
           with_reducible rfl
          rotate_left
          ·simp only [Act.put, List.setIfInBounds_toArray, List.set_cons_zero, List.set_cons_succ, i64_w, i32_w]
           rfl
          refine pure_ (i := 6) (N := some 67) (v := ?_) (a' := ?_) #[true, true, true, true, true, true, true, false, false, false] rfl rfl (any_of HT_.out (by kernel_rfl)) (fun _ _ _ h => h) (Or.inl ⟨by rfl, ?_⟩) ?_ ?_
          rotate_left
          ·intro w'
           go_simp
           with_reducible rfl
          rotate_left
          ·simp only [Act.put, List.setIfInBounds_toArray, List.set_cons_zero, List.set_cons_succ, i64_w, i32_w]
           rfl
          refine take_ (i := 7) (N := some 68) (v := ?_) (a' := ?_) #[true, true, true, true, true, true, true, true, false, false] rfl rfl (take_ofW HT_.out HW_.out (by kernel_rfl)) (fun _ _ _ h => h) (Or.inl ⟨by rfl, ?_⟩) hHeld ?_ ?_
          rotate_left
          ·rintro w' ⟨s0, s1, s2, s3, s4, s5, s6, s7⟩
           go_simp
           with_reducible rfl
          rotate_left
          ·simp only [Act.put, List.setIfInBounds_toArray, List.set_cons_zero, List.set_cons_succ, i64_w, i32_w]
           rfl
          refine pure_ (i := 8) (N := some 69) (v := ?_) (a' := ?_) #[true, true, true, true, true, true, true, true, true, false] rfl rfl (any_of HT_.out (by kernel_rfl)) (fun _ _ _ h => h) (Or.inl ⟨by rfl, ?_⟩) ?_ ?_
          rotate_left
          ·intro w'
           go_simp
           with_reducible rfl
          rotate_left
          ·simp only [Act.put, List.setIfInBounds_toArray, List.set_cons_zero, List.set_cons_succ, i64_w, i32_w]
           rfl
          refine last_ (i := 9) (N := none) #[true, true, true, true, true, true, true, true, true, true] rfl rfl (one_of HT_.out (by kernel_rfl)) (by decide) (fun K hK => ?_)
          refine skip_ (w1 := ?_) (by rfl) rfl ?_ ?_
          rotate_left
          ·go_simp
           rfl
          refine hK.out _ _ ?_
          clear hK K
          refine done_ (done_of HT_.out (by kernel_rfl)) ?_
          have n0_ : Aside0 (Kd.R k109 109 ((((w73.setCell ⟨go53, ((ji49) : Int).toNat * 4, none⟩ (.int .i64 ((rd_T109 l0_1 (ji49)).f0))).setCell ⟨go53, ((ji49) : Int).toNat * 4 + 1, none⟩ (.int .i64 ((rd_T109 l0_1 (ji49)).f1))).setCell ⟨go53, ((ji49) : Int).toNat * 4 + 2, none⟩ (.int .i64 ((rd_T109 l0_1 (ji49)).f2))).setCell ⟨go53, ((ji49) : Int).toNat * 4 + 3, none⟩ (.int .i32 ((rd_T109 l0_1 (ji49)).f3))) w.heap.size (fun _ => True) (.slice (some ⟨go53, 0, none⟩) y119.length co69) y124) := ⟨by (with_reducible repeat (first|apply Kd.R_alloc|apply Kd.R_drewN|apply Kd.R_drew));exact HQ74.out⟩
          have n1_ : Aside0 (((((w73.setCell ⟨go53, ((ji49) : Int).toNat * 4, none⟩ (.int .i64 ((rd_T109 l0_1 (ji49)).f0))).setCell ⟨go53, ((ji49) : Int).toNat * 4 + 1, none⟩ (.int .i64 ((rd_T109 l0_1 (ji49)).f1))).setCell ⟨go53, ((ji49) : Int).toNat * 4 + 2, none⟩ (.int .i64 ((rd_T109 l0_1 (ji49)).f2))).setCell ⟨go53, ((ji49) : Int).toNat * 4 + 3, none⟩ (.int .i32 ((rd_T109 l0_1 (ji49)).f3))).heap[gb109]? = some (.cells #[.int .i64 a0_0, .slice (some ad123) l0_1.length c0_1] 43 (0, 0))) := ⟨by (with_reducible repeat (first|apply blk_drewN|apply blk_drew|apply blk_alloc));refine blk_far ?_ (by have h_ := Kd.R_ne HO121.out BK109.out (by decide);intro e_;exact h_ (by rw [e_];rfl)) _;(with_reducible repeat (first|apply blk_drewN|apply blk_drew|apply blk_alloc));refine blk_far ?_ (by have h_ := Kd.R_ne HO121.out BK109.out (by decide);intro e_;exact h_ (by rw [e_];rfl)) _;(with_reducible repeat (first|apply blk_drewN|apply blk_drew|apply blk_alloc));refine blk_far ?_ (by have h_ := Kd.R_ne HO121.out BK109.out (by decide);intro e_;exact h_ (by rw [e_];rfl)) _;(with_reducible repeat (first|apply blk_drewN|apply blk_drew|apply blk_alloc));refine blk_far ?_ (by have h_ := Kd.R_ne HO121.out BK109.out (by decide);intro e_;exact h_ (by rw [e_];rfl)) _;(with_reducible repeat (first|apply blk_drewN|apply blk_drew|apply blk_alloc));exact BK109.out⟩
          have n2_ : Aside0 (((((w73.setCell ⟨go53, ((ji49) : Int).toNat * 4, none⟩ (.int .i64 ((rd_T109 l0_1 (ji49)).f0))).setCell ⟨go53, ((ji49) : Int).toNat * 4 + 1, none⟩ (.int .i64 ((rd_T109 l0_1 (ji49)).f1))).setCell ⟨go53, ((ji49) : Int).toNat * 4 + 2, none⟩ (.int .i64 ((rd_T109 l0_1 (ji49)).f2))).setCell ⟨go53, ((ji49) : Int).toNat * 4 + 3, none⟩ (.int .i32 ((rd_T109 l0_1 (ji49)).f3))).heap[gb110]? = some (.cells #[.int .i64 a1_0, .slice A1_1 l1_1.length c1_1] 43 (0, 0))) := ⟨by (with_reducible repeat (first|apply blk_drewN|apply blk_drew|apply blk_alloc));refine blk_far ?_ (by have h_ := Kd.R_ne HO121.out BK110.out (by decide);intro e_;exact h_ (by rw [e_];rfl)) _;(with_reducible repeat (first|apply blk_drewN|apply blk_drew|apply blk_alloc));refine blk_far ?_ (by have h_ := Kd.R_ne HO121.out BK110.out (by decide);intro e_;exact h_ (by rw [e_];rfl)) _;(with_reducible repeat (first|apply blk_drewN|apply blk_drew|apply blk_alloc));refine blk_far ?_ (by have h_ := Kd.R_ne HO121.out BK110.out (by decide);intro e_;exact h_ (by rw [e_];rfl)) _;(with_reducible repeat (first|apply blk_drewN|apply blk_drew|apply blk_alloc));refine blk_far ?_ (by have h_ := Kd.R_ne HO121.out BK110.out (by decide);intro e_;exact h_ (by rw [e_];rfl)) _;(with_reducible repeat (first|apply blk_drewN|apply blk_drew|apply blk_alloc));exact BK110.out⟩
          have n3_ : Aside0 (((((w73.setCell ⟨go53, ((ji49) : Int).toNat * 4, none⟩ (.int .i64 ((rd_T109 l0_1 (ji49)).f0))).setCell ⟨go53, ((ji49) : Int).toNat * 4 + 1, none⟩ (.int .i64 ((rd_T109 l0_1 (ji49)).f1))).setCell ⟨go53, ((ji49) : Int).toNat * 4 + 2, none⟩ (.int .i64 ((rd_T109 l0_1 (ji49)).f2))).setCell ⟨go53, ((ji49) : Int).toNat * 4 + 3, none⟩ (.int .i32 ((rd_T109 l0_1 (ji49)).f3))).heap[gb111]? = some (.cells #[.int .i32 a3_0, .int .i32 a3_1, .int .i32 a3_2, .int .i32 a3_3] 44 (0, 0))) := ⟨by (with_reducible repeat (first|apply blk_drewN|apply blk_drew|apply blk_alloc));refine blk_far ?_ (by have h_ := Kd.R_ne HO121.out BK111.out (by decide);intro e_;exact h_ (by rw [e_];rfl)) _;(with_reducible repeat (first|apply blk_drewN|apply blk_drew|apply blk_alloc));refine blk_far ?_ (by have h_ := Kd.R_ne HO121.out BK111.out (by decide);intro e_;exact h_ (by rw [e_];rfl)) _;(with_reducible repeat (first|apply blk_drewN|apply blk_drew|apply blk_alloc));refine blk_far ?_ (by have h_ := Kd.R_ne HO121.out BK111.out (by decide);intro e_;exact h_ (by rw [e_];rfl)) _;(with_reducible repeat (first|apply blk_drewN|apply blk_drew|apply blk_alloc));refine blk_far ?_ (by have h_ := Kd.R_ne HO121.out BK111.out (by decide);intro e_;exact h_ (by rw [e_];rfl)) _;(with_reducible repeat (first|apply blk_drewN|apply blk_drew|apply blk_alloc));exact BK111.out⟩
          have n4_ : Aside0 (((((w73.setCell ⟨go53, ((ji49) : Int).toNat * 4, none⟩ (.int .i64 ((rd_T109 l0_1 (ji49)).f0))).setCell ⟨go53, ((ji49) : Int).toNat * 4 + 1, none⟩ (.int .i64 ((rd_T109 l0_1 (ji49)).f1))).setCell ⟨go53, ((ji49) : Int).toNat * 4 + 2, none⟩ (.int .i64 ((rd_T109 l0_1 (ji49)).f2))).setCell ⟨go53, ((ji49) : Int).toNat * 4 + 3, none⟩ (.int .i32 ((rd_T109 l0_1 (ji49)).f3))).heap[gb122]? = some (.cells #[.int .i64 a1_0, .slice (some ⟨go53, 0, none⟩) y119.length co69] 43 (0, 0))) := ⟨by (with_reducible repeat (first|apply blk_drewN|apply blk_drew|apply blk_alloc));refine blk_far ?_ (by have h_ := Kd.R_ne HO121.out BK122.out (by decide);intro e_;exact h_ (by rw [e_];rfl)) _;(with_reducible repeat (first|apply blk_drewN|apply blk_drew|apply blk_alloc));refine blk_far ?_ (by have h_ := Kd.R_ne HO121.out BK122.out (by decide);intro e_;exact h_ (by rw [e_];rfl)) _;(with_reducible repeat (first|apply blk_drewN|apply blk_drew|apply blk_alloc));refine blk_far ?_ (by have h_ := Kd.R_ne HO121.out BK122.out (by decide);intro e_;exact h_ (by rw [e_];rfl)) _;(with_reducible repeat (first|apply blk_drewN|apply blk_drew|apply blk_alloc));refine blk_far ?_ (by have h_ := Kd.R_ne HO121.out BK122.out (by decide);intro e_;exact h_ (by rw [e_];rfl)) _;(with_reducible repeat (first|apply blk_drewN|apply blk_drew|apply blk_alloc));exact BK122.out⟩
          have n5_ : Aside0 (Below w.heap.size w ((((w73.setCell ⟨go53, ((ji49) : Int).toNat * 4, none⟩ (.int .i64 ((rd_T109 l0_1 (ji49)).f0))).setCell ⟨go53, ((ji49) : Int).toNat * 4 + 1, none⟩ (.int .i64 ((rd_T109 l0_1 (ji49)).f1))).setCell ⟨go53, ((ji49) : Int).toNat * 4 + 2, none⟩ (.int .i64 ((rd_T109 l0_1 (ji49)).f2))).setCell ⟨go53, ((ji49) : Int).toNat * 4 + 3, none⟩ (.int .i32 ((rd_T109 l0_1 (ji49)).f3)))) := ⟨by repeat (first|(with_reducible first|exact HB.out|apply xa|apply xb|apply xc|refine below_set ?_ GB53.out|refine below_set ?_ GB53.out|refine below_set ?_ GB53.out|refine below_set ?_ GB53.out|refine below_set ?_ GE109.out|refine below_set ?_ GE110.out|refine below_set ?_ GE111.out|refine below_set ?_ GE122.out)|exact HB.out)⟩
          (try clear HO121)
          (try clear BK109)
          (try clear BK110)
          (try clear BK111)
          (try clear BK122)
          (try clear HB)
          generalize ((((w73.setCell ⟨go53, ((ji49) : Int).toNat * 4, none⟩ (.int .i64 ((rd_T109 l0_1 (ji49)).f0))).setCell ⟨go53, ((ji49) : Int).toNat * 4 + 1, none⟩ (.int .i64 ((rd_T109 l0_1 (ji49)).f1))).setCell ⟨go53, ((ji49) : Int).toNat * 4 + 2, none⟩ (.int .i64 ((rd_T109 l0_1 (ji49)).f2))).setCell ⟨go53, ((ji49) : Int).toNat * 4 + 3, none⟩ (.int .i32 ((rd_T109 l0_1 (ji49)).f3))) = w75 at n0_ n1_ n2_ n3_ n4_ n5_ ⊢
          have HO121 := n0_
          have BK109 := n1_
          have BK110 := n2_
          have BK111 := n3_
          have BK122 := n4_
          have HB := n5_
          clear n0_ n1_ n2_ n3_ n4_ n5_
          have hnb76 := NB122_109.out
          have hnc76 := NB109_122.out
          have hnb77 := NB122_110.out
          have hnc77 := NB110_122.out
          have hnb78 := NB122_111.out
          have hnc78 := NB111_122.out
          have hcz79_0 : w75.cell? ⟨gb122, 0, none⟩ = some (.int .i64 a1_0) := (blk_cell BK122.out 0).trans rfl
          have hcz79_1 : w75.cell? ⟨gb122, 1, none⟩ = some (.slice (some ⟨go53, 0, none⟩) y119.length co69) := (blk_cell BK122.out 1).trans rfl
          have hfz79_0 := blk_frozen BK122.out 0
          have hfz79_1 := blk_frozen BK122.out 1
          go_upto_region 12 with (first|((with_reducible refine gate_callee (f := 62) rfl ?_);refine goesL_ (some 72) rfl rfl Try.func62 (by kernel_rfl) rfl #[.agg #[.int .i64 a1_0, .slice (some ⟨go53, 0, none⟩) y124.length co69]] rfl (by (try simp only [List.map_toArray, List.map_cons, List.map_nil]);first|done|(rw [show y124.length = y119.length from (Kd.R_reads' HO121.out).1.symm] <;> rfl)|rfl|(simp only [List.length_drop, List.length_take];rfl)) ?_;(with_reducible refine (pinfoldref09_Check.calls a1_0 _ _ y124 t125 t126 _ ?side1 ?side2 A54.out).mono ?_);(case side1 => repeat (first|exact (Kd.R_reads' HO121.out).2.2|(with_reducible refine Kd.C_alloc ?_ _)|(with_reducible refine Kd.C_drewN ?_ _)|(with_reducible refine Kd.C_drew ?_)));(case side2 => rw [show y124.length = y119.length from (Kd.R_reads' HO121.out).1.symm];exact (Kd.R_reads' HO121.out).2.1);rintro e w80 ⟨rfl, hb⟩;refine ⟨_, rfl, ?_⟩;have n0_ := Aside0.mk (Kd.R_below (by (with_reducible repeat (first|apply Kd.R_alloc|apply Kd.R_drewN|apply Kd.R_drew));exact HO121.out) hb);have n1_ := Aside0.mk (blk_below (g := gb109) (o := .cells #[.int .i64 a0_0, .slice (some ad123) l0_1.length c0_1] 43 (0, 0)) (by (with_reducible repeat (first|apply blk_drewN|apply blk_drew|apply blk_alloc));exact BK109.out) hb);have n2_ := Aside0.mk (blk_below (g := gb110) (o := .cells #[.int .i64 a1_0, .slice A1_1 l1_1.length c1_1] 43 (0, 0)) (by (with_reducible repeat (first|apply blk_drewN|apply blk_drew|apply blk_alloc));exact BK110.out) hb);have n3_ := Aside0.mk (blk_below (g := gb111) (o := .cells #[.int .i32 a3_0, .int .i32 a3_1, .int .i32 a3_2, .int .i32 a3_3] 44 (0, 0)) (by (with_reducible repeat (first|apply blk_drewN|apply blk_drew|apply blk_alloc));exact BK111.out) hb);have n4_ := Aside0.mk (blk_below (g := gb122) (o := .cells #[.int .i64 a1_0, .slice (some ⟨go53, 0, none⟩) y119.length co69] 43 (0, 0)) (by (with_reducible repeat (first|apply blk_drewN|apply blk_drew|apply blk_alloc));exact BK122.out) hb);have n5_ := Aside0.mk (below_step (by repeat (first|(with_reducible first|exact HB.out|apply xa|apply xb|apply xc|refine below_set ?_ GE109.out|refine below_set ?_ GE110.out|refine below_set ?_ GE111.out|refine below_set ?_ GE122.out)|exact HB.out)) hb);clear HO121;clear BK109;clear BK110;clear BK111;clear BK122;clear HB;have HO121 := n0_;have BK109 := n1_;have BK110 := n2_;have BK111 := n3_;have BK122 := n4_;have HB := n5_;clear n0_ n1_ n2_ n3_ n4_ n5_;(try clear hb);(try clear hb2);(try clear hk);(try clear hi);have hcz81_0 : w80.cell? ⟨gb109, 0, none⟩ = some (.int .i64 a0_0) := (blk_cell BK109.out 0).trans rfl;have hcz81_1 : w80.cell? ⟨gb109, 1, none⟩ = some (.slice (some ad123) l0_1.length c0_1) := (blk_cell BK109.out 1).trans rfl;have hfz81_0 := blk_frozen BK109.out 0;have hfz81_1 := blk_frozen BK109.out 1;have hnb82 := NB111_110.out;have hnc82 := NB110_111.out;have hcz83_0 : w80.cell? ⟨gb111, 0, none⟩ = some (.int .i32 a3_0) := (blk_cell BK111.out 0).trans rfl;have hcz83_1 : w80.cell? ⟨gb111, 1, none⟩ = some (.int .i32 a3_1) := (blk_cell BK111.out 1).trans rfl;have hcz83_2 : w80.cell? ⟨gb111, 2, none⟩ = some (.int .i32 a3_2) := (blk_cell BK111.out 2).trans rfl;have hcz83_3 : w80.cell? ⟨gb111, 3, none⟩ = some (.int .i32 a3_3) := (blk_cell BK111.out 3).trans rfl;have hfz83_0 := blk_frozen BK111.out 0;have hfz83_1 := blk_frozen BK111.out 1;have hfz83_2 := blk_frozen BK111.out 2;have hfz83_3 := blk_frozen BK111.out 3)|((with_reducible refine gate_callee (f := 29) rfl ?_);refine goesL_ (some 81) rfl rfl Try.func29 (by kernel_rfl) rfl #[.agg #[.int .i64 a0_0, .slice (some ad123) l0_1.length c0_1], .int .i64 ji49, .agg #[.int .i32 a3_0, .int .i32 a3_1, .int .i32 a3_2, .int .i32 a3_3]] rfl (by (try simp only [List.map_toArray, List.map_cons, List.map_nil]);first|done|(simp only [hji49];rfl)|rfl|(simp only [List.length_drop, List.length_take];rfl)) ?_;(with_reducible refine (exec_Step.calls a0_0 _ _ l0_1 ji49 a3_0 a3_1 a3_2 a3_3 t127 t128 t129 t130 t131 t132 t133 t134 _ ?side1 ?side2 A56.out).mono ?_);(case side1 => repeat (first|exact (Kd.C_below HR0_1.out HB.out)|(with_reducible refine Kd.C_alloc ?_ _)|(with_reducible refine Kd.C_drewN ?_ _)|(with_reducible refine Kd.C_drew ?_)));(case side2 => exact HC0_1.out);rintro e w84 ⟨rfl, hb⟩;refine ⟨_, rfl, ?_⟩;have n0_ := Aside0.mk (Kd.R_below (by (with_reducible repeat (first|apply Kd.R_alloc|apply Kd.R_drewN|apply Kd.R_drew));exact HO121.out) hb);have n1_ := Aside0.mk (blk_below (g := gb109) (o := .cells #[.int .i64 a0_0, .slice (some ad123) l0_1.length c0_1] 43 (0, 0)) (by (with_reducible repeat (first|apply blk_drewN|apply blk_drew|apply blk_alloc));exact BK109.out) hb);have n2_ := Aside0.mk (blk_below (g := gb110) (o := .cells #[.int .i64 a1_0, .slice A1_1 l1_1.length c1_1] 43 (0, 0)) (by (with_reducible repeat (first|apply blk_drewN|apply blk_drew|apply blk_alloc));exact BK110.out) hb);have n3_ := Aside0.mk (blk_below (g := gb111) (o := .cells #[.int .i32 a3_0, .int .i32 a3_1, .int .i32 a3_2, .int .i32 a3_3] 44 (0, 0)) (by (with_reducible repeat (first|apply blk_drewN|apply blk_drew|apply blk_alloc));exact BK111.out) hb);have n4_ := Aside0.mk (blk_below (g := gb122) (o := .cells #[.int .i64 a1_0, .slice (some ⟨go53, 0, none⟩) y119.length co69] 43 (0, 0)) (by (with_reducible repeat (first|apply blk_drewN|apply blk_drew|apply blk_alloc));exact BK122.out) hb);have n5_ := Aside0.mk (below_step (by repeat (first|(with_reducible first|exact HB.out|apply xa|apply xb|apply xc|refine below_set ?_ GE109.out|refine below_set ?_ GE110.out|refine below_set ?_ GE111.out|refine below_set ?_ GE122.out)|exact HB.out)) hb);clear HO121;clear BK109;clear BK110;clear BK111;clear BK122;clear HB;have HO121 := n0_;have BK109 := n1_;have BK110 := n2_;have BK111 := n3_;have BK122 := n4_;have HB := n5_;clear n0_ n1_ n2_ n3_ n4_ n5_;(try clear hb);(try clear hb2);(try clear hk);(try clear hi))|((with_reducible refine gate_dst (N := 16) rfl ?_);(try (refine gate_guard (by rfl) ?_;dsimp only));refine box_event ?hg (N := 16) ?hd (cs := #[.int .i32 0, .int .i32 0, .int .i32 0, .int .i32 0]) (t := 44) ?hr ?_;(case hd => rfl);(case hg => rfl);(case hr => first|(go_simp;done)|(go_simp;rfl));intro gb135 hg w85 hbox hb;have n0_ := Aside0.mk (Kd.R_below (by (with_reducible repeat (first|apply Kd.R_alloc|apply Kd.R_drewN|apply Kd.R_drew));exact HO121.out) hb);have n1_ := Aside0.mk (blk_below (g := gb109) (o := .cells #[.int .i64 a0_0, .slice (some ad123) l0_1.length c0_1] 43 (0, 0)) (by (with_reducible repeat (first|apply blk_drewN|apply blk_drew|apply blk_alloc));exact BK109.out) hb);have n2_ := Aside0.mk (blk_below (g := gb110) (o := .cells #[.int .i64 a1_0, .slice A1_1 l1_1.length c1_1] 43 (0, 0)) (by (with_reducible repeat (first|apply blk_drewN|apply blk_drew|apply blk_alloc));exact BK110.out) hb);have n3_ := Aside0.mk (blk_below (g := gb111) (o := .cells #[.int .i32 a3_0, .int .i32 a3_1, .int .i32 a3_2, .int .i32 a3_3] 44 (0, 0)) (by (with_reducible repeat (first|apply blk_drewN|apply blk_drew|apply blk_alloc));exact BK111.out) hb);have n4_ := Aside0.mk (blk_below (g := gb122) (o := .cells #[.int .i64 a1_0, .slice (some ⟨go53, 0, none⟩) y119.length co69] 43 (0, 0)) (by (with_reducible repeat (first|apply blk_drewN|apply blk_drew|apply blk_alloc));exact BK122.out) hb);have n5_ := Aside0.mk (below_step (by repeat (first|(with_reducible first|exact HB.out|apply xa|apply xb|apply xc|refine below_set ?_ GE109.out|refine below_set ?_ GE110.out|refine below_set ?_ GE111.out|refine below_set ?_ GE122.out)|exact HB.out)) hb);have n6_ := Aside0.mk (hbox);have n7_ := Aside0.mk ((by rw [hg];exact (below_size (by repeat (first|(with_reducible first|exact HB.out|apply xa|apply xb|apply xc|refine below_set ?_ GE109.out|refine below_set ?_ GE110.out|refine below_set ?_ GE111.out|refine below_set ?_ GE122.out)|exact HB.out))) : w.heap.size ≤ gb135));have n8_ := Aside0.mk ((by rw [hg];exact (below_size (by repeat (first|(with_reducible first|exact HB.out|apply xa|apply xb|apply xc|refine below_set ?_ GE109.out|refine below_set ?_ GE110.out|refine below_set ?_ GE111.out|refine below_set ?_ GE122.out)|exact HB.out))) : w.heap.size ≤ gb135));have n9_ := Aside0.mk ((by rw [hg];exact Nat.ne_of_lt (blk_lt (g := gb109) (o := .cells #[.int .i64 a0_0, .slice (some ad123) l0_1.length c0_1] 43 (0, 0)) (by (with_reducible repeat (first|apply blk_drewN|apply blk_drew|apply blk_alloc));exact BK109.out)) : gb109 ≠ gb135));have n10_ := Aside0.mk ((by rw [hg];exact Nat.ne_of_gt (blk_lt (g := gb109) (o := .cells #[.int .i64 a0_0, .slice (some ad123) l0_1.length c0_1] 43 (0, 0)) (by (with_reducible repeat (first|apply blk_drewN|apply blk_drew|apply blk_alloc));exact BK109.out)) : gb135 ≠ gb109));have n11_ := Aside0.mk ((by rw [hg];exact Nat.ne_of_lt (blk_lt (g := gb110) (o := .cells #[.int .i64 a1_0, .slice A1_1 l1_1.length c1_1] 43 (0, 0)) (by (with_reducible repeat (first|apply blk_drewN|apply blk_drew|apply blk_alloc));exact BK110.out)) : gb110 ≠ gb135));have n12_ := Aside0.mk ((by rw [hg];exact Nat.ne_of_gt (blk_lt (g := gb110) (o := .cells #[.int .i64 a1_0, .slice A1_1 l1_1.length c1_1] 43 (0, 0)) (by (with_reducible repeat (first|apply blk_drewN|apply blk_drew|apply blk_alloc));exact BK110.out)) : gb135 ≠ gb110));have n13_ := Aside0.mk ((by rw [hg];exact Nat.ne_of_lt (blk_lt (g := gb111) (o := .cells #[.int .i32 a3_0, .int .i32 a3_1, .int .i32 a3_2, .int .i32 a3_3] 44 (0, 0)) (by (with_reducible repeat (first|apply blk_drewN|apply blk_drew|apply blk_alloc));exact BK111.out)) : gb111 ≠ gb135));have n14_ := Aside0.mk ((by rw [hg];exact Nat.ne_of_gt (blk_lt (g := gb111) (o := .cells #[.int .i32 a3_0, .int .i32 a3_1, .int .i32 a3_2, .int .i32 a3_3] 44 (0, 0)) (by (with_reducible repeat (first|apply blk_drewN|apply blk_drew|apply blk_alloc));exact BK111.out)) : gb135 ≠ gb111));have n15_ := Aside0.mk ((by rw [hg];exact Nat.ne_of_lt (blk_lt (g := gb122) (o := .cells #[.int .i64 a1_0, .slice (some ⟨go53, 0, none⟩) y119.length co69] 43 (0, 0)) (by (with_reducible repeat (first|apply blk_drewN|apply blk_drew|apply blk_alloc));exact BK122.out)) : gb122 ≠ gb135));have n16_ := Aside0.mk ((by rw [hg];exact Nat.ne_of_gt (blk_lt (g := gb122) (o := .cells #[.int .i64 a1_0, .slice (some ⟨go53, 0, none⟩) y119.length co69] 43 (0, 0)) (by (with_reducible repeat (first|apply blk_drewN|apply blk_drew|apply blk_alloc));exact BK122.out)) : gb135 ≠ gb122));clear HO121;clear BK109;clear BK110;clear BK111;clear BK122;clear HB;have HO121 := n0_;have BK109 := n1_;have BK110 := n2_;have BK111 := n3_;have BK122 := n4_;have HB := n5_;have BK135 := n6_;have GW135 := n7_;have GE135 := n8_;have NB109_135 := n9_;have NB135_109 := n10_;have NB110_135 := n11_;have NB135_110 := n12_;have NB111_135 := n13_;have NB135_111 := n14_;have NB122_135 := n15_;have NB135_122 := n16_;clear n0_ n1_ n2_ n3_ n4_ n5_ n6_ n7_ n8_ n9_ n10_ n11_ n12_ n13_ n14_ n15_ n16_;clear hb hbox hg)|((with_reducible refine gate_dst (N := 17) rfl ?_);(try (refine gate_guard (by rfl) ?_;dsimp only));refine box_event ?hg (N := 17) ?hd (cs := #[.int .i64 0, .int .i64 0, .int .i32 0]) (t := 47) ?hr ?_;(case hd => rfl);(case hg => rfl);(case hr => first|(go_simp;done)|(go_simp;rfl));intro gb136 hg w86 hbox hb;have n0_ := Aside0.mk (Kd.R_below (by (with_reducible repeat (first|apply Kd.R_alloc|apply Kd.R_drewN|apply Kd.R_drew));exact HO121.out) hb);have n1_ := Aside0.mk (blk_below (g := gb109) (o := .cells #[.int .i64 a0_0, .slice (some ad123) l0_1.length c0_1] 43 (0, 0)) (by (with_reducible repeat (first|apply blk_drewN|apply blk_drew|apply blk_alloc));exact BK109.out) hb);have n2_ := Aside0.mk (blk_below (g := gb110) (o := .cells #[.int .i64 a1_0, .slice A1_1 l1_1.length c1_1] 43 (0, 0)) (by (with_reducible repeat (first|apply blk_drewN|apply blk_drew|apply blk_alloc));exact BK110.out) hb);have n3_ := Aside0.mk (blk_below (g := gb111) (o := .cells #[.int .i32 a3_0, .int .i32 a3_1, .int .i32 a3_2, .int .i32 a3_3] 44 (0, 0)) (by (with_reducible repeat (first|apply blk_drewN|apply blk_drew|apply blk_alloc));exact BK111.out) hb);have n4_ := Aside0.mk (blk_below (g := gb122) (o := .cells #[.int .i64 a1_0, .slice (some ⟨go53, 0, none⟩) y119.length co69] 43 (0, 0)) (by (with_reducible repeat (first|apply blk_drewN|apply blk_drew|apply blk_alloc));exact BK122.out) hb);have n5_ := Aside0.mk (blk_below (g := gb135) (o := .cells #[.int .i32 0, .int .i32 0, .int .i32 0, .int .i32 0] 44 (0, 0)) (by (with_reducible repeat (first|apply blk_drewN|apply blk_drew|apply blk_alloc));exact BK135.out) hb);have n6_ := Aside0.mk (below_step (by repeat (first|(with_reducible first|exact HB.out|apply xa|apply xb|apply xc|refine below_set ?_ GE109.out|refine below_set ?_ GE110.out|refine below_set ?_ GE111.out|refine below_set ?_ GE122.out|refine below_set ?_ GE135.out)|exact HB.out)) hb);have n7_ := Aside0.mk (hbox);have n8_ := Aside0.mk ((by rw [hg];exact (below_size (by repeat (first|(with_reducible first|exact HB.out|apply xa|apply xb|apply xc|refine below_set ?_ GE109.out|refine below_set ?_ GE110.out|refine below_set ?_ GE111.out|refine below_set ?_ GE122.out|refine below_set ?_ GE135.out)|exact HB.out))) : w.heap.size ≤ gb136));have n9_ := Aside0.mk ((by rw [hg];exact (below_size (by repeat (first|(with_reducible first|exact HB.out|apply xa|apply xb|apply xc|refine below_set ?_ GE109.out|refine below_set ?_ GE110.out|refine below_set ?_ GE111.out|refine below_set ?_ GE122.out|refine below_set ?_ GE135.out)|exact HB.out))) : w.heap.size ≤ gb136));have n10_ := Aside0.mk ((by rw [hg];exact Nat.ne_of_lt (blk_lt (g := gb109) (o := .cells #[.int .i64 a0_0, .slice (some ad123) l0_1.length c0_1] 43 (0, 0)) (by (with_reducible repeat (first|apply blk_drewN|apply blk_drew|apply blk_alloc));exact BK109.out)) : gb109 ≠ gb136));have n11_ := Aside0.mk ((by rw [hg];exact Nat.ne_of_gt (blk_lt (g := gb109) (o := .cells #[.int .i64 a0_0, .slice (some ad123) l0_1.length c0_1] 43 (0, 0)) (by (with_reducible repeat (first|apply blk_drewN|apply blk_drew|apply blk_alloc));exact BK109.out)) : gb136 ≠ gb109));have n12_ := Aside0.mk ((by rw [hg];exact Nat.ne_of_lt (blk_lt (g := gb110) (o := .cells #[.int .i64 a1_0, .slice A1_1 l1_1.length c1_1] 43 (0, 0)) (by (with_reducible repeat (first|apply blk_drewN|apply blk_drew|apply blk_alloc));exact BK110.out)) : gb110 ≠ gb136));have n13_ := Aside0.mk ((by rw [hg];exact Nat.ne_of_gt (blk_lt (g := gb110) (o := .cells #[.int .i64 a1_0, .slice A1_1 l1_1.length c1_1] 43 (0, 0)) (by (with_reducible repeat (first|apply blk_drewN|apply blk_drew|apply blk_alloc));exact BK110.out)) : gb136 ≠ gb110));have n14_ := Aside0.mk ((by rw [hg];exact Nat.ne_of_lt (blk_lt (g := gb111) (o := .cells #[.int .i32 a3_0, .int .i32 a3_1, .int .i32 a3_2, .int .i32 a3_3] 44 (0, 0)) (by (with_reducible repeat (first|apply blk_drewN|apply blk_drew|apply blk_alloc));exact BK111.out)) : gb111 ≠ gb136));have n15_ := Aside0.mk ((by rw [hg];exact Nat.ne_of_gt (blk_lt (g := gb111) (o := .cells #[.int .i32 a3_0, .int .i32 a3_1, .int .i32 a3_2, .int .i32 a3_3] 44 (0, 0)) (by (with_reducible repeat (first|apply blk_drewN|apply blk_drew|apply blk_alloc));exact BK111.out)) : gb136 ≠ gb111));have n16_ := Aside0.mk ((by rw [hg];exact Nat.ne_of_lt (blk_lt (g := gb122) (o := .cells #[.int .i64 a1_0, .slice (some ⟨go53, 0, none⟩) y119.length co69] 43 (0, 0)) (by (with_reducible repeat (first|apply blk_drewN|apply blk_drew|apply blk_alloc));exact BK122.out)) : gb122 ≠ gb136));have n17_ := Aside0.mk ((by rw [hg];exact Nat.ne_of_gt (blk_lt (g := gb122) (o := .cells #[.int .i64 a1_0, .slice (some ⟨go53, 0, none⟩) y119.length co69] 43 (0, 0)) (by (with_reducible repeat (first|apply blk_drewN|apply blk_drew|apply blk_alloc));exact BK122.out)) : gb136 ≠ gb122));have n18_ := Aside0.mk ((by rw [hg];exact Nat.ne_of_lt (blk_lt (g := gb135) (o := .cells #[.int .i32 0, .int .i32 0, .int .i32 0, .int .i32 0] 44 (0, 0)) (by (with_reducible repeat (first|apply blk_drewN|apply blk_drew|apply blk_alloc));exact BK135.out)) : gb135 ≠ gb136));have n19_ := Aside0.mk ((by rw [hg];exact Nat.ne_of_gt (blk_lt (g := gb135) (o := .cells #[.int .i32 0, .int .i32 0, .int .i32 0, .int .i32 0] 44 (0, 0)) (by (with_reducible repeat (first|apply blk_drewN|apply blk_drew|apply blk_alloc));exact BK135.out)) : gb136 ≠ gb135));clear HO121;clear BK109;clear BK110;clear BK111;clear BK122;clear BK135;clear HB;have HO121 := n0_;have BK109 := n1_;have BK110 := n2_;have BK111 := n3_;have BK122 := n4_;have BK135 := n5_;have HB := n6_;have BK136 := n7_;have GW136 := n8_;have GE136 := n9_;have NB109_136 := n10_;have NB136_109 := n11_;have NB110_136 := n12_;have NB136_110 := n13_;have NB111_136 := n14_;have NB136_111 := n15_;have NB122_136 := n16_;have NB136_122 := n17_;have NB135_136 := n18_;have NB136_135 := n19_;clear n0_ n1_ n2_ n3_ n4_ n5_ n6_ n7_ n8_ n9_ n10_ n11_ n12_ n13_ n14_ n15_ n16_ n17_ n18_ n19_;clear hb hbox hg;have hnb87 := NB135_109.out;have hnc87 := NB109_135.out;have hnb88 := NB135_110.out;have hnc88 := NB110_135.out;have hnb89 := NB135_111.out;have hnc89 := NB111_135.out;have hnb90 := NB135_122.out;have hnc90 := NB122_135.out;have hnb91 := NB135_136.out;have hnc91 := NB136_135.out;have hcz92_0 : w86.cell? ⟨gb135, 0, none⟩ = some (.int .i32 0) := (blk_cell BK135.out 0).trans rfl;have hcz92_1 : w86.cell? ⟨gb135, 1, none⟩ = some (.int .i32 0) := (blk_cell BK135.out 1).trans rfl;have hcz92_2 : w86.cell? ⟨gb135, 2, none⟩ = some (.int .i32 0) := (blk_cell BK135.out 2).trans rfl;have hcz92_3 : w86.cell? ⟨gb135, 3, none⟩ = some (.int .i32 0) := (blk_cell BK135.out 3).trans rfl;have hfz92_0 := blk_frozen BK135.out 0;have hfz92_1 := blk_frozen BK135.out 1;have hfz92_2 := blk_frozen BK135.out 2;have hfz92_3 := blk_frozen BK135.out 3;have hnb93 := NB136_109.out;have hnc93 := NB109_136.out;have hnb94 := NB136_110.out;have hnc94 := NB110_136.out;have hnb95 := NB136_111.out;have hnc95 := NB111_136.out;have hnb96 := NB136_122.out;have hnc96 := NB122_136.out;have hcz97_0 : w86.cell? ⟨gb136, 0, none⟩ = some (.int .i64 0) := (blk_cell BK136.out 0).trans rfl;have hcz97_1 : w86.cell? ⟨gb136, 1, none⟩ = some (.int .i64 0) := (blk_cell BK136.out 1).trans rfl;have hcz97_2 : w86.cell? ⟨gb136, 2, none⟩ = some (.int .i32 0) := (blk_cell BK136.out 2).trans rfl;have hfz97_0 := blk_frozen BK136.out 0;have hfz97_1 := blk_frozen BK136.out 1;have hfz97_2 := blk_frozen BK136.out 2;have hcz98_0 : w86.cell? ⟨gb122, 0, none⟩ = some (.int .i64 a1_0) := (blk_cell BK122.out 0).trans rfl;have hcz98_1 : w86.cell? ⟨gb122, 1, none⟩ = some (.slice (some ⟨go53, 0, none⟩) y119.length co69) := (blk_cell BK122.out 1).trans rfl;have hfz98_0 := blk_frozen BK122.out 0;have hfz98_1 := blk_frozen BK122.out 1;have hcz99_0 : w86.cell? ⟨gb111, 0, none⟩ = some (.int .i32 a3_0) := (blk_cell BK111.out 0).trans rfl;have hcz99_1 : w86.cell? ⟨gb111, 1, none⟩ = some (.int .i32 a3_1) := (blk_cell BK111.out 1).trans rfl;have hcz99_2 : w86.cell? ⟨gb111, 2, none⟩ = some (.int .i32 a3_2) := (blk_cell BK111.out 2).trans rfl;have hcz99_3 : w86.cell? ⟨gb111, 3, none⟩ = some (.int .i32 a3_3) := (blk_cell BK111.out 3).trans rfl;have hfz99_0 := blk_frozen BK111.out 0;have hfz99_1 := blk_frozen BK111.out 1;have hfz99_2 := blk_frozen BK111.out 2;have hfz99_3 := blk_frozen BK111.out 3)|((with_reducible refine gate_callee (f := 29) rfl ?_);refine goesL_ (some 89) rfl rfl Try.func29 (by kernel_rfl) rfl #[.agg #[.int .i64 a1_0, .slice (some ⟨go53, 0, none⟩) y124.length co69], .int .i64 ji49, .agg #[.int .i32 a3_0, .int .i32 a3_1, .int .i32 a3_2, .int .i32 a3_3]] rfl (by (try simp only [List.map_toArray, List.map_cons, List.map_nil]);first|done|(rw [show y124.length = y119.length from (Kd.R_reads' HO121.out).1.symm] <;> rfl)|(simp only [hji49];rfl)|rfl|(simp only [List.length_drop, List.length_take];rfl)) ?_;(with_reducible refine (exec_Step.calls a1_0 _ _ y124 ji49 a3_0 a3_1 a3_2 a3_3 t137 t138 t139 t140 t141 t142 t143 t144 _ ?side1 ?side2 A57.out).mono ?_);(case side1 => refine (Kd.R_reads' (e := 109) (base := w.heap.size) (ok := fun k_ => True) (n := y119.length) (c := co69) ?_).2.2;exact (by (with_reducible repeat (first|apply Kd.R_alloc|apply Kd.R_drewN|apply Kd.R_drew));exact (Kd.R_mono (Kd.R_mono (Kd.R_far (p := ⟨gb136, 2, none⟩) (Kd.R_far (p := ⟨gb136, 1, none⟩) (Kd.R_far (p := ⟨gb136, 0, none⟩) (Kd.R_far (p := ⟨gb135, 3, none⟩) (Kd.R_far (p := ⟨gb135, 2, none⟩) (Kd.R_far (p := ⟨gb135, 1, none⟩) (Kd.R_far (p := ⟨gb135, 0, none⟩) (Kd.R_types (Kd.R_types HO121.out BK135.out (by decide)) BK136.out (by decide)) (fun _ hk => hk.1.2) (.int .i32 t128)) (fun _ hk => hk.1.2) (.int .i32 t129)) (fun _ hk => hk.1.2) (.int .i32 t130)) (fun _ hk => hk.1.2) (.int .i32 t131)) (fun _ hk => hk.2) (.int .i64 t132)) (fun _ hk => hk.2) (.int .i64 t133)) (fun _ hk => hk.2) (.int .i32 t134)) (fun _ h_ => h_.1)) (fun _ h_ => h_.1))));(case side2 => rw [show y124.length = y119.length from (Kd.R_reads' HO121.out).1.symm];exact (Kd.R_reads' HO121.out).2.1);rintro e w100 ⟨rfl, hb⟩;refine ⟨_, rfl, ?_⟩;have n0_ := Aside0.mk (Kd.R_below (by (with_reducible repeat (first|apply Kd.R_alloc|apply Kd.R_drewN|apply Kd.R_drew));exact (Kd.R_mono (Kd.R_mono (Kd.R_far (p := ⟨gb136, 2, none⟩) (Kd.R_far (p := ⟨gb136, 1, none⟩) (Kd.R_far (p := ⟨gb136, 0, none⟩) (Kd.R_far (p := ⟨gb135, 3, none⟩) (Kd.R_far (p := ⟨gb135, 2, none⟩) (Kd.R_far (p := ⟨gb135, 1, none⟩) (Kd.R_far (p := ⟨gb135, 0, none⟩) (Kd.R_types (Kd.R_types HO121.out BK135.out (by decide)) BK136.out (by decide)) (fun _ hk => hk.1.2) (.int .i32 t128)) (fun _ hk => hk.1.2) (.int .i32 t129)) (fun _ hk => hk.1.2) (.int .i32 t130)) (fun _ hk => hk.1.2) (.int .i32 t131)) (fun _ hk => hk.2) (.int .i64 t132)) (fun _ hk => hk.2) (.int .i64 t133)) (fun _ hk => hk.2) (.int .i32 t134)) (fun _ h_ => h_.1)) (fun _ h_ => h_.1))) hb);have n1_ := Aside0.mk (blk_below (g := gb109) (o := .cells #[.int .i64 a0_0, .slice (some ad123) l0_1.length c0_1] 43 (0, 0)) (by (with_reducible repeat (first|apply blk_drewN|apply blk_drew|apply blk_alloc));refine blk_far ?_ NB109_136.out _;(with_reducible repeat (first|apply blk_drewN|apply blk_drew|apply blk_alloc));refine blk_far ?_ NB109_136.out _;(with_reducible repeat (first|apply blk_drewN|apply blk_drew|apply blk_alloc));refine blk_far ?_ NB109_136.out _;(with_reducible repeat (first|apply blk_drewN|apply blk_drew|apply blk_alloc));refine blk_far ?_ NB109_135.out _;(with_reducible repeat (first|apply blk_drewN|apply blk_drew|apply blk_alloc));refine blk_far ?_ NB109_135.out _;(with_reducible repeat (first|apply blk_drewN|apply blk_drew|apply blk_alloc));refine blk_far ?_ NB109_135.out _;(with_reducible repeat (first|apply blk_drewN|apply blk_drew|apply blk_alloc));refine blk_far ?_ NB109_135.out _;(with_reducible repeat (first|apply blk_drewN|apply blk_drew|apply blk_alloc));exact BK109.out) hb);have n2_ := Aside0.mk (blk_below (g := gb110) (o := .cells #[.int .i64 a1_0, .slice A1_1 l1_1.length c1_1] 43 (0, 0)) (by (with_reducible repeat (first|apply blk_drewN|apply blk_drew|apply blk_alloc));refine blk_far ?_ NB110_136.out _;(with_reducible repeat (first|apply blk_drewN|apply blk_drew|apply blk_alloc));refine blk_far ?_ NB110_136.out _;(with_reducible repeat (first|apply blk_drewN|apply blk_drew|apply blk_alloc));refine blk_far ?_ NB110_136.out _;(with_reducible repeat (first|apply blk_drewN|apply blk_drew|apply blk_alloc));refine blk_far ?_ NB110_135.out _;(with_reducible repeat (first|apply blk_drewN|apply blk_drew|apply blk_alloc));refine blk_far ?_ NB110_135.out _;(with_reducible repeat (first|apply blk_drewN|apply blk_drew|apply blk_alloc));refine blk_far ?_ NB110_135.out _;(with_reducible repeat (first|apply blk_drewN|apply blk_drew|apply blk_alloc));refine blk_far ?_ NB110_135.out _;(with_reducible repeat (first|apply blk_drewN|apply blk_drew|apply blk_alloc));exact BK110.out) hb);have n3_ := Aside0.mk (blk_below (g := gb111) (o := .cells #[.int .i32 a3_0, .int .i32 a3_1, .int .i32 a3_2, .int .i32 a3_3] 44 (0, 0)) (by (with_reducible repeat (first|apply blk_drewN|apply blk_drew|apply blk_alloc));refine blk_far ?_ NB111_136.out _;(with_reducible repeat (first|apply blk_drewN|apply blk_drew|apply blk_alloc));refine blk_far ?_ NB111_136.out _;(with_reducible repeat (first|apply blk_drewN|apply blk_drew|apply blk_alloc));refine blk_far ?_ NB111_136.out _;(with_reducible repeat (first|apply blk_drewN|apply blk_drew|apply blk_alloc));refine blk_far ?_ NB111_135.out _;(with_reducible repeat (first|apply blk_drewN|apply blk_drew|apply blk_alloc));refine blk_far ?_ NB111_135.out _;(with_reducible repeat (first|apply blk_drewN|apply blk_drew|apply blk_alloc));refine blk_far ?_ NB111_135.out _;(with_reducible repeat (first|apply blk_drewN|apply blk_drew|apply blk_alloc));refine blk_far ?_ NB111_135.out _;(with_reducible repeat (first|apply blk_drewN|apply blk_drew|apply blk_alloc));exact BK111.out) hb);have n4_ := Aside0.mk (blk_below (g := gb122) (o := .cells #[.int .i64 a1_0, .slice (some ⟨go53, 0, none⟩) y119.length co69] 43 (0, 0)) (by (with_reducible repeat (first|apply blk_drewN|apply blk_drew|apply blk_alloc));refine blk_far ?_ NB122_136.out _;(with_reducible repeat (first|apply blk_drewN|apply blk_drew|apply blk_alloc));refine blk_far ?_ NB122_136.out _;(with_reducible repeat (first|apply blk_drewN|apply blk_drew|apply blk_alloc));refine blk_far ?_ NB122_136.out _;(with_reducible repeat (first|apply blk_drewN|apply blk_drew|apply blk_alloc));refine blk_far ?_ NB122_135.out _;(with_reducible repeat (first|apply blk_drewN|apply blk_drew|apply blk_alloc));refine blk_far ?_ NB122_135.out _;(with_reducible repeat (first|apply blk_drewN|apply blk_drew|apply blk_alloc));refine blk_far ?_ NB122_135.out _;(with_reducible repeat (first|apply blk_drewN|apply blk_drew|apply blk_alloc));refine blk_far ?_ NB122_135.out _;(with_reducible repeat (first|apply blk_drewN|apply blk_drew|apply blk_alloc));exact BK122.out) hb);have n5_ := Aside0.mk (blk_below (g := gb135) (o := .cells #[.int .i32 t128, .int .i32 t129, .int .i32 t130, .int .i32 t131] 44 (0, 0)) (by (with_reducible repeat (first|apply blk_drewN|apply blk_drew|apply blk_alloc));refine blk_far ?_ NB135_136.out _;(with_reducible repeat (first|apply blk_drewN|apply blk_drew|apply blk_alloc));refine blk_far ?_ NB135_136.out _;(with_reducible repeat (first|apply blk_drewN|apply blk_drew|apply blk_alloc));refine blk_far ?_ NB135_136.out _;(with_reducible repeat (first|apply blk_drewN|apply blk_drew|apply blk_alloc));refine blk_put (cs := #[.int .i32 t128, .int .i32 t129, .int .i32 t130, .int .i32 0]) ?_ 3 _ rfl;(with_reducible repeat (first|apply blk_drewN|apply blk_drew|apply blk_alloc));refine blk_put (cs := #[.int .i32 t128, .int .i32 t129, .int .i32 0, .int .i32 0]) ?_ 2 _ rfl;(with_reducible repeat (first|apply blk_drewN|apply blk_drew|apply blk_alloc));refine blk_put (cs := #[.int .i32 t128, .int .i32 0, .int .i32 0, .int .i32 0]) ?_ 1 _ rfl;(with_reducible repeat (first|apply blk_drewN|apply blk_drew|apply blk_alloc));refine blk_put (cs := #[.int .i32 0, .int .i32 0, .int .i32 0, .int .i32 0]) ?_ 0 _ rfl;(with_reducible repeat (first|apply blk_drewN|apply blk_drew|apply blk_alloc));exact BK135.out) hb);have n6_ := Aside0.mk (blk_below (g := gb136) (o := .cells #[.int .i64 t132, .int .i64 t133, .int .i32 t134] 47 (0, 0)) (by (with_reducible repeat (first|apply blk_drewN|apply blk_drew|apply blk_alloc));refine blk_put (cs := #[.int .i64 t132, .int .i64 t133, .int .i32 0]) ?_ 2 _ rfl;(with_reducible repeat (first|apply blk_drewN|apply blk_drew|apply blk_alloc));refine blk_put (cs := #[.int .i64 t132, .int .i64 0, .int .i32 0]) ?_ 1 _ rfl;(with_reducible repeat (first|apply blk_drewN|apply blk_drew|apply blk_alloc));refine blk_put (cs := #[.int .i64 0, .int .i64 0, .int .i32 0]) ?_ 0 _ rfl;(with_reducible repeat (first|apply blk_drewN|apply blk_drew|apply blk_alloc));refine blk_far ?_ NB136_135.out _;(with_reducible repeat (first|apply blk_drewN|apply blk_drew|apply blk_alloc));refine blk_far ?_ NB136_135.out _;(with_reducible repeat (first|apply blk_drewN|apply blk_drew|apply blk_alloc));refine blk_far ?_ NB136_135.out _;(with_reducible repeat (first|apply blk_drewN|apply blk_drew|apply blk_alloc));refine blk_far ?_ NB136_135.out _;(with_reducible repeat (first|apply blk_drewN|apply blk_drew|apply blk_alloc));exact BK136.out) hb);have n7_ := Aside0.mk (below_step (by repeat (first|(with_reducible first|exact HB.out|apply xa|apply xb|apply xc|refine below_set ?_ GE109.out|refine below_set ?_ GE110.out|refine below_set ?_ GE111.out|refine below_set ?_ GE122.out|refine below_set ?_ GE135.out|refine below_set ?_ GE136.out)|exact HB.out)) hb);clear HO121;clear BK109;clear BK110;clear BK111;clear BK122;clear BK135;clear BK136;clear HB;have HO121 := n0_;have BK109 := n1_;have BK110 := n2_;have BK111 := n3_;have BK122 := n4_;have BK135 := n5_;have BK136 := n6_;have HB := n7_;clear n0_ n1_ n2_ n3_ n4_ n5_ n6_ n7_;(try clear hb);(try clear hb2);(try clear hk);(try clear hi))|((with_reducible refine gate_dst (N := 19) rfl ?_);(try (refine gate_guard (by rfl) ?_;dsimp only));refine box_event ?hg (N := 19) ?hd (cs := #[.int .i32 0, .int .i32 0, .int .i32 0, .int .i32 0]) (t := 44) ?hr ?_;(case hd => rfl);(case hg => rfl);(case hr => first|(go_simp;done)|(go_simp;rfl));intro gb145 hg w101 hbox hb;have n0_ := Aside0.mk (Kd.R_below (by (with_reducible repeat (first|apply Kd.R_alloc|apply Kd.R_drewN|apply Kd.R_drew));exact HO121.out) hb);have n1_ := Aside0.mk (blk_below (g := gb109) (o := .cells #[.int .i64 a0_0, .slice (some ad123) l0_1.length c0_1] 43 (0, 0)) (by (with_reducible repeat (first|apply blk_drewN|apply blk_drew|apply blk_alloc));exact BK109.out) hb);have n2_ := Aside0.mk (blk_below (g := gb110) (o := .cells #[.int .i64 a1_0, .slice A1_1 l1_1.length c1_1] 43 (0, 0)) (by (with_reducible repeat (first|apply blk_drewN|apply blk_drew|apply blk_alloc));exact BK110.out) hb);have n3_ := Aside0.mk (blk_below (g := gb111) (o := .cells #[.int .i32 a3_0, .int .i32 a3_1, .int .i32 a3_2, .int .i32 a3_3] 44 (0, 0)) (by (with_reducible repeat (first|apply blk_drewN|apply blk_drew|apply blk_alloc));exact BK111.out) hb);have n4_ := Aside0.mk (blk_below (g := gb122) (o := .cells #[.int .i64 a1_0, .slice (some ⟨go53, 0, none⟩) y119.length co69] 43 (0, 0)) (by (with_reducible repeat (first|apply blk_drewN|apply blk_drew|apply blk_alloc));exact BK122.out) hb);have n5_ := Aside0.mk (blk_below (g := gb135) (o := .cells #[.int .i32 t128, .int .i32 t129, .int .i32 t130, .int .i32 t131] 44 (0, 0)) (by (with_reducible repeat (first|apply blk_drewN|apply blk_drew|apply blk_alloc));exact BK135.out) hb);have n6_ := Aside0.mk (blk_below (g := gb136) (o := .cells #[.int .i64 t132, .int .i64 t133, .int .i32 t134] 47 (0, 0)) (by (with_reducible repeat (first|apply blk_drewN|apply blk_drew|apply blk_alloc));exact BK136.out) hb);have n7_ := Aside0.mk (below_step (by repeat (first|(with_reducible first|exact HB.out|apply xa|apply xb|apply xc|refine below_set ?_ GE109.out|refine below_set ?_ GE110.out|refine below_set ?_ GE111.out|refine below_set ?_ GE122.out|refine below_set ?_ GE135.out|refine below_set ?_ GE136.out)|exact HB.out)) hb);have n8_ := Aside0.mk (hbox);have n9_ := Aside0.mk ((by rw [hg];exact (below_size (by repeat (first|(with_reducible first|exact HB.out|apply xa|apply xb|apply xc|refine below_set ?_ GE109.out|refine below_set ?_ GE110.out|refine below_set ?_ GE111.out|refine below_set ?_ GE122.out|refine below_set ?_ GE135.out|refine below_set ?_ GE136.out)|exact HB.out))) : w.heap.size ≤ gb145));have n10_ := Aside0.mk ((by rw [hg];exact (below_size (by repeat (first|(with_reducible first|exact HB.out|apply xa|apply xb|apply xc|refine below_set ?_ GE109.out|refine below_set ?_ GE110.out|refine below_set ?_ GE111.out|refine below_set ?_ GE122.out|refine below_set ?_ GE135.out|refine below_set ?_ GE136.out)|exact HB.out))) : w.heap.size ≤ gb145));have n11_ := Aside0.mk ((by rw [hg];exact Nat.ne_of_lt (blk_lt (g := gb109) (o := .cells #[.int .i64 a0_0, .slice (some ad123) l0_1.length c0_1] 43 (0, 0)) (by (with_reducible repeat (first|apply blk_drewN|apply blk_drew|apply blk_alloc));exact BK109.out)) : gb109 ≠ gb145));have n12_ := Aside0.mk ((by rw [hg];exact Nat.ne_of_gt (blk_lt (g := gb109) (o := .cells #[.int .i64 a0_0, .slice (some ad123) l0_1.length c0_1] 43 (0, 0)) (by (with_reducible repeat (first|apply blk_drewN|apply blk_drew|apply blk_alloc));exact BK109.out)) : gb145 ≠ gb109));have n13_ := Aside0.mk ((by rw [hg];exact Nat.ne_of_lt (blk_lt (g := gb110) (o := .cells #[.int .i64 a1_0, .slice A1_1 l1_1.length c1_1] 43 (0, 0)) (by (with_reducible repeat (first|apply blk_drewN|apply blk_drew|apply blk_alloc));exact BK110.out)) : gb110 ≠ gb145));have n14_ := Aside0.mk ((by rw [hg];exact Nat.ne_of_gt (blk_lt (g := gb110) (o := .cells #[.int .i64 a1_0, .slice A1_1 l1_1.length c1_1] 43 (0, 0)) (by (with_reducible repeat (first|apply blk_drewN|apply blk_drew|apply blk_alloc));exact BK110.out)) : gb145 ≠ gb110));have n15_ := Aside0.mk ((by rw [hg];exact Nat.ne_of_lt (blk_lt (g := gb111) (o := .cells #[.int .i32 a3_0, .int .i32 a3_1, .int .i32 a3_2, .int .i32 a3_3] 44 (0, 0)) (by (with_reducible repeat (first|apply blk_drewN|apply blk_drew|apply blk_alloc));exact BK111.out)) : gb111 ≠ gb145));have n16_ := Aside0.mk ((by rw [hg];exact Nat.ne_of_gt (blk_lt (g := gb111) (o := .cells #[.int .i32 a3_0, .int .i32 a3_1, .int .i32 a3_2, .int .i32 a3_3] 44 (0, 0)) (by (with_reducible repeat (first|apply blk_drewN|apply blk_drew|apply blk_alloc));exact BK111.out)) : gb145 ≠ gb111));have n17_ := Aside0.mk ((by rw [hg];exact Nat.ne_of_lt (blk_lt (g := gb122) (o := .cells #[.int .i64 a1_0, .slice (some ⟨go53, 0, none⟩) y119.length co69] 43 (0, 0)) (by (with_reducible repeat (first|apply blk_drewN|apply blk_drew|apply blk_alloc));exact BK122.out)) : gb122 ≠ gb145));have n18_ := Aside0.mk ((by rw [hg];exact Nat.ne_of_gt (blk_lt (g := gb122) (o := .cells #[.int .i64 a1_0, .slice (some ⟨go53, 0, none⟩) y119.length co69] 43 (0, 0)) (by (with_reducible repeat (first|apply blk_drewN|apply blk_drew|apply blk_alloc));exact BK122.out)) : gb145 ≠ gb122));have n19_ := Aside0.mk ((by rw [hg];exact Nat.ne_of_lt (blk_lt (g := gb135) (o := .cells #[.int .i32 t128, .int .i32 t129, .int .i32 t130, .int .i32 t131] 44 (0, 0)) (by (with_reducible repeat (first|apply blk_drewN|apply blk_drew|apply blk_alloc));exact BK135.out)) : gb135 ≠ gb145));have n20_ := Aside0.mk ((by rw [hg];exact Nat.ne_of_gt (blk_lt (g := gb135) (o := .cells #[.int .i32 t128, .int .i32 t129, .int .i32 t130, .int .i32 t131] 44 (0, 0)) (by (with_reducible repeat (first|apply blk_drewN|apply blk_drew|apply blk_alloc));exact BK135.out)) : gb145 ≠ gb135));have n21_ := Aside0.mk ((by rw [hg];exact Nat.ne_of_lt (blk_lt (g := gb136) (o := .cells #[.int .i64 t132, .int .i64 t133, .int .i32 t134] 47 (0, 0)) (by (with_reducible repeat (first|apply blk_drewN|apply blk_drew|apply blk_alloc));exact BK136.out)) : gb136 ≠ gb145));have n22_ := Aside0.mk ((by rw [hg];exact Nat.ne_of_gt (blk_lt (g := gb136) (o := .cells #[.int .i64 t132, .int .i64 t133, .int .i32 t134] 47 (0, 0)) (by (with_reducible repeat (first|apply blk_drewN|apply blk_drew|apply blk_alloc));exact BK136.out)) : gb145 ≠ gb136));clear HO121;clear BK109;clear BK110;clear BK111;clear BK122;clear BK135;clear BK136;clear HB;have HO121 := n0_;have BK109 := n1_;have BK110 := n2_;have BK111 := n3_;have BK122 := n4_;have BK135 := n5_;have BK136 := n6_;have HB := n7_;have BK145 := n8_;have GW145 := n9_;have GE145 := n10_;have NB109_145 := n11_;have NB145_109 := n12_;have NB110_145 := n13_;have NB145_110 := n14_;have NB111_145 := n15_;have NB145_111 := n16_;have NB122_145 := n17_;have NB145_122 := n18_;have NB135_145 := n19_;have NB145_135 := n20_;have NB136_145 := n21_;have NB145_136 := n22_;clear n0_ n1_ n2_ n3_ n4_ n5_ n6_ n7_ n8_ n9_ n10_ n11_ n12_ n13_ n14_ n15_ n16_ n17_ n18_ n19_ n20_ n21_ n22_;clear hb hbox hg)|((with_reducible refine gate_dst (N := 20) rfl ?_);(try (refine gate_guard (by rfl) ?_;dsimp only));refine box_event ?hg (N := 20) ?hd (cs := #[.int .i64 0, .int .i64 0, .int .i32 0]) (t := 47) ?hr ?_;(case hd => rfl);(case hg => rfl);(case hr => first|(go_simp;done)|(go_simp;rfl));intro gb146 hg w102 hbox hb;have n0_ := Aside0.mk (Kd.R_below (by (with_reducible repeat (first|apply Kd.R_alloc|apply Kd.R_drewN|apply Kd.R_drew));exact HO121.out) hb);have n1_ := Aside0.mk (blk_below (g := gb109) (o := .cells #[.int .i64 a0_0, .slice (some ad123) l0_1.length c0_1] 43 (0, 0)) (by (with_reducible repeat (first|apply blk_drewN|apply blk_drew|apply blk_alloc));exact BK109.out) hb);have n2_ := Aside0.mk (blk_below (g := gb110) (o := .cells #[.int .i64 a1_0, .slice A1_1 l1_1.length c1_1] 43 (0, 0)) (by (with_reducible repeat (first|apply blk_drewN|apply blk_drew|apply blk_alloc));exact BK110.out) hb);have n3_ := Aside0.mk (blk_below (g := gb111) (o := .cells #[.int .i32 a3_0, .int .i32 a3_1, .int .i32 a3_2, .int .i32 a3_3] 44 (0, 0)) (by (with_reducible repeat (first|apply blk_drewN|apply blk_drew|apply blk_alloc));exact BK111.out) hb);have n4_ := Aside0.mk (blk_below (g := gb122) (o := .cells #[.int .i64 a1_0, .slice (some ⟨go53, 0, none⟩) y119.length co69] 43 (0, 0)) (by (with_reducible repeat (first|apply blk_drewN|apply blk_drew|apply blk_alloc));exact BK122.out) hb);have n5_ := Aside0.mk (blk_below (g := gb135) (o := .cells #[.int .i32 t128, .int .i32 t129, .int .i32 t130, .int .i32 t131] 44 (0, 0)) (by (with_reducible repeat (first|apply blk_drewN|apply blk_drew|apply blk_alloc));exact BK135.out) hb);have n6_ := Aside0.mk (blk_below (g := gb136) (o := .cells #[.int .i64 t132, .int .i64 t133, .int .i32 t134] 47 (0, 0)) (by (with_reducible repeat (first|apply blk_drewN|apply blk_drew|apply blk_alloc));exact BK136.out) hb);have n7_ := Aside0.mk (blk_below (g := gb145) (o := .cells #[.int .i32 0, .int .i32 0, .int .i32 0, .int .i32 0] 44 (0, 0)) (by (with_reducible repeat (first|apply blk_drewN|apply blk_drew|apply blk_alloc));exact BK145.out) hb);have n8_ := Aside0.mk (below_step (by repeat (first|(with_reducible first|exact HB.out|apply xa|apply xb|apply xc|refine below_set ?_ GE109.out|refine below_set ?_ GE110.out|refine below_set ?_ GE111.out|refine below_set ?_ GE122.out|refine below_set ?_ GE135.out|refine below_set ?_ GE136.out|refine below_set ?_ GE145.out)|exact HB.out)) hb);have n9_ := Aside0.mk (hbox);have n10_ := Aside0.mk ((by rw [hg];exact (below_size (by repeat (first|(with_reducible first|exact HB.out|apply xa|apply xb|apply xc|refine below_set ?_ GE109.out|refine below_set ?_ GE110.out|refine below_set ?_ GE111.out|refine below_set ?_ GE122.out|refine below_set ?_ GE135.out|refine below_set ?_ GE136.out|refine below_set ?_ GE145.out)|exact HB.out))) : w.heap.size ≤ gb146));have n11_ := Aside0.mk ((by rw [hg];exact (below_size (by repeat (first|(with_reducible first|exact HB.out|apply xa|apply xb|apply xc|refine below_set ?_ GE109.out|refine below_set ?_ GE110.out|refine below_set ?_ GE111.out|refine below_set ?_ GE122.out|refine below_set ?_ GE135.out|refine below_set ?_ GE136.out|refine below_set ?_ GE145.out)|exact HB.out))) : w.heap.size ≤ gb146));have n12_ := Aside0.mk ((by rw [hg];exact Nat.ne_of_lt (blk_lt (g := gb109) (o := .cells #[.int .i64 a0_0, .slice (some ad123) l0_1.length c0_1] 43 (0, 0)) (by (with_reducible repeat (first|apply blk_drewN|apply blk_drew|apply blk_alloc));exact BK109.out)) : gb109 ≠ gb146));have n13_ := Aside0.mk ((by rw [hg];exact Nat.ne_of_gt (blk_lt (g := gb109) (o := .cells #[.int .i64 a0_0, .slice (some ad123) l0_1.length c0_1] 43 (0, 0)) (by (with_reducible repeat (first|apply blk_drewN|apply blk_drew|apply blk_alloc));exact BK109.out)) : gb146 ≠ gb109));have n14_ := Aside0.mk ((by rw [hg];exact Nat.ne_of_lt (blk_lt (g := gb110) (o := .cells #[.int .i64 a1_0, .slice A1_1 l1_1.length c1_1] 43 (0, 0)) (by (with_reducible repeat (first|apply blk_drewN|apply blk_drew|apply blk_alloc));exact BK110.out)) : gb110 ≠ gb146));have n15_ := Aside0.mk ((by rw [hg];exact Nat.ne_of_gt (blk_lt (g := gb110) (o := .cells #[.int .i64 a1_0, .slice A1_1 l1_1.length c1_1] 43 (0, 0)) (by (with_reducible repeat (first|apply blk_drewN|apply blk_drew|apply blk_alloc));exact BK110.out)) : gb146 ≠ gb110));have n16_ := Aside0.mk ((by rw [hg];exact Nat.ne_of_lt (blk_lt (g := gb111) (o := .cells #[.int .i32 a3_0, .int .i32 a3_1, .int .i32 a3_2, .int .i32 a3_3] 44 (0, 0)) (by (with_reducible repeat (first|apply blk_drewN|apply blk_drew|apply blk_alloc));exact BK111.out)) : gb111 ≠ gb146));have n17_ := Aside0.mk ((by rw [hg];exact Nat.ne_of_gt (blk_lt (g := gb111) (o := .cells #[.int .i32 a3_0, .int .i32 a3_1, .int .i32 a3_2, .int .i32 a3_3] 44 (0, 0)) (by (with_reducible repeat (first|apply blk_drewN|apply blk_drew|apply blk_alloc));exact BK111.out)) : gb146 ≠ gb111));have n18_ := Aside0.mk ((by rw [hg];exact Nat.ne_of_lt (blk_lt (g := gb122) (o := .cells #[.int .i64 a1_0, .slice (some ⟨go53, 0, none⟩) y119.length co69] 43 (0, 0)) (by (with_reducible repeat (first|apply blk_drewN|apply blk_drew|apply blk_alloc));exact BK122.out)) : gb122 ≠ gb146));have n19_ := Aside0.mk ((by rw [hg];exact Nat.ne_of_gt (blk_lt (g := gb122) (o := .cells #[.int .i64 a1_0, .slice (some ⟨go53, 0, none⟩) y119.length co69] 43 (0, 0)) (by (with_reducible repeat (first|apply blk_drewN|apply blk_drew|apply blk_alloc));exact BK122.out)) : gb146 ≠ gb122));have n20_ := Aside0.mk ((by rw [hg];exact Nat.ne_of_lt (blk_lt (g := gb135) (o := .cells #[.int .i32 t128, .int .i32 t129, .int .i32 t130, .int .i32 t131] 44 (0, 0)) (by (with_reducible repeat (first|apply blk_drewN|apply blk_drew|apply blk_alloc));exact BK135.out)) : gb135 ≠ gb146));have n21_ := Aside0.mk ((by rw [hg];exact Nat.ne_of_gt (blk_lt (g := gb135) (o := .cells #[.int .i32 t128, .int .i32 t129, .int .i32 t130, .int .i32 t131] 44 (0, 0)) (by (with_reducible repeat (first|apply blk_drewN|apply blk_drew|apply blk_alloc));exact BK135.out)) : gb146 ≠ gb135));have n22_ := Aside0.mk ((by rw [hg];exact Nat.ne_of_lt (blk_lt (g := gb136) (o := .cells #[.int .i64 t132, .int .i64 t133, .int .i32 t134] 47 (0, 0)) (by (with_reducible repeat (first|apply blk_drewN|apply blk_drew|apply blk_alloc));exact BK136.out)) : gb136 ≠ gb146));have n23_ := Aside0.mk ((by rw [hg];exact Nat.ne_of_gt (blk_lt (g := gb136) (o := .cells #[.int .i64 t132, .int .i64 t133, .int .i32 t134] 47 (0, 0)) (by (with_reducible repeat (first|apply blk_drewN|apply blk_drew|apply blk_alloc));exact BK136.out)) : gb146 ≠ gb136));have n24_ := Aside0.mk ((by rw [hg];exact Nat.ne_of_lt (blk_lt (g := gb145) (o := .cells #[.int .i32 0, .int .i32 0, .int .i32 0, .int .i32 0] 44 (0, 0)) (by (with_reducible repeat (first|apply blk_drewN|apply blk_drew|apply blk_alloc));exact BK145.out)) : gb145 ≠ gb146));have n25_ := Aside0.mk ((by rw [hg];exact Nat.ne_of_gt (blk_lt (g := gb145) (o := .cells #[.int .i32 0, .int .i32 0, .int .i32 0, .int .i32 0] 44 (0, 0)) (by (with_reducible repeat (first|apply blk_drewN|apply blk_drew|apply blk_alloc));exact BK145.out)) : gb146 ≠ gb145));clear HO121;clear BK109;clear BK110;clear BK111;clear BK122;clear BK135;clear BK136;clear BK145;clear HB;have HO121 := n0_;have BK109 := n1_;have BK110 := n2_;have BK111 := n3_;have BK122 := n4_;have BK135 := n5_;have BK136 := n6_;have BK145 := n7_;have HB := n8_;have BK146 := n9_;have GW146 := n10_;have GE146 := n11_;have NB109_146 := n12_;have NB146_109 := n13_;have NB110_146 := n14_;have NB146_110 := n15_;have NB111_146 := n16_;have NB146_111 := n17_;have NB122_146 := n18_;have NB146_122 := n19_;have NB135_146 := n20_;have NB146_135 := n21_;have NB136_146 := n22_;have NB146_136 := n23_;have NB145_146 := n24_;have NB146_145 := n25_;clear n0_ n1_ n2_ n3_ n4_ n5_ n6_ n7_ n8_ n9_ n10_ n11_ n12_ n13_ n14_ n15_ n16_ n17_ n18_ n19_ n20_ n21_ n22_ n23_ n24_ n25_;clear hb hbox hg;have hnb103 := NB145_109.out;have hnc103 := NB109_145.out;have hnb104 := NB145_110.out;have hnc104 := NB110_145.out;have hnb105 := NB145_111.out;have hnc105 := NB111_145.out;have hnb106 := NB145_122.out;have hnc106 := NB122_145.out;have hnb107 := NB145_135.out;have hnc107 := NB135_145.out;have hnb108 := NB145_136.out;have hnc108 := NB136_145.out;have hnb109 := NB145_146.out;have hnc109 := NB146_145.out;have hcz110_0 : w102.cell? ⟨gb145, 0, none⟩ = some (.int .i32 0) := (blk_cell BK145.out 0).trans rfl;have hcz110_1 : w102.cell? ⟨gb145, 1, none⟩ = some (.int .i32 0) := (blk_cell BK145.out 1).trans rfl;have hcz110_2 : w102.cell? ⟨gb145, 2, none⟩ = some (.int .i32 0) := (blk_cell BK145.out 2).trans rfl;have hcz110_3 : w102.cell? ⟨gb145, 3, none⟩ = some (.int .i32 0) := (blk_cell BK145.out 3).trans rfl;have hfz110_0 := blk_frozen BK145.out 0;have hfz110_1 := blk_frozen BK145.out 1;have hfz110_2 := blk_frozen BK145.out 2;have hfz110_3 := blk_frozen BK145.out 3;have hnb111 := NB146_109.out;have hnc111 := NB109_146.out;have hnb112 := NB146_110.out;have hnc112 := NB110_146.out;have hnb113 := NB146_111.out;have hnc113 := NB111_146.out;have hnb114 := NB146_122.out;have hnc114 := NB122_146.out;have hnb115 := NB146_135.out;have hnc115 := NB135_146.out;have hnb116 := NB146_136.out;have hnc116 := NB136_146.out;have hcz117_0 : w102.cell? ⟨gb146, 0, none⟩ = some (.int .i64 0) := (blk_cell BK146.out 0).trans rfl;have hcz117_1 : w102.cell? ⟨gb146, 1, none⟩ = some (.int .i64 0) := (blk_cell BK146.out 1).trans rfl;have hcz117_2 : w102.cell? ⟨gb146, 2, none⟩ = some (.int .i32 0) := (blk_cell BK146.out 2).trans rfl;have hfz117_0 := blk_frozen BK146.out 0;have hfz117_1 := blk_frozen BK146.out 1;have hfz117_2 := blk_frozen BK146.out 2))
          (try simp only [Act.put, List.setIfInBounds_toArray, List.set_cons_zero, List.set_cons_succ])
          go_cut [8] (fun v8 wc => ∃ (kq : Nat) (x8_57 : Bool), v8 = .bool x8_57 ∧ Aside0 (pinfoldlaw10_hangs.j1 kq x8_57 = some r) ∧ Aside0 (kq ≤ kj5) ∧ Aside0 (Kd.R k109 109 wc w.heap.size (fun _ => True) (.slice (some ⟨go53, 0, none⟩) y119.length co69) y124) ∧ Aside0 (wc.heap[gb109]? = some (.cells #[.int .i64 a0_0, (.slice (some ad123) l0_1.length c0_1)] 43 (0, 0))) ∧ Aside0 (wc.heap[gb110]? = some (.cells #[.int .i64 a1_0, (.slice A1_1 l1_1.length c1_1)] 43 (0, 0))) ∧ Aside0 (wc.heap[gb111]? = some (.cells #[.int .i32 a3_0, .int .i32 a3_1, .int .i32 a3_2, .int .i32 a3_3] 44 (0, 0))) ∧ Aside0 (wc.heap[gb122]? = some (.cells #[.int .i64 a1_0, (.slice (some ⟨go53, 0, none⟩) y119.length co69)] 43 (0, 0))) ∧ Aside0 (wc.heap[gb135]? = some (.cells #[.int .i32 t128, .int .i32 t129, .int .i32 t130, .int .i32 t131] 44 (0, 0))) ∧ Aside0 (wc.heap[gb136]? = some (.cells #[.int .i64 t132, .int .i64 t133, .int .i32 t134] 47 (0, 0))) ∧ Aside0 (wc.heap[gb145]? = some (.cells #[.int .i32 t138, .int .i32 t139, .int .i32 t140, .int .i32 t141] 44 (0, 0))) ∧ Aside0 (wc.heap[gb146]? = some (.cells #[.int .i64 t142, .int .i64 t143, .int .i32 t144] 47 (0, 0))) ∧ Aside0 (Below w.heap.size w wc))
          case first =>
           have H := HC58.out
           clear HC58
           by_cases c118 : t127 = t137
           ·rw [if_pos c118] at H
            have c118b0 : (t127 == t137) = true := beq_iff_eq.mpr c118
            have c118b1 : (t127 != t137) = false := bne_eq_false_iff_eq.mpr c118
            clear c118
            (first|rw [c118b0]|(simp only [i64_w, i32_w];rw [c118b0])|skip)
            by_cases c119 : (t128 == t138 && (t129 == t139 && (t130 == t140 && (t131 == t141)))) = true
            ·rw [if_pos c119] at H
             have c119b0 : (t128 == t138 && (t129 == t139 && (t130 == t140 && (t131 == t141)))) = true := c119
             (try (have c119b1 : decide (t128 = t138 && (t129 == t139 && (t130 == t140 && (t131 == t141)))) = true := by simpa using c119))
             (try (have c119b2 : (t128 == t138 && (t129 == t139 && (t130 == t140 && (t131 == t141)))) = true := by simpa using c119))
             clear c119
             have H' := Aside0.mk H
             clear H
             have hnb120 := NB135_109.out
             have hnc120 := NB109_135.out
             have hnb121 := NB135_110.out
             have hnc121 := NB110_135.out
             have hnb122 := NB135_111.out
             have hnc122 := NB111_135.out
             have hnb123 := NB135_122.out
             have hnc123 := NB122_135.out
             have hnb124 := NB135_136.out
             have hnc124 := NB136_135.out
             have hnb125 := NB135_145.out
             have hnc125 := NB145_135.out
             have hnb126 := NB135_146.out
             have hnc126 := NB146_135.out
             have hcz127_0 : w102.cell? ⟨gb135, 0, none⟩ = some (.int .i32 t128) := (blk_cell BK135.out 0).trans rfl
             have hcz127_1 : w102.cell? ⟨gb135, 1, none⟩ = some (.int .i32 t129) := (blk_cell BK135.out 1).trans rfl
             have hcz127_2 : w102.cell? ⟨gb135, 2, none⟩ = some (.int .i32 t130) := (blk_cell BK135.out 2).trans rfl
             have hcz127_3 : w102.cell? ⟨gb135, 3, none⟩ = some (.int .i32 t131) := (blk_cell BK135.out 3).trans rfl
             have hfz127_0 := blk_frozen BK135.out 0
             have hfz127_1 := blk_frozen BK135.out 1
             have hfz127_2 := blk_frozen BK135.out 2
             have hfz127_3 := blk_frozen BK135.out 3
             have hnb128 := NB145_109.out
             have hnc128 := NB109_145.out
             have hnb129 := NB145_110.out
             have hnc129 := NB110_145.out
             have hnb130 := NB145_111.out
             have hnc130 := NB111_145.out
             have hnb131 := NB145_122.out
             have hnc131 := NB122_145.out
             have hnb132 := NB145_136.out
             have hnc132 := NB136_145.out
             have hnb133 := NB145_146.out
             have hnc133 := NB146_145.out
             have hcz134_0 : w102.cell? ⟨gb145, 0, none⟩ = some (.int .i32 0) := (blk_cell BK145.out 0).trans rfl
             have hcz134_1 : w102.cell? ⟨gb145, 1, none⟩ = some (.int .i32 0) := (blk_cell BK145.out 1).trans rfl
             have hcz134_2 : w102.cell? ⟨gb145, 2, none⟩ = some (.int .i32 0) := (blk_cell BK145.out 2).trans rfl
             have hcz134_3 : w102.cell? ⟨gb145, 3, none⟩ = some (.int .i32 0) := (blk_cell BK145.out 3).trans rfl
             have hfz134_0 := blk_frozen BK145.out 0
             have hfz134_1 := blk_frozen BK145.out 1
             have hfz134_2 := blk_frozen BK145.out 2
             have hfz134_3 := blk_frozen BK145.out 3
             have hnb135 := NB136_109.out
             have hnc135 := NB109_136.out
             have hnb136 := NB136_110.out
             have hnc136 := NB110_136.out
             have hnb137 := NB136_111.out
             have hnc137 := NB111_136.out
             have hnb138 := NB136_122.out
             have hnc138 := NB122_136.out
             have hnb139 := NB136_146.out
             have hnc139 := NB146_136.out
             have hcz140_0 : w102.cell? ⟨gb136, 0, none⟩ = some (.int .i64 t132) := (blk_cell BK136.out 0).trans rfl
             have hcz140_1 : w102.cell? ⟨gb136, 1, none⟩ = some (.int .i64 t133) := (blk_cell BK136.out 1).trans rfl
             have hcz140_2 : w102.cell? ⟨gb136, 2, none⟩ = some (.int .i32 t134) := (blk_cell BK136.out 2).trans rfl
             have hfz140_0 := blk_frozen BK136.out 0
             have hfz140_1 := blk_frozen BK136.out 1
             have hfz140_2 := blk_frozen BK136.out 2
             have hnb141 := NB146_109.out
             have hnc141 := NB109_146.out
             have hnb142 := NB146_110.out
             have hnc142 := NB110_146.out
             have hnb143 := NB146_111.out
             have hnc143 := NB111_146.out
             have hnb144 := NB146_122.out
             have hnc144 := NB122_146.out
             have hcz145_0 : w102.cell? ⟨gb146, 0, none⟩ = some (.int .i64 0) := (blk_cell BK146.out 0).trans rfl
             have hcz145_1 : w102.cell? ⟨gb146, 1, none⟩ = some (.int .i64 0) := (blk_cell BK146.out 1).trans rfl
             have hcz145_2 : w102.cell? ⟨gb146, 2, none⟩ = some (.int .i32 0) := (blk_cell BK146.out 2).trans rfl
             have hfz145_0 := blk_frozen BK146.out 0
             have hfz145_1 := blk_frozen BK146.out 1
             have hfz145_2 := blk_frozen BK146.out 2
             go_wp2
             go_meet
             case rel => exact ⟨_, ((t132 == t142 && (t133 == t143 && (t134 == t144)))), (by first|rfl|(simp;done)|(simp [*];done)), H', ⟨by have := HJ5.out;first|omega|exact Nat.le_refl _⟩, ⟨by (with_reducible repeat (first|apply Kd.R_alloc|apply Kd.R_drewN|apply Kd.R_drew));exact Kd.R_mono (Kd.R_far (p := ⟨gb146, 2, none⟩) (Kd.R_far (p := ⟨gb146, 1, none⟩) (Kd.R_far (p := ⟨gb146, 0, none⟩) (Kd.R_far (p := ⟨gb145, 3, none⟩) (Kd.R_far (p := ⟨gb145, 2, none⟩) (Kd.R_far (p := ⟨gb145, 1, none⟩) (Kd.R_far (p := ⟨gb145, 0, none⟩) (Kd.R_types (Kd.R_types HO121.out BK145.out (by decide)) BK146.out (by decide)) (fun _ hk => hk.1.2) (.int .i32 t138)) (fun _ hk => hk.1.2) (.int .i32 t139)) (fun _ hk => hk.1.2) (.int .i32 t140)) (fun _ hk => hk.1.2) (.int .i32 t141)) (fun _ hk => hk.2) (.int .i64 t142)) (fun _ hk => hk.2) (.int .i64 t143)) (fun _ hk => hk.2) (.int .i32 t144)) (fun _ hk => trivial)⟩, ⟨by (with_reducible repeat (first|apply blk_drewN|apply blk_drew|apply blk_alloc));refine blk_far ?_ NB109_146.out _;(with_reducible repeat (first|apply blk_drewN|apply blk_drew|apply blk_alloc));refine blk_far ?_ NB109_146.out _;(with_reducible repeat (first|apply blk_drewN|apply blk_drew|apply blk_alloc));refine blk_far ?_ NB109_146.out _;(with_reducible repeat (first|apply blk_drewN|apply blk_drew|apply blk_alloc));refine blk_far ?_ NB109_145.out _;(with_reducible repeat (first|apply blk_drewN|apply blk_drew|apply blk_alloc));refine blk_far ?_ NB109_145.out _;(with_reducible repeat (first|apply blk_drewN|apply blk_drew|apply blk_alloc));refine blk_far ?_ NB109_145.out _;(with_reducible repeat (first|apply blk_drewN|apply blk_drew|apply blk_alloc));refine blk_far ?_ NB109_145.out _;(with_reducible repeat (first|apply blk_drewN|apply blk_drew|apply blk_alloc));exact BK109.out⟩, ⟨by (with_reducible repeat (first|apply blk_drewN|apply blk_drew|apply blk_alloc));refine blk_far ?_ NB110_146.out _;(with_reducible repeat (first|apply blk_drewN|apply blk_drew|apply blk_alloc));refine blk_far ?_ NB110_146.out _;(with_reducible repeat (first|apply blk_drewN|apply blk_drew|apply blk_alloc));refine blk_far ?_ NB110_146.out _;(with_reducible repeat (first|apply blk_drewN|apply blk_drew|apply blk_alloc));refine blk_far ?_ NB110_145.out _;(with_reducible repeat (first|apply blk_drewN|apply blk_drew|apply blk_alloc));refine blk_far ?_ NB110_145.out _;(with_reducible repeat (first|apply blk_drewN|apply blk_drew|apply blk_alloc));refine blk_far ?_ NB110_145.out _;(with_reducible repeat (first|apply blk_drewN|apply blk_drew|apply blk_alloc));refine blk_far ?_ NB110_145.out _;(with_reducible repeat (first|apply blk_drewN|apply blk_drew|apply blk_alloc));exact BK110.out⟩, ⟨by (with_reducible repeat (first|apply blk_drewN|apply blk_drew|apply blk_alloc));refine blk_far ?_ NB111_146.out _;(with_reducible repeat (first|apply blk_drewN|apply blk_drew|apply blk_alloc));refine blk_far ?_ NB111_146.out _;(with_reducible repeat (first|apply blk_drewN|apply blk_drew|apply blk_alloc));refine blk_far ?_ NB111_146.out _;(with_reducible repeat (first|apply blk_drewN|apply blk_drew|apply blk_alloc));refine blk_far ?_ NB111_145.out _;(with_reducible repeat (first|apply blk_drewN|apply blk_drew|apply blk_alloc));refine blk_far ?_ NB111_145.out _;(with_reducible repeat (first|apply blk_drewN|apply blk_drew|apply blk_alloc));refine blk_far ?_ NB111_145.out _;(with_reducible repeat (first|apply blk_drewN|apply blk_drew|apply blk_alloc));refine blk_far ?_ NB111_145.out _;(with_reducible repeat (first|apply blk_drewN|apply blk_drew|apply blk_alloc));exact BK111.out⟩, ⟨by (with_reducible repeat (first|apply blk_drewN|apply blk_drew|apply blk_alloc));refine blk_far ?_ NB122_146.out _;(with_reducible repeat (first|apply blk_drewN|apply blk_drew|apply blk_alloc));refine blk_far ?_ NB122_146.out _;(with_reducible repeat (first|apply blk_drewN|apply blk_drew|apply blk_alloc));refine blk_far ?_ NB122_146.out _;(with_reducible repeat (first|apply blk_drewN|apply blk_drew|apply blk_alloc));refine blk_far ?_ NB122_145.out _;(with_reducible repeat (first|apply blk_drewN|apply blk_drew|apply blk_alloc));refine blk_far ?_ NB122_145.out _;(with_reducible repeat (first|apply blk_drewN|apply blk_drew|apply blk_alloc));refine blk_far ?_ NB122_145.out _;(with_reducible repeat (first|apply blk_drewN|apply blk_drew|apply blk_alloc));refine blk_far ?_ NB122_145.out _;(with_reducible repeat (first|apply blk_drewN|apply blk_drew|apply blk_alloc));exact BK122.out⟩, ⟨by (with_reducible repeat (first|apply blk_drewN|apply blk_drew|apply blk_alloc));refine blk_far ?_ NB135_146.out _;(with_reducible repeat (first|apply blk_drewN|apply blk_drew|apply blk_alloc));refine blk_far ?_ NB135_146.out _;(with_reducible repeat (first|apply blk_drewN|apply blk_drew|apply blk_alloc));refine blk_far ?_ NB135_146.out _;(with_reducible repeat (first|apply blk_drewN|apply blk_drew|apply blk_alloc));refine blk_far ?_ NB135_145.out _;(with_reducible repeat (first|apply blk_drewN|apply blk_drew|apply blk_alloc));refine blk_far ?_ NB135_145.out _;(with_reducible repeat (first|apply blk_drewN|apply blk_drew|apply blk_alloc));refine blk_far ?_ NB135_145.out _;(with_reducible repeat (first|apply blk_drewN|apply blk_drew|apply blk_alloc));refine blk_far ?_ NB135_145.out _;(with_reducible repeat (first|apply blk_drewN|apply blk_drew|apply blk_alloc));exact BK135.out⟩, ⟨by (with_reducible repeat (first|apply blk_drewN|apply blk_drew|apply blk_alloc));refine blk_far ?_ NB136_146.out _;(with_reducible repeat (first|apply blk_drewN|apply blk_drew|apply blk_alloc));refine blk_far ?_ NB136_146.out _;(with_reducible repeat (first|apply blk_drewN|apply blk_drew|apply blk_alloc));refine blk_far ?_ NB136_146.out _;(with_reducible repeat (first|apply blk_drewN|apply blk_drew|apply blk_alloc));refine blk_far ?_ NB136_145.out _;(with_reducible repeat (first|apply blk_drewN|apply blk_drew|apply blk_alloc));refine blk_far ?_ NB136_145.out _;(with_reducible repeat (first|apply blk_drewN|apply blk_drew|apply blk_alloc));refine blk_far ?_ NB136_145.out _;(with_reducible repeat (first|apply blk_drewN|apply blk_drew|apply blk_alloc));refine blk_far ?_ NB136_145.out _;(with_reducible repeat (first|apply blk_drewN|apply blk_drew|apply blk_alloc));exact BK136.out⟩, ⟨by (with_reducible repeat (first|apply blk_drewN|apply blk_drew|apply blk_alloc));refine blk_far ?_ NB145_146.out _;(with_reducible repeat (first|apply blk_drewN|apply blk_drew|apply blk_alloc));refine blk_far ?_ NB145_146.out _;(with_reducible repeat (first|apply blk_drewN|apply blk_drew|apply blk_alloc));refine blk_far ?_ NB145_146.out _;(with_reducible repeat (first|apply blk_drewN|apply blk_drew|apply blk_alloc));refine blk_put (cs := #[.int .i32 t138, .int .i32 t139, .int .i32 t140, .int .i32 0]) ?_ 3 _ rfl;(with_reducible repeat (first|apply blk_drewN|apply blk_drew|apply blk_alloc));refine blk_put (cs := #[.int .i32 t138, .int .i32 t139, .int .i32 0, .int .i32 0]) ?_ 2 _ rfl;(with_reducible repeat (first|apply blk_drewN|apply blk_drew|apply blk_alloc));refine blk_put (cs := #[.int .i32 t138, .int .i32 0, .int .i32 0, .int .i32 0]) ?_ 1 _ rfl;(with_reducible repeat (first|apply blk_drewN|apply blk_drew|apply blk_alloc));refine blk_put (cs := #[.int .i32 0, .int .i32 0, .int .i32 0, .int .i32 0]) ?_ 0 _ rfl;(with_reducible repeat (first|apply blk_drewN|apply blk_drew|apply blk_alloc));exact BK145.out⟩, ⟨by (with_reducible repeat (first|apply blk_drewN|apply blk_drew|apply blk_alloc));refine blk_put (cs := #[.int .i64 t142, .int .i64 t143, .int .i32 0]) ?_ 2 _ rfl;(with_reducible repeat (first|apply blk_drewN|apply blk_drew|apply blk_alloc));refine blk_put (cs := #[.int .i64 t142, .int .i64 0, .int .i32 0]) ?_ 1 _ rfl;(with_reducible repeat (first|apply blk_drewN|apply blk_drew|apply blk_alloc));refine blk_put (cs := #[.int .i64 0, .int .i64 0, .int .i32 0]) ?_ 0 _ rfl;(with_reducible repeat (first|apply blk_drewN|apply blk_drew|apply blk_alloc));refine blk_far ?_ NB146_145.out _;(with_reducible repeat (first|apply blk_drewN|apply blk_drew|apply blk_alloc));refine blk_far ?_ NB146_145.out _;(with_reducible repeat (first|apply blk_drewN|apply blk_drew|apply blk_alloc));refine blk_far ?_ NB146_145.out _;(with_reducible repeat (first|apply blk_drewN|apply blk_drew|apply blk_alloc));refine blk_far ?_ NB146_145.out _;(with_reducible repeat (first|apply blk_drewN|apply blk_drew|apply blk_alloc));exact BK146.out⟩, ⟨by repeat (first|(with_reducible first|exact HB.out|apply xa|apply xb|apply xc|refine below_set ?_ GE109.out|refine below_set ?_ GE110.out|refine below_set ?_ GE111.out|refine below_set ?_ GE122.out|refine below_set ?_ GE135.out|refine below_set ?_ GE136.out|refine below_set ?_ GE145.out|refine below_set ?_ GE146.out)|exact HB.out)⟩⟩
            ·rw [if_neg c119] at H
             have c119b0 : (t128 == t138 && (t129 == t139 && (t130 == t140 && (t131 == t141)))) = false := by simpa using c119
             (try (have c119b1 : decide (t128 = t138 && (t129 == t139 && (t130 == t140 && (t131 == t141)))) = false := by simpa using c119))
             (try (have c119b2 : (t128 == t138 && (t129 == t139 && (t130 == t140 && (t131 == t141)))) = false := by simpa using c119))
             (try (have c119b3 : ¬ (t128 = t138 && (t129 == t139 && (t130 == t140 && (t131 == t141)))) := by simpa using c119))
             clear c119
             have H' := Aside0.mk H
             clear H
             have hnb146 := NB135_109.out
             have hnc146 := NB109_135.out
             have hnb147 := NB135_110.out
             have hnc147 := NB110_135.out
             have hnb148 := NB135_111.out
             have hnc148 := NB111_135.out
             have hnb149 := NB135_122.out
             have hnc149 := NB122_135.out
             have hnb150 := NB135_136.out
             have hnc150 := NB136_135.out
             have hnb151 := NB135_145.out
             have hnc151 := NB145_135.out
             have hnb152 := NB135_146.out
             have hnc152 := NB146_135.out
             have hcz153_0 : w102.cell? ⟨gb135, 0, none⟩ = some (.int .i32 t128) := (blk_cell BK135.out 0).trans rfl
             have hcz153_1 : w102.cell? ⟨gb135, 1, none⟩ = some (.int .i32 t129) := (blk_cell BK135.out 1).trans rfl
             have hcz153_2 : w102.cell? ⟨gb135, 2, none⟩ = some (.int .i32 t130) := (blk_cell BK135.out 2).trans rfl
             have hcz153_3 : w102.cell? ⟨gb135, 3, none⟩ = some (.int .i32 t131) := (blk_cell BK135.out 3).trans rfl
             have hfz153_0 := blk_frozen BK135.out 0
             have hfz153_1 := blk_frozen BK135.out 1
             have hfz153_2 := blk_frozen BK135.out 2
             have hfz153_3 := blk_frozen BK135.out 3
             have hnb154 := NB145_109.out
             have hnc154 := NB109_145.out
             have hnb155 := NB145_110.out
             have hnc155 := NB110_145.out
             have hnb156 := NB145_111.out
             have hnc156 := NB111_145.out
             have hnb157 := NB145_122.out
             have hnc157 := NB122_145.out
             have hnb158 := NB145_136.out
             have hnc158 := NB136_145.out
             have hnb159 := NB145_146.out
             have hnc159 := NB146_145.out
             have hcz160_0 : w102.cell? ⟨gb145, 0, none⟩ = some (.int .i32 0) := (blk_cell BK145.out 0).trans rfl
             have hcz160_1 : w102.cell? ⟨gb145, 1, none⟩ = some (.int .i32 0) := (blk_cell BK145.out 1).trans rfl
             have hcz160_2 : w102.cell? ⟨gb145, 2, none⟩ = some (.int .i32 0) := (blk_cell BK145.out 2).trans rfl
             have hcz160_3 : w102.cell? ⟨gb145, 3, none⟩ = some (.int .i32 0) := (blk_cell BK145.out 3).trans rfl
             have hfz160_0 := blk_frozen BK145.out 0
             have hfz160_1 := blk_frozen BK145.out 1
             have hfz160_2 := blk_frozen BK145.out 2
             have hfz160_3 := blk_frozen BK145.out 3
             go_wp2
             go_meet
             case rel => exact ⟨_, (false), (by first|rfl|(simp;done)|(simp [*];done)), H', ⟨by have := HJ5.out;first|omega|exact Nat.le_refl _⟩, ⟨by (with_reducible repeat (first|apply Kd.R_alloc|apply Kd.R_drewN|apply Kd.R_drew));exact Kd.R_mono (Kd.R_far (p := ⟨gb146, 2, none⟩) (Kd.R_far (p := ⟨gb146, 1, none⟩) (Kd.R_far (p := ⟨gb146, 0, none⟩) (Kd.R_far (p := ⟨gb145, 3, none⟩) (Kd.R_far (p := ⟨gb145, 2, none⟩) (Kd.R_far (p := ⟨gb145, 1, none⟩) (Kd.R_far (p := ⟨gb145, 0, none⟩) (Kd.R_types (Kd.R_types HO121.out BK145.out (by decide)) BK146.out (by decide)) (fun _ hk => hk.1.2) (.int .i32 t138)) (fun _ hk => hk.1.2) (.int .i32 t139)) (fun _ hk => hk.1.2) (.int .i32 t140)) (fun _ hk => hk.1.2) (.int .i32 t141)) (fun _ hk => hk.2) (.int .i64 t142)) (fun _ hk => hk.2) (.int .i64 t143)) (fun _ hk => hk.2) (.int .i32 t144)) (fun _ hk => trivial)⟩, ⟨by (with_reducible repeat (first|apply blk_drewN|apply blk_drew|apply blk_alloc));refine blk_far ?_ NB109_146.out _;(with_reducible repeat (first|apply blk_drewN|apply blk_drew|apply blk_alloc));refine blk_far ?_ NB109_146.out _;(with_reducible repeat (first|apply blk_drewN|apply blk_drew|apply blk_alloc));refine blk_far ?_ NB109_146.out _;(with_reducible repeat (first|apply blk_drewN|apply blk_drew|apply blk_alloc));refine blk_far ?_ NB109_145.out _;(with_reducible repeat (first|apply blk_drewN|apply blk_drew|apply blk_alloc));refine blk_far ?_ NB109_145.out _;(with_reducible repeat (first|apply blk_drewN|apply blk_drew|apply blk_alloc));refine blk_far ?_ NB109_145.out _;(with_reducible repeat (first|apply blk_drewN|apply blk_drew|apply blk_alloc));refine blk_far ?_ NB109_145.out _;(with_reducible repeat (first|apply blk_drewN|apply blk_drew|apply blk_alloc));exact BK109.out⟩, ⟨by (with_reducible repeat (first|apply blk_drewN|apply blk_drew|apply blk_alloc));refine blk_far ?_ NB110_146.out _;(with_reducible repeat (first|apply blk_drewN|apply blk_drew|apply blk_alloc));refine blk_far ?_ NB110_146.out _;(with_reducible repeat (first|apply blk_drewN|apply blk_drew|apply blk_alloc));refine blk_far ?_ NB110_146.out _;(with_reducible repeat (first|apply blk_drewN|apply blk_drew|apply blk_alloc));refine blk_far ?_ NB110_145.out _;(with_reducible repeat (first|apply blk_drewN|apply blk_drew|apply blk_alloc));refine blk_far ?_ NB110_145.out _;(with_reducible repeat (first|apply blk_drewN|apply blk_drew|apply blk_alloc));refine blk_far ?_ NB110_145.out _;(with_reducible repeat (first|apply blk_drewN|apply blk_drew|apply blk_alloc));refine blk_far ?_ NB110_145.out _;(with_reducible repeat (first|apply blk_drewN|apply blk_drew|apply blk_alloc));exact BK110.out⟩, ⟨by (with_reducible repeat (first|apply blk_drewN|apply blk_drew|apply blk_alloc));refine blk_far ?_ NB111_146.out _;(with_reducible repeat (first|apply blk_drewN|apply blk_drew|apply blk_alloc));refine blk_far ?_ NB111_146.out _;(with_reducible repeat (first|apply blk_drewN|apply blk_drew|apply blk_alloc));refine blk_far ?_ NB111_146.out _;(with_reducible repeat (first|apply blk_drewN|apply blk_drew|apply blk_alloc));refine blk_far ?_ NB111_145.out _;(with_reducible repeat (first|apply blk_drewN|apply blk_drew|apply blk_alloc));refine blk_far ?_ NB111_145.out _;(with_reducible repeat (first|apply blk_drewN|apply blk_drew|apply blk_alloc));refine blk_far ?_ NB111_145.out _;(with_reducible repeat (first|apply blk_drewN|apply blk_drew|apply blk_alloc));refine blk_far ?_ NB111_145.out _;(with_reducible repeat (first|apply blk_drewN|apply blk_drew|apply blk_alloc));exact BK111.out⟩, ⟨by (with_reducible repeat (first|apply blk_drewN|apply blk_drew|apply blk_alloc));refine blk_far ?_ NB122_146.out _;(with_reducible repeat (first|apply blk_drewN|apply blk_drew|apply blk_alloc));refine blk_far ?_ NB122_146.out _;(with_reducible repeat (first|apply blk_drewN|apply blk_drew|apply blk_alloc));refine blk_far ?_ NB122_146.out _;(with_reducible repeat (first|apply blk_drewN|apply blk_drew|apply blk_alloc));refine blk_far ?_ NB122_145.out _;(with_reducible repeat (first|apply blk_drewN|apply blk_drew|apply blk_alloc));refine blk_far ?_ NB122_145.out _;(with_reducible repeat (first|apply blk_drewN|apply blk_drew|apply blk_alloc));refine blk_far ?_ NB122_145.out _;(with_reducible repeat (first|apply blk_drewN|apply blk_drew|apply blk_alloc));refine blk_far ?_ NB122_145.out _;(with_reducible repeat (first|apply blk_drewN|apply blk_drew|apply blk_alloc));exact BK122.out⟩, ⟨by (with_reducible repeat (first|apply blk_drewN|apply blk_drew|apply blk_alloc));refine blk_far ?_ NB135_146.out _;(with_reducible repeat (first|apply blk_drewN|apply blk_drew|apply blk_alloc));refine blk_far ?_ NB135_146.out _;(with_reducible repeat (first|apply blk_drewN|apply blk_drew|apply blk_alloc));refine blk_far ?_ NB135_146.out _;(with_reducible repeat (first|apply blk_drewN|apply blk_drew|apply blk_alloc));refine blk_far ?_ NB135_145.out _;(with_reducible repeat (first|apply blk_drewN|apply blk_drew|apply blk_alloc));refine blk_far ?_ NB135_145.out _;(with_reducible repeat (first|apply blk_drewN|apply blk_drew|apply blk_alloc));refine blk_far ?_ NB135_145.out _;(with_reducible repeat (first|apply blk_drewN|apply blk_drew|apply blk_alloc));refine blk_far ?_ NB135_145.out _;(with_reducible repeat (first|apply blk_drewN|apply blk_drew|apply blk_alloc));exact BK135.out⟩, ⟨by (with_reducible repeat (first|apply blk_drewN|apply blk_drew|apply blk_alloc));refine blk_far ?_ NB136_146.out _;(with_reducible repeat (first|apply blk_drewN|apply blk_drew|apply blk_alloc));refine blk_far ?_ NB136_146.out _;(with_reducible repeat (first|apply blk_drewN|apply blk_drew|apply blk_alloc));refine blk_far ?_ NB136_146.out _;(with_reducible repeat (first|apply blk_drewN|apply blk_drew|apply blk_alloc));refine blk_far ?_ NB136_145.out _;(with_reducible repeat (first|apply blk_drewN|apply blk_drew|apply blk_alloc));refine blk_far ?_ NB136_145.out _;(with_reducible repeat (first|apply blk_drewN|apply blk_drew|apply blk_alloc));refine blk_far ?_ NB136_145.out _;(with_reducible repeat (first|apply blk_drewN|apply blk_drew|apply blk_alloc));refine blk_far ?_ NB136_145.out _;(with_reducible repeat (first|apply blk_drewN|apply blk_drew|apply blk_alloc));exact BK136.out⟩, ⟨by (with_reducible repeat (first|apply blk_drewN|apply blk_drew|apply blk_alloc));refine blk_far ?_ NB145_146.out _;(with_reducible repeat (first|apply blk_drewN|apply blk_drew|apply blk_alloc));refine blk_far ?_ NB145_146.out _;(with_reducible repeat (first|apply blk_drewN|apply blk_drew|apply blk_alloc));refine blk_far ?_ NB145_146.out _;(with_reducible repeat (first|apply blk_drewN|apply blk_drew|apply blk_alloc));refine blk_put (cs := #[.int .i32 t138, .int .i32 t139, .int .i32 t140, .int .i32 0]) ?_ 3 _ rfl;(with_reducible repeat (first|apply blk_drewN|apply blk_drew|apply blk_alloc));refine blk_put (cs := #[.int .i32 t138, .int .i32 t139, .int .i32 0, .int .i32 0]) ?_ 2 _ rfl;(with_reducible repeat (first|apply blk_drewN|apply blk_drew|apply blk_alloc));refine blk_put (cs := #[.int .i32 t138, .int .i32 0, .int .i32 0, .int .i32 0]) ?_ 1 _ rfl;(with_reducible repeat (first|apply blk_drewN|apply blk_drew|apply blk_alloc));refine blk_put (cs := #[.int .i32 0, .int .i32 0, .int .i32 0, .int .i32 0]) ?_ 0 _ rfl;(with_reducible repeat (first|apply blk_drewN|apply blk_drew|apply blk_alloc));exact BK145.out⟩, ⟨by (with_reducible repeat (first|apply blk_drewN|apply blk_drew|apply blk_alloc));refine blk_put (cs := #[.int .i64 t142, .int .i64 t143, .int .i32 0]) ?_ 2 _ rfl;(with_reducible repeat (first|apply blk_drewN|apply blk_drew|apply blk_alloc));refine blk_put (cs := #[.int .i64 t142, .int .i64 0, .int .i32 0]) ?_ 1 _ rfl;(with_reducible repeat (first|apply blk_drewN|apply blk_drew|apply blk_alloc));refine blk_put (cs := #[.int .i64 0, .int .i64 0, .int .i32 0]) ?_ 0 _ rfl;(with_reducible repeat (first|apply blk_drewN|apply blk_drew|apply blk_alloc));refine blk_far ?_ NB146_145.out _;(with_reducible repeat (first|apply blk_drewN|apply blk_drew|apply blk_alloc));refine blk_far ?_ NB146_145.out _;(with_reducible repeat (first|apply blk_drewN|apply blk_drew|apply blk_alloc));refine blk_far ?_ NB146_145.out _;(with_reducible repeat (first|apply blk_drewN|apply blk_drew|apply blk_alloc));refine blk_far ?_ NB146_145.out _;(with_reducible repeat (first|apply blk_drewN|apply blk_drew|apply blk_alloc));exact BK146.out⟩, ⟨by repeat (first|(with_reducible first|exact HB.out|apply xa|apply xb|apply xc|refine below_set ?_ GE109.out|refine below_set ?_ GE110.out|refine below_set ?_ GE111.out|refine below_set ?_ GE122.out|refine below_set ?_ GE135.out|refine below_set ?_ GE136.out|refine below_set ?_ GE145.out|refine below_set ?_ GE146.out)|exact HB.out)⟩⟩
           ·rw [if_neg c118] at H
            have c118b0 : (t127 == t137) = false := beq_eq_false_iff_ne.mpr c118
            have c118b1 : (t127 != t137) = true := bne_iff_ne.mpr c118
            (first|rw [c118b0]|(simp only [i64_w, i32_w];rw [c118b0])|skip)
            have H' := Aside0.mk H
            clear H
            go_wp2
            go_meet
            case rel => exact ⟨_, (false), (by first|rfl|(simp;done)|(simp [*];done)), H', ⟨by have := HJ5.out;first|omega|exact Nat.le_refl _⟩, ⟨by (with_reducible repeat (first|apply Kd.R_alloc|apply Kd.R_drewN|apply Kd.R_drew));exact Kd.R_mono (Kd.R_far (p := ⟨gb146, 2, none⟩) (Kd.R_far (p := ⟨gb146, 1, none⟩) (Kd.R_far (p := ⟨gb146, 0, none⟩) (Kd.R_far (p := ⟨gb145, 3, none⟩) (Kd.R_far (p := ⟨gb145, 2, none⟩) (Kd.R_far (p := ⟨gb145, 1, none⟩) (Kd.R_far (p := ⟨gb145, 0, none⟩) (Kd.R_types (Kd.R_types HO121.out BK145.out (by decide)) BK146.out (by decide)) (fun _ hk => hk.1.2) (.int .i32 t138)) (fun _ hk => hk.1.2) (.int .i32 t139)) (fun _ hk => hk.1.2) (.int .i32 t140)) (fun _ hk => hk.1.2) (.int .i32 t141)) (fun _ hk => hk.2) (.int .i64 t142)) (fun _ hk => hk.2) (.int .i64 t143)) (fun _ hk => hk.2) (.int .i32 t144)) (fun _ hk => trivial)⟩, ⟨by (with_reducible repeat (first|apply blk_drewN|apply blk_drew|apply blk_alloc));refine blk_far ?_ NB109_146.out _;(with_reducible repeat (first|apply blk_drewN|apply blk_drew|apply blk_alloc));refine blk_far ?_ NB109_146.out _;(with_reducible repeat (first|apply blk_drewN|apply blk_drew|apply blk_alloc));refine blk_far ?_ NB109_146.out _;(with_reducible repeat (first|apply blk_drewN|apply blk_drew|apply blk_alloc));refine blk_far ?_ NB109_145.out _;(with_reducible repeat (first|apply blk_drewN|apply blk_drew|apply blk_alloc));refine blk_far ?_ NB109_145.out _;(with_reducible repeat (first|apply blk_drewN|apply blk_drew|apply blk_alloc));refine blk_far ?_ NB109_145.out _;(with_reducible repeat (first|apply blk_drewN|apply blk_drew|apply blk_alloc));refine blk_far ?_ NB109_145.out _;(with_reducible repeat (first|apply blk_drewN|apply blk_drew|apply blk_alloc));exact BK109.out⟩, ⟨by (with_reducible repeat (first|apply blk_drewN|apply blk_drew|apply blk_alloc));refine blk_far ?_ NB110_146.out _;(with_reducible repeat (first|apply blk_drewN|apply blk_drew|apply blk_alloc));refine blk_far ?_ NB110_146.out _;(with_reducible repeat (first|apply blk_drewN|apply blk_drew|apply blk_alloc));refine blk_far ?_ NB110_146.out _;(with_reducible repeat (first|apply blk_drewN|apply blk_drew|apply blk_alloc));refine blk_far ?_ NB110_145.out _;(with_reducible repeat (first|apply blk_drewN|apply blk_drew|apply blk_alloc));refine blk_far ?_ NB110_145.out _;(with_reducible repeat (first|apply blk_drewN|apply blk_drew|apply blk_alloc));refine blk_far ?_ NB110_145.out _;(with_reducible repeat (first|apply blk_drewN|apply blk_drew|apply blk_alloc));refine blk_far ?_ NB110_145.out _;(with_reducible repeat (first|apply blk_drewN|apply blk_drew|apply blk_alloc));exact BK110.out⟩, ⟨by (with_reducible repeat (first|apply blk_drewN|apply blk_drew|apply blk_alloc));refine blk_far ?_ NB111_146.out _;(with_reducible repeat (first|apply blk_drewN|apply blk_drew|apply blk_alloc));refine blk_far ?_ NB111_146.out _;(with_reducible repeat (first|apply blk_drewN|apply blk_drew|apply blk_alloc));refine blk_far ?_ NB111_146.out _;(with_reducible repeat (first|apply blk_drewN|apply blk_drew|apply blk_alloc));refine blk_far ?_ NB111_145.out _;(with_reducible repeat (first|apply blk_drewN|apply blk_drew|apply blk_alloc));refine blk_far ?_ NB111_145.out _;(with_reducible repeat (first|apply blk_drewN|apply blk_drew|apply blk_alloc));refine blk_far ?_ NB111_145.out _;(with_reducible repeat (first|apply blk_drewN|apply blk_drew|apply blk_alloc));refine blk_far ?_ NB111_145.out _;(with_reducible repeat (first|apply blk_drewN|apply blk_drew|apply blk_alloc));exact BK111.out⟩, ⟨by (with_reducible repeat (first|apply blk_drewN|apply blk_drew|apply blk_alloc));refine blk_far ?_ NB122_146.out _;(with_reducible repeat (first|apply blk_drewN|apply blk_drew|apply blk_alloc));refine blk_far ?_ NB122_146.out _;(with_reducible repeat (first|apply blk_drewN|apply blk_drew|apply blk_alloc));refine blk_far ?_ NB122_146.out _;(with_reducible repeat (first|apply blk_drewN|apply blk_drew|apply blk_alloc));refine blk_far ?_ NB122_145.out _;(with_reducible repeat (first|apply blk_drewN|apply blk_drew|apply blk_alloc));refine blk_far ?_ NB122_145.out _;(with_reducible repeat (first|apply blk_drewN|apply blk_drew|apply blk_alloc));refine blk_far ?_ NB122_145.out _;(with_reducible repeat (first|apply blk_drewN|apply blk_drew|apply blk_alloc));refine blk_far ?_ NB122_145.out _;(with_reducible repeat (first|apply blk_drewN|apply blk_drew|apply blk_alloc));exact BK122.out⟩, ⟨by (with_reducible repeat (first|apply blk_drewN|apply blk_drew|apply blk_alloc));refine blk_far ?_ NB135_146.out _;(with_reducible repeat (first|apply blk_drewN|apply blk_drew|apply blk_alloc));refine blk_far ?_ NB135_146.out _;(with_reducible repeat (first|apply blk_drewN|apply blk_drew|apply blk_alloc));refine blk_far ?_ NB135_146.out _;(with_reducible repeat (first|apply blk_drewN|apply blk_drew|apply blk_alloc));refine blk_far ?_ NB135_145.out _;(with_reducible repeat (first|apply blk_drewN|apply blk_drew|apply blk_alloc));refine blk_far ?_ NB135_145.out _;(with_reducible repeat (first|apply blk_drewN|apply blk_drew|apply blk_alloc));refine blk_far ?_ NB135_145.out _;(with_reducible repeat (first|apply blk_drewN|apply blk_drew|apply blk_alloc));refine blk_far ?_ NB135_145.out _;(with_reducible repeat (first|apply blk_drewN|apply blk_drew|apply blk_alloc));exact BK135.out⟩, ⟨by (with_reducible repeat (first|apply blk_drewN|apply blk_drew|apply blk_alloc));refine blk_far ?_ NB136_146.out _;(with_reducible repeat (first|apply blk_drewN|apply blk_drew|apply blk_alloc));refine blk_far ?_ NB136_146.out _;(with_reducible repeat (first|apply blk_drewN|apply blk_drew|apply blk_alloc));refine blk_far ?_ NB136_146.out _;(with_reducible repeat (first|apply blk_drewN|apply blk_drew|apply blk_alloc));refine blk_far ?_ NB136_145.out _;(with_reducible repeat (first|apply blk_drewN|apply blk_drew|apply blk_alloc));refine blk_far ?_ NB136_145.out _;(with_reducible repeat (first|apply blk_drewN|apply blk_drew|apply blk_alloc));refine blk_far ?_ NB136_145.out _;(with_reducible repeat (first|apply blk_drewN|apply blk_drew|apply blk_alloc));refine blk_far ?_ NB136_145.out _;(with_reducible repeat (first|apply blk_drewN|apply blk_drew|apply blk_alloc));exact BK136.out⟩, ⟨by (with_reducible repeat (first|apply blk_drewN|apply blk_drew|apply blk_alloc));refine blk_far ?_ NB145_146.out _;(with_reducible repeat (first|apply blk_drewN|apply blk_drew|apply blk_alloc));refine blk_far ?_ NB145_146.out _;(with_reducible repeat (first|apply blk_drewN|apply blk_drew|apply blk_alloc));refine blk_far ?_ NB145_146.out _;(with_reducible repeat (first|apply blk_drewN|apply blk_drew|apply blk_alloc));refine blk_put (cs := #[.int .i32 t138, .int .i32 t139, .int .i32 t140, .int .i32 0]) ?_ 3 _ rfl;(with_reducible repeat (first|apply blk_drewN|apply blk_drew|apply blk_alloc));refine blk_put (cs := #[.int .i32 t138, .int .i32 t139, .int .i32 0, .int .i32 0]) ?_ 2 _ rfl;(with_reducible repeat (first|apply blk_drewN|apply blk_drew|apply blk_alloc));refine blk_put (cs := #[.int .i32 t138, .int .i32 0, .int .i32 0, .int .i32 0]) ?_ 1 _ rfl;(with_reducible repeat (first|apply blk_drewN|apply blk_drew|apply blk_alloc));refine blk_put (cs := #[.int .i32 0, .int .i32 0, .int .i32 0, .int .i32 0]) ?_ 0 _ rfl;(with_reducible repeat (first|apply blk_drewN|apply blk_drew|apply blk_alloc));exact BK145.out⟩, ⟨by (with_reducible repeat (first|apply blk_drewN|apply blk_drew|apply blk_alloc));refine blk_put (cs := #[.int .i64 t142, .int .i64 t143, .int .i32 0]) ?_ 2 _ rfl;(with_reducible repeat (first|apply blk_drewN|apply blk_drew|apply blk_alloc));refine blk_put (cs := #[.int .i64 t142, .int .i64 0, .int .i32 0]) ?_ 1 _ rfl;(with_reducible repeat (first|apply blk_drewN|apply blk_drew|apply blk_alloc));refine blk_put (cs := #[.int .i64 0, .int .i64 0, .int .i32 0]) ?_ 0 _ rfl;(with_reducible repeat (first|apply blk_drewN|apply blk_drew|apply blk_alloc));refine blk_far ?_ NB146_145.out _;(with_reducible repeat (first|apply blk_drewN|apply blk_drew|apply blk_alloc));refine blk_far ?_ NB146_145.out _;(with_reducible repeat (first|apply blk_drewN|apply blk_drew|apply blk_alloc));refine blk_far ?_ NB146_145.out _;(with_reducible repeat (first|apply blk_drewN|apply blk_drew|apply blk_alloc));refine blk_far ?_ NB146_145.out _;(with_reducible repeat (first|apply blk_drewN|apply blk_drew|apply blk_alloc));exact BK146.out⟩, ⟨by repeat (first|(with_reducible first|exact HB.out|apply xa|apply xb|apply xc|refine below_set ?_ GE109.out|refine below_set ?_ GE110.out|refine below_set ?_ GE111.out|refine below_set ?_ GE122.out|refine below_set ?_ GE135.out|refine below_set ?_ GE136.out|refine below_set ?_ GE145.out|refine below_set ?_ GE146.out)|exact HB.out)⟩⟩
          case rest =>
           clear HC58
           try clear c1
           try clear p1
           try clear q1
           try clear hx1
           try clear c2
           try clear p2
           try clear c4
           try clear c5
           try clear p5
           try clear q5
           try clear hx5
           try clear hf5
           try clear c6
           try clear c7
           try clear c8
           try clear c9
           try clear c10
           try clear c11
           try clear c12
           try clear p12
           try clear q12
           try clear hx12
           try clear c13
           try clear c14
           try clear c15
           try clear c29
           try clear c48
           try clear c53
           try clear p53
           try clear q53
           try clear hx53
           try clear hf53
           try clear c62
           try clear c74
           try clear c76
           try clear c77
           try clear c78
           try clear c82
           try clear c87
           try clear c88
           try clear c89
           try clear c90
           try clear c91
           try clear c93
           try clear c94
           try clear c95
           try clear c96
           try clear c103
           try clear c104
           try clear c105
           try clear c106
           try clear c107
           try clear c108
           try clear c109
           try clear c111
           try clear c112
           try clear c113
           try clear c114
           try clear c115
           try clear c116
           try clear c118
           try clear c118b0
           try clear c118b1
           try clear c119
           try clear c119b0
           try clear c119b1
           try clear c119b2
           try clear c120
           try clear c121
           try clear c122
           try clear c123
           try clear p123
           try clear q123
           try clear hx123
           try clear c124
           try clear c125
           try clear c126
           try clear c128
           try clear c129
           try clear c130
           try clear c131
           try clear c132
           try clear c133
           try clear c135
           try clear c136
           try clear c137
           try clear c138
           try clear c139
           try clear c141
           try clear c142
           try clear c143
           try clear c144
           try clear c146
           try clear c147
           try clear c148
           try clear c149
           try clear c150
           try clear c151
           try clear c152
           try clear c154
           try clear c155
           try clear c156
           try clear c157
           try clear c158
           try clear c159
           try clear hcz110_0
           try clear hcz110_1
           try clear hcz110_2
           try clear hcz110_3
           try clear hcz117_0
           try clear hcz117_1
           try clear hcz117_2
           try clear hcz127_0
           try clear hcz127_1
           try clear hcz127_2
           try clear hcz127_3
           try clear hcz134_0
           try clear hcz134_1
           try clear hcz134_2
           try clear hcz134_3
           try clear hcz140_0
           try clear hcz140_1
           try clear hcz140_2
           try clear hcz145_0
           try clear hcz145_1
           try clear hcz145_2
           try clear hcz153_0
           try clear hcz153_1
           try clear hcz153_2
           try clear hcz153_3
           try clear hcz160_0
           try clear hcz160_1
           try clear hcz160_2
           try clear hcz160_3
           try clear hcz79_0
           try clear hcz79_1
           try clear hcz81_0
           try clear hcz81_1
           try clear hcz83_0
           try clear hcz83_1
           try clear hcz83_2
           try clear hcz83_3
           try clear hcz92_0
           try clear hcz92_1
           try clear hcz92_2
           try clear hcz92_3
           try clear hcz97_0
           try clear hcz97_1
           try clear hcz97_2
           try clear hcz98_0
           try clear hcz98_1
           try clear hcz99_0
           try clear hcz99_1
           try clear hcz99_2
           try clear hcz99_3
           try clear hfz110_0
           try clear hfz110_1
           try clear hfz110_2
           try clear hfz110_3
           try clear hfz117_0
           try clear hfz117_1
           try clear hfz117_2
           try clear hfz127_0
           try clear hfz127_1
           try clear hfz127_2
           try clear hfz127_3
           try clear hfz134_0
           try clear hfz134_1
           try clear hfz134_2
           try clear hfz134_3
           try clear hfz140_0
           try clear hfz140_1
           try clear hfz140_2
           try clear hfz145_0
           try clear hfz145_1
           try clear hfz145_2
           try clear hfz153_0
           try clear hfz153_1
           try clear hfz153_2
           try clear hfz153_3
           try clear hfz160_0
           try clear hfz160_1
           try clear hfz160_2
           try clear hfz160_3
           try clear hfz79_0
           try clear hfz79_1
           try clear hfz81_0
           try clear hfz81_1
           try clear hfz83_0
           try clear hfz83_1
           try clear hfz83_2
           try clear hfz83_3
           try clear hfz92_0
           try clear hfz92_1
           try clear hfz92_2
           try clear hfz92_3
           try clear hfz97_0
           try clear hfz97_1
           try clear hfz97_2
           try clear hfz98_0
           try clear hfz98_1
           try clear hfz99_0
           try clear hfz99_1
           try clear hfz99_2
           try clear hfz99_3
           try clear hx123_0
           try clear hx123_1
           try clear hx123_2
           try clear hx123_3
           try clear hx53_0
           try clear hx53_1
           try clear hx53_2
           try clear hx53_3
           try clear p123
           try clear p53
           try clear q123
           try clear q53
           obtain ⟨kq, x8_57, rfl, HA, HJ57, HO_123001, BK109, BK110, BK111, BK122, BK135, BK136, BK145, BK146, HB⟩ := hcut
           have hl123001_57 := (Kd.R_reads' HO_123001.out).1
           rw [hl123001_57] at HO_123001
           (try simp only [hl123001_57])
           (try simp only [hl123001_57] at BK109)
           (try simp only [hl123001_57] at BK110)
           (try simp only [hl123001_57] at BK111)
           (try simp only [hl123001_57] at BK122)
           (try simp only [hl123001_57] at BK135)
           (try simp only [hl123001_57] at BK136)
           (try simp only [hl123001_57] at BK145)
           (try simp only [hl123001_57] at BK146)
           cases kq with
           | zero => exact absurd HA.out (by simp [pinfoldlaw10_hangs.j1])
           | succ kj57 =>
            have H := HA.out
            clear HA
            simp only [pinfoldlaw10_hangs.j1] at H
            obtain rfl := Option.some.inj H
            go_wp2
            go_ret
            exact ⟨by first|rfl|(simp [errW_none, errW_some] <;> rfl)|(simp only [← hji49];first|rfl|(simp [errW_none, errW_some] <;> rfl))|(simp [*, errW_none, errW_some] <;> rfl), by repeat (first|(with_reducible first|exact HB.out|apply xa|apply xb|apply xc|refine below_set ?_ GE109.out|refine below_set ?_ GE110.out|refine below_set ?_ GE111.out|refine below_set ?_ GE122.out|refine below_set ?_ GE135.out|refine below_set ?_ GE136.out|refine below_set ?_ GE145.out|refine below_set ?_ GE146.out)|exact HB.out)⟩
         ·rw [if_neg c55] at H
          have c55b0 : (t125 == 0) = false := beq_eq_false_iff_ne.mpr c55
          have c55b1 : (t125 != 0) = true := bne_iff_ne.mpr c55
          obtain rfl := Option.some.inj H
          have hnb161 := NB109_110.out
          have hnc161 := NB110_109.out
          have hnb162 := NB109_111.out
          have hnc162 := NB111_109.out
          have hcz163_0 : wc.cell? ⟨gb109, 0, none⟩ = some (.int .i64 a0_0) := (blk_cell BK109.out 0).trans rfl
          have hcz163_1 : wc.cell? ⟨gb109, 1, none⟩ = some (.slice A0_1 l0_1.length c0_1) := (blk_cell BK109.out 1).trans rfl
          have hfz163_0 := blk_frozen BK109.out 0
          have hfz163_1 := blk_frozen BK109.out 1
          try go_wp2
          have n0_ := Aside0.mk (blk_drew BK109.out)
          have n1_ := Aside0.mk (blk_drew BK110.out)
          have n2_ := Aside0.mk (blk_drew BK111.out)
          have n3_ := Aside0.mk (below_drew1 HB.out)
          clear BK109
          clear BK110
          clear BK111
          clear HB
          have BK109 := n0_
          have BK110 := n1_
          have BK111 := n2_
          have HB := n3_
          clear n0_ n1_ n2_ n3_
          refine start_ (n := 9) (S := fun w' => w'.cell? ⟨gb110, 0, none⟩ = some (.int .i64 a1_0) ∧ w'.cell? ⟨gb110, 1, none⟩ = some (.slice A1_1 l1_1.length c1_1)) (ds := []) #[false, false, false, false, false, false, false, false, false] (by kernel_rfl) rfl rfl ⟨(blk_cell BK110.out 0).trans rfl, (blk_cell BK110.out 1).trans rfl⟩ (fun hHeld => ?_);refine with_tabW pinfoldlaw10_hangs.tab5 pinfoldlaw10_hangs.bits5 (fun HT_ HW_ => ?_)
          generalize wc.drew = w164 at BK109 BK110 BK111 HB hHeld ⊢
          refine pure_ (i := 0) (N := some 54) (v := ?_) (a' := ?_) #[true, false, false, false, false, false, false, false, false] rfl rfl (any_of HT_.out (by kernel_rfl)) (fun _ _ _ h => h) (Or.inl ⟨by rfl, ?_⟩) ?_ ?_
          rotate_left
          ·intro w'
           go_simp
           with_reducible rfl
          rotate_left
          ·simp only [Act.put, List.setIfInBounds_toArray, List.set_cons_zero, List.set_cons_succ, i64_w, i32_w]
           rfl
          refine pure_ (i := 3) (N := some 57) (v := ?_) (a' := ?_) #[true, false, false, true, false, false, false, false, false] rfl rfl (any_of HT_.out (by kernel_rfl)) (fun _ _ _ h => h) (Or.inl ⟨by rfl, ?_⟩) ?_ ?_
          rotate_left
          ·intro w'
           go_simp
           with_reducible rfl
          rotate_left
          ·simp only [Act.put, List.setIfInBounds_toArray, List.set_cons_zero, List.set_cons_succ, i64_w, i32_w]
           rfl
          refine take_ (i := 1) (N := some 55) (v := ?_) (a' := ?_) #[true, true, false, true, false, false, false, false, false] rfl rfl (take_ofW HT_.out HW_.out (by kernel_rfl)) (fun _ _ _ h => h) (Or.inl ⟨by rfl, ?_⟩) hHeld ?_ ?_
          rotate_left
          ·rintro w' ⟨s0, s1⟩
           go_simp
           with_reducible rfl
          rotate_left
          ·simp only [Act.put, List.setIfInBounds_toArray, List.set_cons_zero, List.set_cons_succ, i64_w, i32_w]
           rfl
          refine take_ (i := 4) (N := some 58) (v := ?_) (a' := ?_) #[true, true, false, true, true, false, false, false, false] rfl rfl (take_ofW HT_.out HW_.out (by kernel_rfl)) (fun _ _ _ h => h) (Or.inl ⟨by rfl, ?_⟩) hHeld ?_ ?_
          rotate_left
          ·rintro w' ⟨s0, s1⟩
           go_simp
           with_reducible rfl
          rotate_left
          ·simp only [Act.put, List.setIfInBounds_toArray, List.set_cons_zero, List.set_cons_succ, i64_w, i32_w]
           rfl
          refine join_ (σ := Value × Value × Nat) 1 #[true, true, true, true, true, true, true, true, false] (fun s_ => [(56, s_.1), (59, s_.2.1), (12, .pointer (some ⟨s_.2.2, 0, none⟩)), (60, .agg #[.int .i64 a1_0, s_.2.1])]) (fun s_ w' => (w'.cell? ⟨gb110, 0, none⟩ = some (.int .i64 a1_0) ∧ w'.cell? ⟨gb110, 1, none⟩ = some (.slice A1_1 l1_1.length c1_1)) ∧ (Kd.R k109 109 w' w.heap.size (fun _ => True) s_.2.1 y119) ∧ (w'.heap[gb109]? = some (.cells #[.int .i64 a0_0, .slice A0_1 l0_1.length c0_1] 43 (0, 0))) ∧ (w'.heap[gb110]? = some (.cells #[.int .i64 a1_0, .slice A1_1 l1_1.length c1_1] 43 (0, 0))) ∧ (w'.heap[gb111]? = some (.cells #[.int .i32 a3_0, .int .i32 a3_1, .int .i32 a3_2, .int .i32 a3_3] 44 (0, 0))) ∧ (w'.heap[s_.2.2]? = some (.cells #[.int .i64 0, .slice none 0 0] 43 (0, 0))) ∧ (w.heap.size ≤ s_.2.2) ∧ (w.heap.size ≤ s_.2.2) ∧ (gb109 ≠ s_.2.2) ∧ (s_.2.2 ≠ gb109) ∧ (gb110 ≠ s_.2.2) ∧ (s_.2.2 ≠ gb110) ∧ (gb111 ≠ s_.2.2) ∧ (s_.2.2 ≠ gb111) ∧ (Below w.heap.size w w')) ?_ ?_
          rotate_left
          ·intro hCont
           refine two_ (i := 2) (j := 7) (Ni := some 56) (Nj := some 12) #[true, true, true, true, true, false, false, false, false] #[true, true, false, true, true, false, false, true, false] rfl rfl rfl rfl (two_of HT_.out (by kernel_rfl)) (by decide) (by decide) (fun K hK => ?_) (fun K hK => ?_)
           ·skip
            refine Kd.R_lit_step k109 _ 109 ?hg (N := 56) ?hd (xs := ([] : List (S109))) (inner := []) (ok := fun _ => True) (okp := fun _ => True) ?hr ?hp (fun _ hk => hk) trivial (Below.refl _ _) (Nat.le_refl _) (by simp) ?_;(case hd => rfl);(case hg => rfl);(case hr => first|(go_simp;done)|(go_simp;rfl));(case hp => exact (Reps.none _ _))
            intro v117 w165 ho166 hb hg_ hnew_
            clear hg_ hnew_
            (first|rw [← Ny116.out] at ho166|(simp only [Int.reduceToNat] at ho166;rw [← Ny116.out] at ho166))
            have n0_ := Aside0.mk (Kd.R_lower ho166 (below_size (by repeat (first|(with_reducible first|exact HB.out|apply xa|apply xb|apply xc|refine below_set ?_ GE109.out|refine below_set ?_ GE110.out|refine below_set ?_ GE111.out)|exact HB.out))))
            have n1_ := Aside0.mk (blk_below (g := gb109) (o := .cells #[.int .i64 a0_0, .slice A0_1 l0_1.length c0_1] 43 (0, 0)) (by (with_reducible repeat (first|apply blk_drewN|apply blk_drew|apply blk_alloc));exact BK109.out) hb)
            have n2_ := Aside0.mk (blk_below (g := gb110) (o := .cells #[.int .i64 a1_0, .slice A1_1 l1_1.length c1_1] 43 (0, 0)) (by (with_reducible repeat (first|apply blk_drewN|apply blk_drew|apply blk_alloc));exact BK110.out) hb)
            have n3_ := Aside0.mk (blk_below (g := gb111) (o := .cells #[.int .i32 a3_0, .int .i32 a3_1, .int .i32 a3_2, .int .i32 a3_3] 44 (0, 0)) (by (with_reducible repeat (first|apply blk_drewN|apply blk_drew|apply blk_alloc));exact BK111.out) hb)
            have n4_ := Aside0.mk (below_step (by repeat (first|(with_reducible first|exact HB.out|apply xa|apply xb|apply xc|refine below_set ?_ GE109.out|refine below_set ?_ GE110.out|refine below_set ?_ GE111.out)|exact HB.out)) hb)
            clear BK109
            clear BK110
            clear BK111
            clear HB
            have HO118 := n0_
            have BK109 := n1_
            have BK110 := n2_
            have BK111 := n3_
            have HB := n4_
            clear n0_ n1_ n2_ n3_ n4_
            clear hb ho166
            refine hK.out _ _ ⟨(blk_cell BK110.out 0).trans rfl, (blk_cell BK110.out 1).trans rfl⟩ (fun hHeld => ?_)
            clear hK K
            refine norm_ (a' := ?_) ?_ ?_
            rotate_left
            ·show Act.put _ (some 56) _ = _
             simp only [Act.put, List.setIfInBounds_toArray, List.set_cons_zero, List.set_cons_succ, i64_w, i32_w]
             rfl
            refine two_ (i := 5) (j := 7) (Ni := some 59) (Nj := some 12) #[true, true, true, true, true, true, false, false, false] #[true, true, true, true, true, false, false, true, false] rfl rfl rfl rfl (two_of HT_.out (by kernel_rfl)) (by decide) (by decide) (fun K hK => ?_) (fun K hK => ?_)
            ·skip
             refine Kd.R_append_rows_step k109 (w0 := w) w.heap.size (by rfl) (.tmp 56) (.tmp 58) 41 109 (.agg #[(.int .i64 0), (.int .i64 0), (.int .i64 0), (.int .i32 0)]) 32 rfl Try.underlying41 info109 rfl (by decide) (by omega) v117 y116 l1_1 _ _ _ (fun _ => True) (fun _ => False) rfl rfl ?aO ?aR (fun _ _ h => h) (fun _ h => h.elim) ?aF ?aB ?aS ?aL ?_
             (case aR => repeat (first|exact (Kd.C_below HR1_1.out HB.out)|(with_reducible refine Kd.C_alloc ?_ _)|(with_reducible refine Kd.C_drewN ?_ _)|(with_reducible refine Kd.C_drew ?_)))
             (case aB => exact (by repeat (first|(with_reducible first|exact HB.out|apply xa|apply xb|apply xc|refine below_set ?_ GE109.out|refine below_set ?_ GE110.out|refine below_set ?_ GE111.out)|exact HB.out)))
             (case aF => exact (fun _ _ => trivial))
             (case aO => exact (by (with_reducible repeat (first|apply Kd.R_alloc|apply Kd.R_drewN|apply Kd.R_drew));exact HO118.out))
             (case aS => exact (below_size (by repeat (first|(with_reducible first|exact HB.out|apply xa|apply xb|apply xc|refine below_set ?_ GE109.out|refine below_set ?_ GE110.out|refine below_set ?_ GE111.out)|exact HB.out))))
             (case aL => have := LMc48.out;omega)
             intro v120 w167 ho hb hg hat
             rw [← Ny119.out] at ho
             have n0_ := Aside0.mk (blk_grown (g := gb109) (o := .cells #[.int .i64 a0_0, .slice A0_1 l0_1.length c0_1] 43 (0, 0)) (by (with_reducible repeat (first|apply blk_drewN|apply blk_drew|apply blk_alloc));exact BK109.out) hg (Kd.R_ne HO118.out BK109.out (by decide)))
             have n1_ := Aside0.mk (blk_grown (g := gb110) (o := .cells #[.int .i64 a1_0, .slice A1_1 l1_1.length c1_1] 43 (0, 0)) (by (with_reducible repeat (first|apply blk_drewN|apply blk_drew|apply blk_alloc));exact BK110.out) hg (Kd.R_ne HO118.out BK110.out (by decide)))
             have n2_ := Aside0.mk (blk_grown (g := gb111) (o := .cells #[.int .i32 a3_0, .int .i32 a3_1, .int .i32 a3_2, .int .i32 a3_3] 44 (0, 0)) (by (with_reducible repeat (first|apply blk_drewN|apply blk_drew|apply blk_alloc));exact BK111.out) hg (Kd.R_ne HO118.out BK111.out (by decide)))
             have n3_ := Aside0.mk (hb)
             have n4_ := Aside0.mk (ho)
             clear BK109
             clear BK110
             clear BK111
             clear HB
             clear HO118
             have BK109 := n0_
             have BK110 := n1_
             have BK111 := n2_
             have HB := n3_
             have HO121 := n4_
             clear n0_ n1_ n2_ n3_ n4_
             clear ho hb hg hat
             obtain ⟨Ao168, co168, eo168⟩ := Kd.R_slice HO121.out
             (first|subst eo168|(injection eo168 with f1_ f2_ f3_;have f4_ := f1_.symm;have f5_ := f3_.symm;clear f1_ f2_ f3_;subst f4_;subst f5_))
             refine hK.out _ _ ⟨(blk_cell BK110.out 0).trans rfl, (blk_cell BK110.out 1).trans rfl⟩ (fun hHeld => ?_)
             clear hK K
             refine norm_ (a' := ?_) ?_ ?_
             rotate_left
             ·show Act.put _ (some 59) _ = _
              simp only [Act.put, List.setIfInBounds_toArray, List.set_cons_zero, List.set_cons_succ, i64_w, i32_w]
              rfl
             refine pure_ (i := 6) (N := some 60) (v := ?_) (a' := ?_) #[true, true, true, true, true, true, true, false, false] rfl rfl (any_of HT_.out (by kernel_rfl)) (fun _ _ _ h => h) (Or.inl ⟨by rfl, ?_⟩) ?_ ?_
             rotate_left
             ·intro w'
              go_simp
              with_reducible rfl
             rotate_left
             ·simp only [Act.put, List.setIfInBounds_toArray, List.set_cons_zero, List.set_cons_succ, i64_w, i32_w]
              rfl
             refine one_ (i := 7) (N := some 12) #[true, true, true, true, true, true, true, true, false] rfl rfl (one_of HT_.out (by kernel_rfl)) (by decide) (fun K hK => ?_)
             refine box_step ?hg (N := 12) ?hd (cs := #[.int .i64 0, .slice none 0 0]) (t := 43) ?hr ?_;(case hd => rfl);(case hg => rfl);(case hr => first|(go_simp;done)|(go_simp;rfl))
             intro gb122 hg w169 hbox hb
             have n0_ := Aside0.mk (Kd.R_below (by (with_reducible repeat (first|apply Kd.R_alloc|apply Kd.R_drewN|apply Kd.R_drew));exact HO121.out) hb)
             have n1_ := Aside0.mk (blk_below (g := gb109) (o := .cells #[.int .i64 a0_0, .slice A0_1 l0_1.length c0_1] 43 (0, 0)) (by (with_reducible repeat (first|apply blk_drewN|apply blk_drew|apply blk_alloc));exact BK109.out) hb)
             have n2_ := Aside0.mk (blk_below (g := gb110) (o := .cells #[.int .i64 a1_0, .slice A1_1 l1_1.length c1_1] 43 (0, 0)) (by (with_reducible repeat (first|apply blk_drewN|apply blk_drew|apply blk_alloc));exact BK110.out) hb)
             have n3_ := Aside0.mk (blk_below (g := gb111) (o := .cells #[.int .i32 a3_0, .int .i32 a3_1, .int .i32 a3_2, .int .i32 a3_3] 44 (0, 0)) (by (with_reducible repeat (first|apply blk_drewN|apply blk_drew|apply blk_alloc));exact BK111.out) hb)
             have n4_ := Aside0.mk (below_step (by repeat (first|(with_reducible first|exact HB.out|apply xa|apply xb|apply xc|refine below_set ?_ GE109.out|refine below_set ?_ GE110.out|refine below_set ?_ GE111.out)|exact HB.out)) hb)
             have n5_ := Aside0.mk (hbox)
             have n6_ := Aside0.mk ((by rw [hg];exact (below_size (by repeat (first|(with_reducible first|exact HB.out|apply xa|apply xb|apply xc|refine below_set ?_ GE109.out|refine below_set ?_ GE110.out|refine below_set ?_ GE111.out)|exact HB.out))) : w.heap.size ≤ gb122))
             have n7_ := Aside0.mk ((by rw [hg];exact (below_size (by repeat (first|(with_reducible first|exact HB.out|apply xa|apply xb|apply xc|refine below_set ?_ GE109.out|refine below_set ?_ GE110.out|refine below_set ?_ GE111.out)|exact HB.out))) : w.heap.size ≤ gb122))
             have n8_ := Aside0.mk ((by rw [hg];exact Nat.ne_of_lt (blk_lt (g := gb109) (o := .cells #[.int .i64 a0_0, .slice A0_1 l0_1.length c0_1] 43 (0, 0)) (by (with_reducible repeat (first|apply blk_drewN|apply blk_drew|apply blk_alloc));exact BK109.out)) : gb109 ≠ gb122))
             have n9_ := Aside0.mk ((by rw [hg];exact Nat.ne_of_gt (blk_lt (g := gb109) (o := .cells #[.int .i64 a0_0, .slice A0_1 l0_1.length c0_1] 43 (0, 0)) (by (with_reducible repeat (first|apply blk_drewN|apply blk_drew|apply blk_alloc));exact BK109.out)) : gb122 ≠ gb109))
             have n10_ := Aside0.mk ((by rw [hg];exact Nat.ne_of_lt (blk_lt (g := gb110) (o := .cells #[.int .i64 a1_0, .slice A1_1 l1_1.length c1_1] 43 (0, 0)) (by (with_reducible repeat (first|apply blk_drewN|apply blk_drew|apply blk_alloc));exact BK110.out)) : gb110 ≠ gb122))
             have n11_ := Aside0.mk ((by rw [hg];exact Nat.ne_of_gt (blk_lt (g := gb110) (o := .cells #[.int .i64 a1_0, .slice A1_1 l1_1.length c1_1] 43 (0, 0)) (by (with_reducible repeat (first|apply blk_drewN|apply blk_drew|apply blk_alloc));exact BK110.out)) : gb122 ≠ gb110))
             have n12_ := Aside0.mk ((by rw [hg];exact Nat.ne_of_lt (blk_lt (g := gb111) (o := .cells #[.int .i32 a3_0, .int .i32 a3_1, .int .i32 a3_2, .int .i32 a3_3] 44 (0, 0)) (by (with_reducible repeat (first|apply blk_drewN|apply blk_drew|apply blk_alloc));exact BK111.out)) : gb111 ≠ gb122))
             have n13_ := Aside0.mk ((by rw [hg];exact Nat.ne_of_gt (blk_lt (g := gb111) (o := .cells #[.int .i32 a3_0, .int .i32 a3_1, .int .i32 a3_2, .int .i32 a3_3] 44 (0, 0)) (by (with_reducible repeat (first|apply blk_drewN|apply blk_drew|apply blk_alloc));exact BK111.out)) : gb122 ≠ gb111))
             clear HO121
             clear BK109
             clear BK110
             clear BK111
             clear HB
             have HO121 := n0_
             have BK109 := n1_
             have BK110 := n2_
             have BK111 := n3_
             have HB := n4_
             have BK122 := n5_
             have GW122 := n6_
             have GE122 := n7_
             have NB109_122 := n8_
             have NB122_109 := n9_
             have NB110_122 := n10_
             have NB122_110 := n11_
             have NB111_122 := n12_
             have NB122_111 := n13_
             clear n0_ n1_ n2_ n3_ n4_ n5_ n6_ n7_ n8_ n9_ n10_ n11_ n12_ n13_
             clear hb hbox hg
             refine hK.out _ _ ⟨(blk_cell BK110.out 0).trans rfl, (blk_cell BK110.out 1).trans rfl⟩ (fun hHeld => ?_)
             clear hK K
             refine norm_ (a' := ?_) ?_ ?_
             rotate_left
             ·show Act.put _ (some 12) _ = _
              simp only [Act.put, List.setIfInBounds_toArray, List.set_cons_zero, List.set_cons_succ, i64_w, i32_w]
              rfl
             exact norm_ (by simp only [putAll, Act.put, List.setIfInBounds_toArray, List.set_cons_zero, List.set_cons_succ]) (hCont (v117, .slice Ao168 y119.length co168, gb122) _ ⟨hHeld, (by (with_reducible repeat (first|apply Kd.R_alloc|apply Kd.R_drewN|apply Kd.R_drew));exact HO121.out), (by (with_reducible repeat (first|apply blk_drewN|apply blk_drew|apply blk_alloc));exact BK109.out), (by (with_reducible repeat (first|apply blk_drewN|apply blk_drew|apply blk_alloc));exact BK110.out), (by (with_reducible repeat (first|apply blk_drewN|apply blk_drew|apply blk_alloc));exact BK111.out), (by (with_reducible repeat (first|apply blk_drewN|apply blk_drew|apply blk_alloc));exact BK122.out), GW122.out, GE122.out, NB109_122.out, NB122_109.out, NB110_122.out, NB122_110.out, NB111_122.out, NB122_111.out, (by repeat (first|(with_reducible first|exact HB.out|apply xa|apply xb|apply xc|refine below_set ?_ GE109.out|refine below_set ?_ GE110.out|refine below_set ?_ GE111.out|refine below_set ?_ GE122.out)|exact HB.out))⟩)
            ·skip
             refine box_step ?hg (N := 12) ?hd (cs := #[.int .i64 0, .slice none 0 0]) (t := 43) ?hr ?_;(case hd => rfl);(case hg => rfl);(case hr => first|(go_simp;done)|(go_simp;rfl))
             intro gb122 hg w167 hbox hb
             have n0_ := Aside0.mk (Kd.R_below (by (with_reducible repeat (first|apply Kd.R_alloc|apply Kd.R_drewN|apply Kd.R_drew));exact HO118.out) hb)
             have n1_ := Aside0.mk (blk_below (g := gb109) (o := .cells #[.int .i64 a0_0, .slice A0_1 l0_1.length c0_1] 43 (0, 0)) (by (with_reducible repeat (first|apply blk_drewN|apply blk_drew|apply blk_alloc));exact BK109.out) hb)
             have n2_ := Aside0.mk (blk_below (g := gb110) (o := .cells #[.int .i64 a1_0, .slice A1_1 l1_1.length c1_1] 43 (0, 0)) (by (with_reducible repeat (first|apply blk_drewN|apply blk_drew|apply blk_alloc));exact BK110.out) hb)
             have n3_ := Aside0.mk (blk_below (g := gb111) (o := .cells #[.int .i32 a3_0, .int .i32 a3_1, .int .i32 a3_2, .int .i32 a3_3] 44 (0, 0)) (by (with_reducible repeat (first|apply blk_drewN|apply blk_drew|apply blk_alloc));exact BK111.out) hb)
             have n4_ := Aside0.mk (below_step (by repeat (first|(with_reducible first|exact HB.out|apply xa|apply xb|apply xc|refine below_set ?_ GE109.out|refine below_set ?_ GE110.out|refine below_set ?_ GE111.out)|exact HB.out)) hb)
             have n5_ := Aside0.mk (hbox)
             have n6_ := Aside0.mk ((by rw [hg];exact (below_size (by repeat (first|(with_reducible first|exact HB.out|apply xa|apply xb|apply xc|refine below_set ?_ GE109.out|refine below_set ?_ GE110.out|refine below_set ?_ GE111.out)|exact HB.out))) : w.heap.size ≤ gb122))
             have n7_ := Aside0.mk ((by rw [hg];exact (below_size (by repeat (first|(with_reducible first|exact HB.out|apply xa|apply xb|apply xc|refine below_set ?_ GE109.out|refine below_set ?_ GE110.out|refine below_set ?_ GE111.out)|exact HB.out))) : w.heap.size ≤ gb122))
             have n8_ := Aside0.mk ((by rw [hg];exact Nat.ne_of_lt (blk_lt (g := gb109) (o := .cells #[.int .i64 a0_0, .slice A0_1 l0_1.length c0_1] 43 (0, 0)) (by (with_reducible repeat (first|apply blk_drewN|apply blk_drew|apply blk_alloc));exact BK109.out)) : gb109 ≠ gb122))
             have n9_ := Aside0.mk ((by rw [hg];exact Nat.ne_of_gt (blk_lt (g := gb109) (o := .cells #[.int .i64 a0_0, .slice A0_1 l0_1.length c0_1] 43 (0, 0)) (by (with_reducible repeat (first|apply blk_drewN|apply blk_drew|apply blk_alloc));exact BK109.out)) : gb122 ≠ gb109))
             have n10_ := Aside0.mk ((by rw [hg];exact Nat.ne_of_lt (blk_lt (g := gb110) (o := .cells #[.int .i64 a1_0, .slice A1_1 l1_1.length c1_1] 43 (0, 0)) (by (with_reducible repeat (first|apply blk_drewN|apply blk_drew|apply blk_alloc));exact BK110.out)) : gb110 ≠ gb122))
             have n11_ := Aside0.mk ((by rw [hg];exact Nat.ne_of_gt (blk_lt (g := gb110) (o := .cells #[.int .i64 a1_0, .slice A1_1 l1_1.length c1_1] 43 (0, 0)) (by (with_reducible repeat (first|apply blk_drewN|apply blk_drew|apply blk_alloc));exact BK110.out)) : gb122 ≠ gb110))
             have n12_ := Aside0.mk ((by rw [hg];exact Nat.ne_of_lt (blk_lt (g := gb111) (o := .cells #[.int .i32 a3_0, .int .i32 a3_1, .int .i32 a3_2, .int .i32 a3_3] 44 (0, 0)) (by (with_reducible repeat (first|apply blk_drewN|apply blk_drew|apply blk_alloc));exact BK111.out)) : gb111 ≠ gb122))
             have n13_ := Aside0.mk ((by rw [hg];exact Nat.ne_of_gt (blk_lt (g := gb111) (o := .cells #[.int .i32 a3_0, .int .i32 a3_1, .int .i32 a3_2, .int .i32 a3_3] 44 (0, 0)) (by (with_reducible repeat (first|apply blk_drewN|apply blk_drew|apply blk_alloc));exact BK111.out)) : gb122 ≠ gb111))
             clear HO118
             clear BK109
             clear BK110
             clear BK111
             clear HB
             have HO118 := n0_
             have BK109 := n1_
             have BK110 := n2_
             have BK111 := n3_
             have HB := n4_
             have BK122 := n5_
             have GW122 := n6_
             have GE122 := n7_
             have NB109_122 := n8_
             have NB122_109 := n9_
             have NB110_122 := n10_
             have NB122_110 := n11_
             have NB111_122 := n12_
             have NB122_111 := n13_
             clear n0_ n1_ n2_ n3_ n4_ n5_ n6_ n7_ n8_ n9_ n10_ n11_ n12_ n13_
             clear hb hbox hg
             refine hK.out _ _ ⟨(blk_cell BK110.out 0).trans rfl, (blk_cell BK110.out 1).trans rfl⟩ (fun hHeld => ?_)
             clear hK K
             refine norm_ (a' := ?_) ?_ ?_
             rotate_left
             ·show Act.put _ (some 12) _ = _
              simp only [Act.put, List.setIfInBounds_toArray, List.set_cons_zero, List.set_cons_succ, i64_w, i32_w]
              rfl
             refine one_ (i := 5) (N := some 59) #[true, true, true, true, true, true, false, true, false] rfl rfl (one_of HT_.out (by kernel_rfl)) (by decide) (fun K hK => ?_)
             refine Kd.R_append_rows_step k109 (w0 := w) w.heap.size (by rfl) (.tmp 56) (.tmp 58) 41 109 (.agg #[(.int .i64 0), (.int .i64 0), (.int .i64 0), (.int .i32 0)]) 32 rfl Try.underlying41 info109 rfl (by decide) (by omega) v117 y116 l1_1 _ _ _ (fun _ => True) (fun _ => False) rfl rfl ?aO ?aR (fun _ _ h => h) (fun _ h => h.elim) ?aF ?aB ?aS ?aL ?_
             (case aR => repeat (first|exact (Kd.C_below HR1_1.out HB.out)|(with_reducible refine Kd.C_alloc ?_ _)|(with_reducible refine Kd.C_drewN ?_ _)|(with_reducible refine Kd.C_drew ?_)))
             (case aB => exact (by repeat (first|(with_reducible first|exact HB.out|apply xa|apply xb|apply xc|refine below_set ?_ GE109.out|refine below_set ?_ GE110.out|refine below_set ?_ GE111.out|refine below_set ?_ GE122.out)|exact HB.out)))
             (case aF => exact (fun _ _ => trivial))
             (case aO => exact (by (with_reducible repeat (first|apply Kd.R_alloc|apply Kd.R_drewN|apply Kd.R_drew));exact HO118.out))
             (case aS => exact (below_size (by repeat (first|(with_reducible first|exact HB.out|apply xa|apply xb|apply xc|refine below_set ?_ GE109.out|refine below_set ?_ GE110.out|refine below_set ?_ GE111.out|refine below_set ?_ GE122.out)|exact HB.out))))
             (case aL => have := LMc48.out;omega)
             intro v120 w168 ho hb hg hat
             rw [← Ny119.out] at ho
             have n0_ := Aside0.mk (blk_grown (g := gb109) (o := .cells #[.int .i64 a0_0, .slice A0_1 l0_1.length c0_1] 43 (0, 0)) (by (with_reducible repeat (first|apply blk_drewN|apply blk_drew|apply blk_alloc));exact BK109.out) hg (Kd.R_ne HO118.out BK109.out (by decide)))
             have n1_ := Aside0.mk (blk_grown (g := gb110) (o := .cells #[.int .i64 a1_0, .slice A1_1 l1_1.length c1_1] 43 (0, 0)) (by (with_reducible repeat (first|apply blk_drewN|apply blk_drew|apply blk_alloc));exact BK110.out) hg (Kd.R_ne HO118.out BK110.out (by decide)))
             have n2_ := Aside0.mk (blk_grown (g := gb111) (o := .cells #[.int .i32 a3_0, .int .i32 a3_1, .int .i32 a3_2, .int .i32 a3_3] 44 (0, 0)) (by (with_reducible repeat (first|apply blk_drewN|apply blk_drew|apply blk_alloc));exact BK111.out) hg (Kd.R_ne HO118.out BK111.out (by decide)))
             have n3_ := Aside0.mk (blk_grown (g := gb122) (o := .cells #[.int .i64 0, .slice none 0 0] 43 (0, 0)) (by (with_reducible repeat (first|apply blk_drewN|apply blk_drew|apply blk_alloc));exact BK122.out) hg (Kd.R_ne HO118.out BK122.out (by decide)))
             have n4_ := Aside0.mk (hb)
             have n5_ := Aside0.mk (ho)
             clear BK109
             clear BK110
             clear BK111
             clear BK122
             clear HB
             clear HO118
             have BK109 := n0_
             have BK110 := n1_
             have BK111 := n2_
             have BK122 := n3_
             have HB := n4_
             have HO121 := n5_
             clear n0_ n1_ n2_ n3_ n4_ n5_
             clear ho hb hg hat
             obtain ⟨Ao169, co169, eo169⟩ := Kd.R_slice HO121.out
             (first|subst eo169|(injection eo169 with f1_ f2_ f3_;have f4_ := f1_.symm;have f5_ := f3_.symm;clear f1_ f2_ f3_;subst f4_;subst f5_))
             refine hK.out _ _ ⟨(blk_cell BK110.out 0).trans rfl, (blk_cell BK110.out 1).trans rfl⟩ (fun hHeld => ?_)
             clear hK K
             refine norm_ (a' := ?_) ?_ ?_
             rotate_left
             ·show Act.put _ (some 59) _ = _
              simp only [Act.put, List.setIfInBounds_toArray, List.set_cons_zero, List.set_cons_succ, i64_w, i32_w]
              rfl
             refine pure_ (i := 6) (N := some 60) (v := ?_) (a' := ?_) #[true, true, true, true, true, true, true, true, false] rfl rfl (any_of HT_.out (by kernel_rfl)) (fun _ _ _ h => h) (Or.inl ⟨by rfl, ?_⟩) ?_ ?_
             rotate_left
             ·intro w'
              go_simp
              with_reducible rfl
             rotate_left
             ·simp only [Act.put, List.setIfInBounds_toArray, List.set_cons_zero, List.set_cons_succ, i64_w, i32_w]
              rfl
             exact norm_ (by simp only [putAll, Act.put, List.setIfInBounds_toArray, List.set_cons_zero, List.set_cons_succ]) (hCont (v117, .slice Ao169 y119.length co169, gb122) _ ⟨hHeld, (by (with_reducible repeat (first|apply Kd.R_alloc|apply Kd.R_drewN|apply Kd.R_drew));exact HO121.out), (by (with_reducible repeat (first|apply blk_drewN|apply blk_drew|apply blk_alloc));exact BK109.out), (by (with_reducible repeat (first|apply blk_drewN|apply blk_drew|apply blk_alloc));exact BK110.out), (by (with_reducible repeat (first|apply blk_drewN|apply blk_drew|apply blk_alloc));exact BK111.out), (by (with_reducible repeat (first|apply blk_drewN|apply blk_drew|apply blk_alloc));exact BK122.out), GW122.out, GE122.out, NB109_122.out, NB122_109.out, NB110_122.out, NB122_110.out, NB111_122.out, NB122_111.out, (by repeat (first|(with_reducible first|exact HB.out|apply xa|apply xb|apply xc|refine below_set ?_ GE109.out|refine below_set ?_ GE110.out|refine below_set ?_ GE111.out|refine below_set ?_ GE122.out)|exact HB.out))⟩)
           ·skip
            refine box_step ?hg (N := 12) ?hd (cs := #[.int .i64 0, .slice none 0 0]) (t := 43) ?hr ?_;(case hd => rfl);(case hg => rfl);(case hr => first|(go_simp;done)|(go_simp;rfl))
            intro gb122 hg w165 hbox hb
            have n0_ := Aside0.mk (blk_below (g := gb109) (o := .cells #[.int .i64 a0_0, .slice A0_1 l0_1.length c0_1] 43 (0, 0)) (by (with_reducible repeat (first|apply blk_drewN|apply blk_drew|apply blk_alloc));exact BK109.out) hb)
            have n1_ := Aside0.mk (blk_below (g := gb110) (o := .cells #[.int .i64 a1_0, .slice A1_1 l1_1.length c1_1] 43 (0, 0)) (by (with_reducible repeat (first|apply blk_drewN|apply blk_drew|apply blk_alloc));exact BK110.out) hb)
            have n2_ := Aside0.mk (blk_below (g := gb111) (o := .cells #[.int .i32 a3_0, .int .i32 a3_1, .int .i32 a3_2, .int .i32 a3_3] 44 (0, 0)) (by (with_reducible repeat (first|apply blk_drewN|apply blk_drew|apply blk_alloc));exact BK111.out) hb)
            have n3_ := Aside0.mk (below_step (by repeat (first|(with_reducible first|exact HB.out|apply xa|apply xb|apply xc|refine below_set ?_ GE109.out|refine below_set ?_ GE110.out|refine below_set ?_ GE111.out)|exact HB.out)) hb)
            have n4_ := Aside0.mk (hbox)
            have n5_ := Aside0.mk ((by rw [hg];exact (below_size (by repeat (first|(with_reducible first|exact HB.out|apply xa|apply xb|apply xc|refine below_set ?_ GE109.out|refine below_set ?_ GE110.out|refine below_set ?_ GE111.out)|exact HB.out))) : w.heap.size ≤ gb122))
            have n6_ := Aside0.mk ((by rw [hg];exact (below_size (by repeat (first|(with_reducible first|exact HB.out|apply xa|apply xb|apply xc|refine below_set ?_ GE109.out|refine below_set ?_ GE110.out|refine below_set ?_ GE111.out)|exact HB.out))) : w.heap.size ≤ gb122))
            have n7_ := Aside0.mk ((by rw [hg];exact Nat.ne_of_lt (blk_lt (g := gb109) (o := .cells #[.int .i64 a0_0, .slice A0_1 l0_1.length c0_1] 43 (0, 0)) (by (with_reducible repeat (first|apply blk_drewN|apply blk_drew|apply blk_alloc));exact BK109.out)) : gb109 ≠ gb122))
            have n8_ := Aside0.mk ((by rw [hg];exact Nat.ne_of_gt (blk_lt (g := gb109) (o := .cells #[.int .i64 a0_0, .slice A0_1 l0_1.length c0_1] 43 (0, 0)) (by (with_reducible repeat (first|apply blk_drewN|apply blk_drew|apply blk_alloc));exact BK109.out)) : gb122 ≠ gb109))
            have n9_ := Aside0.mk ((by rw [hg];exact Nat.ne_of_lt (blk_lt (g := gb110) (o := .cells #[.int .i64 a1_0, .slice A1_1 l1_1.length c1_1] 43 (0, 0)) (by (with_reducible repeat (first|apply blk_drewN|apply blk_drew|apply blk_alloc));exact BK110.out)) : gb110 ≠ gb122))
            have n10_ := Aside0.mk ((by rw [hg];exact Nat.ne_of_gt (blk_lt (g := gb110) (o := .cells #[.int .i64 a1_0, .slice A1_1 l1_1.length c1_1] 43 (0, 0)) (by (with_reducible repeat (first|apply blk_drewN|apply blk_drew|apply blk_alloc));exact BK110.out)) : gb122 ≠ gb110))
            have n11_ := Aside0.mk ((by rw [hg];exact Nat.ne_of_lt (blk_lt (g := gb111) (o := .cells #[.int .i32 a3_0, .int .i32 a3_1, .int .i32 a3_2, .int .i32 a3_3] 44 (0, 0)) (by (with_reducible repeat (first|apply blk_drewN|apply blk_drew|apply blk_alloc));exact BK111.out)) : gb111 ≠ gb122))
            have n12_ := Aside0.mk ((by rw [hg];exact Nat.ne_of_gt (blk_lt (g := gb111) (o := .cells #[.int .i32 a3_0, .int .i32 a3_1, .int .i32 a3_2, .int .i32 a3_3] 44 (0, 0)) (by (with_reducible repeat (first|apply blk_drewN|apply blk_drew|apply blk_alloc));exact BK111.out)) : gb122 ≠ gb111))
            clear BK109
            clear BK110
            clear BK111
            clear HB
            have BK109 := n0_
            have BK110 := n1_
            have BK111 := n2_
            have HB := n3_
            have BK122 := n4_
            have GW122 := n5_
            have GE122 := n6_
            have NB109_122 := n7_
            have NB122_109 := n8_
            have NB110_122 := n9_
            have NB122_110 := n10_
            have NB111_122 := n11_
            have NB122_111 := n12_
            clear n0_ n1_ n2_ n3_ n4_ n5_ n6_ n7_ n8_ n9_ n10_ n11_ n12_
            clear hb hbox hg
            refine hK.out _ _ ⟨(blk_cell BK110.out 0).trans rfl, (blk_cell BK110.out 1).trans rfl⟩ (fun hHeld => ?_)
            clear hK K
            refine norm_ (a' := ?_) ?_ ?_
            rotate_left
            ·show Act.put _ (some 12) _ = _
             simp only [Act.put, List.setIfInBounds_toArray, List.set_cons_zero, List.set_cons_succ, i64_w, i32_w]
             rfl
            refine one_ (i := 2) (N := some 56) #[true, true, true, true, true, false, false, true, false] rfl rfl (one_of HT_.out (by kernel_rfl)) (by decide) (fun K hK => ?_)
            refine Kd.R_lit_step k109 _ 109 ?hg (N := 56) ?hd (xs := ([] : List (S109))) (inner := []) (ok := fun _ => True) (okp := fun _ => True) ?hr ?hp (fun _ hk => hk) trivial (Below.refl _ _) (Nat.le_refl _) (by simp) ?_;(case hd => rfl);(case hg => rfl);(case hr => first|(go_simp;done)|(go_simp;rfl));(case hp => exact (Reps.none _ _))
            intro v117 w166 ho167 hb hg_ hnew_
            clear hg_ hnew_
            (first|rw [← Ny116.out] at ho167|(simp only [Int.reduceToNat] at ho167;rw [← Ny116.out] at ho167))
            have n0_ := Aside0.mk (Kd.R_lower ho167 (below_size (by repeat (first|(with_reducible first|exact HB.out|apply xa|apply xb|apply xc|refine below_set ?_ GE109.out|refine below_set ?_ GE110.out|refine below_set ?_ GE111.out|refine below_set ?_ GE122.out)|exact HB.out))))
            have n1_ := Aside0.mk (blk_below (g := gb109) (o := .cells #[.int .i64 a0_0, .slice A0_1 l0_1.length c0_1] 43 (0, 0)) (by (with_reducible repeat (first|apply blk_drewN|apply blk_drew|apply blk_alloc));exact BK109.out) hb)
            have n2_ := Aside0.mk (blk_below (g := gb110) (o := .cells #[.int .i64 a1_0, .slice A1_1 l1_1.length c1_1] 43 (0, 0)) (by (with_reducible repeat (first|apply blk_drewN|apply blk_drew|apply blk_alloc));exact BK110.out) hb)
            have n3_ := Aside0.mk (blk_below (g := gb111) (o := .cells #[.int .i32 a3_0, .int .i32 a3_1, .int .i32 a3_2, .int .i32 a3_3] 44 (0, 0)) (by (with_reducible repeat (first|apply blk_drewN|apply blk_drew|apply blk_alloc));exact BK111.out) hb)
            have n4_ := Aside0.mk (blk_below (g := gb122) (o := .cells #[.int .i64 0, .slice none 0 0] 43 (0, 0)) (by (with_reducible repeat (first|apply blk_drewN|apply blk_drew|apply blk_alloc));exact BK122.out) hb)
            have n5_ := Aside0.mk (below_step (by repeat (first|(with_reducible first|exact HB.out|apply xa|apply xb|apply xc|refine below_set ?_ GE109.out|refine below_set ?_ GE110.out|refine below_set ?_ GE111.out|refine below_set ?_ GE122.out)|exact HB.out)) hb)
            clear BK109
            clear BK110
            clear BK111
            clear BK122
            clear HB
            have HO118 := n0_
            have BK109 := n1_
            have BK110 := n2_
            have BK111 := n3_
            have BK122 := n4_
            have HB := n5_
            clear n0_ n1_ n2_ n3_ n4_ n5_
            clear hb ho167
            refine hK.out _ _ ⟨(blk_cell BK110.out 0).trans rfl, (blk_cell BK110.out 1).trans rfl⟩ (fun hHeld => ?_)
            clear hK K
            refine norm_ (a' := ?_) ?_ ?_
            rotate_left
            ·show Act.put _ (some 56) _ = _
             simp only [Act.put, List.setIfInBounds_toArray, List.set_cons_zero, List.set_cons_succ, i64_w, i32_w]
             rfl
            refine one_ (i := 5) (N := some 59) #[true, true, true, true, true, true, false, true, false] rfl rfl (one_of HT_.out (by kernel_rfl)) (by decide) (fun K hK => ?_)
            refine Kd.R_append_rows_step k109 (w0 := w) w.heap.size (by rfl) (.tmp 56) (.tmp 58) 41 109 (.agg #[(.int .i64 0), (.int .i64 0), (.int .i64 0), (.int .i32 0)]) 32 rfl Try.underlying41 info109 rfl (by decide) (by omega) v117 y116 l1_1 _ _ _ (fun _ => True) (fun _ => False) rfl rfl ?aO ?aR (fun _ _ h => h) (fun _ h => h.elim) ?aF ?aB ?aS ?aL ?_
            (case aR => repeat (first|exact (Kd.C_below HR1_1.out HB.out)|(with_reducible refine Kd.C_alloc ?_ _)|(with_reducible refine Kd.C_drewN ?_ _)|(with_reducible refine Kd.C_drew ?_)))
            (case aB => exact (by repeat (first|(with_reducible first|exact HB.out|apply xa|apply xb|apply xc|refine below_set ?_ GE109.out|refine below_set ?_ GE110.out|refine below_set ?_ GE111.out|refine below_set ?_ GE122.out)|exact HB.out)))
            (case aF => exact (fun _ _ => trivial))
            (case aO => exact (by (with_reducible repeat (first|apply Kd.R_alloc|apply Kd.R_drewN|apply Kd.R_drew));exact HO118.out))
            (case aS => exact (below_size (by repeat (first|(with_reducible first|exact HB.out|apply xa|apply xb|apply xc|refine below_set ?_ GE109.out|refine below_set ?_ GE110.out|refine below_set ?_ GE111.out|refine below_set ?_ GE122.out)|exact HB.out))))
            (case aL => have := LMc48.out;omega)
            intro v120 w168 ho hb hg hat
            rw [← Ny119.out] at ho
            have n0_ := Aside0.mk (blk_grown (g := gb109) (o := .cells #[.int .i64 a0_0, .slice A0_1 l0_1.length c0_1] 43 (0, 0)) (by (with_reducible repeat (first|apply blk_drewN|apply blk_drew|apply blk_alloc));exact BK109.out) hg (Kd.R_ne HO118.out BK109.out (by decide)))
            have n1_ := Aside0.mk (blk_grown (g := gb110) (o := .cells #[.int .i64 a1_0, .slice A1_1 l1_1.length c1_1] 43 (0, 0)) (by (with_reducible repeat (first|apply blk_drewN|apply blk_drew|apply blk_alloc));exact BK110.out) hg (Kd.R_ne HO118.out BK110.out (by decide)))
            have n2_ := Aside0.mk (blk_grown (g := gb111) (o := .cells #[.int .i32 a3_0, .int .i32 a3_1, .int .i32 a3_2, .int .i32 a3_3] 44 (0, 0)) (by (with_reducible repeat (first|apply blk_drewN|apply blk_drew|apply blk_alloc));exact BK111.out) hg (Kd.R_ne HO118.out BK111.out (by decide)))
            have n3_ := Aside0.mk (blk_grown (g := gb122) (o := .cells #[.int .i64 0, .slice none 0 0] 43 (0, 0)) (by (with_reducible repeat (first|apply blk_drewN|apply blk_drew|apply blk_alloc));exact BK122.out) hg (Kd.R_ne HO118.out BK122.out (by decide)))
            have n4_ := Aside0.mk (hb)
            have n5_ := Aside0.mk (ho)
            clear BK109
            clear BK110
            clear BK111
            clear BK122
            clear HB
            clear HO118
            have BK109 := n0_
            have BK110 := n1_
            have BK111 := n2_
            have BK122 := n3_
            have HB := n4_
            have HO121 := n5_
            clear n0_ n1_ n2_ n3_ n4_ n5_
            clear ho hb hg hat
            obtain ⟨Ao169, co169, eo169⟩ := Kd.R_slice HO121.out
            (first|subst eo169|(injection eo169 with f1_ f2_ f3_;have f4_ := f1_.symm;have f5_ := f3_.symm;clear f1_ f2_ f3_;subst f4_;subst f5_))
            refine hK.out _ _ ⟨(blk_cell BK110.out 0).trans rfl, (blk_cell BK110.out 1).trans rfl⟩ (fun hHeld => ?_)
            clear hK K
            refine norm_ (a' := ?_) ?_ ?_
            rotate_left
            ·show Act.put _ (some 59) _ = _
             simp only [Act.put, List.setIfInBounds_toArray, List.set_cons_zero, List.set_cons_succ, i64_w, i32_w]
             rfl
            refine pure_ (i := 6) (N := some 60) (v := ?_) (a' := ?_) #[true, true, true, true, true, true, true, true, false] rfl rfl (any_of HT_.out (by kernel_rfl)) (fun _ _ _ h => h) (Or.inl ⟨by rfl, ?_⟩) ?_ ?_
            rotate_left
            ·intro w'
             go_simp
             with_reducible rfl
            rotate_left
            ·simp only [Act.put, List.setIfInBounds_toArray, List.set_cons_zero, List.set_cons_succ, i64_w, i32_w]
             rfl
            exact norm_ (by simp only [putAll, Act.put, List.setIfInBounds_toArray, List.set_cons_zero, List.set_cons_succ]) (hCont (v117, .slice Ao169 y119.length co169, gb122) _ ⟨hHeld, (by (with_reducible repeat (first|apply Kd.R_alloc|apply Kd.R_drewN|apply Kd.R_drew));exact HO121.out), (by (with_reducible repeat (first|apply blk_drewN|apply blk_drew|apply blk_alloc));exact BK109.out), (by (with_reducible repeat (first|apply blk_drewN|apply blk_drew|apply blk_alloc));exact BK110.out), (by (with_reducible repeat (first|apply blk_drewN|apply blk_drew|apply blk_alloc));exact BK111.out), (by (with_reducible repeat (first|apply blk_drewN|apply blk_drew|apply blk_alloc));exact BK122.out), GW122.out, GE122.out, NB109_122.out, NB122_109.out, NB110_122.out, NB122_110.out, NB111_122.out, NB122_111.out, (by repeat (first|(with_reducible first|exact HB.out|apply xa|apply xb|apply xc|refine below_set ?_ GE109.out|refine below_set ?_ GE110.out|refine below_set ?_ GE111.out|refine below_set ?_ GE122.out)|exact HB.out))⟩)
          rintro ⟨v117, v120, gb122⟩ w170 ⟨hS_, h0_, h1_, h2_, h3_, h4_, h5_, h6_, h7_, h8_, h9_, h10_, h11_, h12_, h13_⟩
          have n0_ : Aside0 (Kd.R k109 109 w170 w.heap.size (fun _ => True) v120 y119) := ⟨h0_⟩
          have n1_ : Aside0 (w170.heap[gb109]? = some (.cells #[.int .i64 a0_0, .slice A0_1 l0_1.length c0_1] 43 (0, 0))) := ⟨h1_⟩
          have n2_ : Aside0 (w170.heap[gb110]? = some (.cells #[.int .i64 a1_0, .slice A1_1 l1_1.length c1_1] 43 (0, 0))) := ⟨h2_⟩
          have n3_ : Aside0 (w170.heap[gb111]? = some (.cells #[.int .i32 a3_0, .int .i32 a3_1, .int .i32 a3_2, .int .i32 a3_3] 44 (0, 0))) := ⟨h3_⟩
          have n4_ : Aside0 (w170.heap[gb122]? = some (.cells #[.int .i64 0, .slice none 0 0] 43 (0, 0))) := ⟨h4_⟩
          have n5_ : Aside0 (w.heap.size ≤ gb122) := ⟨h5_⟩
          have n6_ : Aside0 (w.heap.size ≤ gb122) := ⟨h6_⟩
          have n7_ : Aside0 (gb109 ≠ gb122) := ⟨h7_⟩
          have n8_ : Aside0 (gb122 ≠ gb109) := ⟨h8_⟩
          have n9_ : Aside0 (gb110 ≠ gb122) := ⟨h9_⟩
          have n10_ : Aside0 (gb122 ≠ gb110) := ⟨h10_⟩
          have n11_ : Aside0 (gb111 ≠ gb122) := ⟨h11_⟩
          have n12_ : Aside0 (gb122 ≠ gb111) := ⟨h12_⟩
          have n13_ : Aside0 (Below w.heap.size w w170) := ⟨h13_⟩
          clear BK109
          clear BK110
          clear BK111
          clear HB
          clear h0_ h1_ h2_ h3_ h4_ h5_ h6_ h7_ h8_ h9_ h10_ h11_ h12_ h13_
          have HO121 := n0_
          have BK109 := n1_
          have BK110 := n2_
          have BK111 := n3_
          have BK122 := n4_
          have GW122 := n5_
          have GE122 := n6_
          have NB109_122 := n7_
          have NB122_109 := n8_
          have NB110_122 := n9_
          have NB122_110 := n10_
          have NB111_122 := n11_
          have NB122_111 := n12_
          have HB := n13_
          clear n0_ n1_ n2_ n3_ n4_ n5_ n6_ n7_ n8_ n9_ n10_ n11_ n12_ n13_
          have hHeld : w170.cell? ⟨gb110, 0, none⟩ = some (.int .i64 a1_0) ∧ w170.cell? ⟨gb110, 1, none⟩ = some (.slice A1_1 l1_1.length c1_1) := hS_
          obtain ⟨Ao171, co171, eo171⟩ := Kd.R_slice HO121.out
          (first|subst eo171|(injection eo171 with f1_ f2_ f3_;have f4_ := f1_.symm;have f5_ := f3_.symm;clear f1_ f2_ f3_;subst f4_;subst f5_))
          refine norm_ (a' := ?_) ?_ ?_
          rotate_left
          ·simp only [putAll, Act.put, List.setIfInBounds_toArray, List.set_cons_zero, List.set_cons_succ]
           rfl
          refine one_ (i := 8) (N := none) #[true, true, true, true, true, true, true, true, true] rfl rfl (one_of HT_.out (by kernel_rfl)) (by decide) (fun K hK => ?_)
          have hs172 : w170.cell? ⟨gb122, 0, none⟩ = some (.int .i64 0) := (blk_cell BK122.out 0).trans rfl
          have hfs172 := blk_frozen BK122.out 0
          have hns172_0 := NB109_122.out
          have hns172_1 := NB110_122.out
          have hns172_2 := NB111_122.out
          have hms172_0 := NB122_109.out
          have hms172_1 := NB122_110.out
          have hms172_2 := NB122_111.out
          have hs173 : w170.cell? ⟨gb122, 1, none⟩ = some (.slice none 0 0) := (blk_cell BK122.out 1).trans rfl
          have hfs173 := blk_frozen BK122.out 1
          have hns173_0 := NB109_122.out
          have hns173_1 := NB110_122.out
          have hns173_2 := NB111_122.out
          have hms173_0 := NB122_109.out
          have hms173_1 := NB122_110.out
          have hms173_2 := NB122_111.out
          refine skip_ (w1 := ?_) (by rfl) rfl ?_ ?_
          rotate_left
          ·go_simp
           rfl
          refine hK.out _ _ ⟨((cell_far (p := ⟨gb122, _, none⟩) NB110_122.out _).trans (((cell_far (p := ⟨gb122, _, none⟩) NB110_122.out _).trans (hHeld.1)))), ((cell_far (p := ⟨gb122, _, none⟩) NB110_122.out _).trans (((cell_far (p := ⟨gb122, _, none⟩) NB110_122.out _).trans (hHeld.2))))⟩ (fun hHeld => ?_)
          clear hK K
          refine done_ (done_of HT_.out (by kernel_rfl)) ?_
          try go_wp2
          have n0_ : Aside0 (Kd.R k109 109 ((w170.setCell ⟨gb122, 0, none⟩ (.int .i64 a1_0)).setCell ⟨gb122, 1, none⟩ (.slice Ao171 y119.length co171)) w.heap.size (fun _ => True) (.slice Ao171 y119.length co171) y119) := ⟨by (with_reducible repeat (first|apply Kd.R_alloc|apply Kd.R_drewN|apply Kd.R_drew));exact Kd.R_mono (Kd.R_far (p := ⟨gb122, 1, none⟩) (Kd.R_far (p := ⟨gb122, 0, none⟩) (Kd.R_types HO121.out BK122.out (by decide)) (fun _ hk => hk.2) (.int .i64 a1_0)) (fun _ hk => hk.2) (.slice Ao171 y119.length co171)) (fun _ hk => trivial)⟩
          have n1_ : Aside0 (((w170.setCell ⟨gb122, 0, none⟩ (.int .i64 a1_0)).setCell ⟨gb122, 1, none⟩ (.slice Ao171 y119.length co171)).heap[gb109]? = some (.cells #[.int .i64 a0_0, .slice A0_1 l0_1.length c0_1] 43 (0, 0))) := ⟨by (with_reducible repeat (first|apply blk_drewN|apply blk_drew|apply blk_alloc));refine blk_far ?_ NB109_122.out _;(with_reducible repeat (first|apply blk_drewN|apply blk_drew|apply blk_alloc));refine blk_far ?_ NB109_122.out _;(with_reducible repeat (first|apply blk_drewN|apply blk_drew|apply blk_alloc));exact BK109.out⟩
          have n2_ : Aside0 (((w170.setCell ⟨gb122, 0, none⟩ (.int .i64 a1_0)).setCell ⟨gb122, 1, none⟩ (.slice Ao171 y119.length co171)).heap[gb110]? = some (.cells #[.int .i64 a1_0, .slice A1_1 l1_1.length c1_1] 43 (0, 0))) := ⟨by (with_reducible repeat (first|apply blk_drewN|apply blk_drew|apply blk_alloc));refine blk_far ?_ NB110_122.out _;(with_reducible repeat (first|apply blk_drewN|apply blk_drew|apply blk_alloc));refine blk_far ?_ NB110_122.out _;(with_reducible repeat (first|apply blk_drewN|apply blk_drew|apply blk_alloc));exact BK110.out⟩
          have n3_ : Aside0 (((w170.setCell ⟨gb122, 0, none⟩ (.int .i64 a1_0)).setCell ⟨gb122, 1, none⟩ (.slice Ao171 y119.length co171)).heap[gb111]? = some (.cells #[.int .i32 a3_0, .int .i32 a3_1, .int .i32 a3_2, .int .i32 a3_3] 44 (0, 0))) := ⟨by (with_reducible repeat (first|apply blk_drewN|apply blk_drew|apply blk_alloc));refine blk_far ?_ NB111_122.out _;(with_reducible repeat (first|apply blk_drewN|apply blk_drew|apply blk_alloc));refine blk_far ?_ NB111_122.out _;(with_reducible repeat (first|apply blk_drewN|apply blk_drew|apply blk_alloc));exact BK111.out⟩
          have n4_ : Aside0 (((w170.setCell ⟨gb122, 0, none⟩ (.int .i64 a1_0)).setCell ⟨gb122, 1, none⟩ (.slice Ao171 y119.length co171)).heap[gb122]? = some (.cells #[.int .i64 a1_0, .slice Ao171 y119.length co171] 43 (0, 0))) := ⟨by (with_reducible repeat (first|apply blk_drewN|apply blk_drew|apply blk_alloc));refine blk_put (cs := #[.int .i64 a1_0, .slice none 0 0]) ?_ 1 _ rfl;(with_reducible repeat (first|apply blk_drewN|apply blk_drew|apply blk_alloc));refine blk_put (cs := #[.int .i64 0, .slice none 0 0]) ?_ 0 _ rfl;(with_reducible repeat (first|apply blk_drewN|apply blk_drew|apply blk_alloc));exact BK122.out⟩
          have n5_ : Aside0 (Below w.heap.size w ((w170.setCell ⟨gb122, 0, none⟩ (.int .i64 a1_0)).setCell ⟨gb122, 1, none⟩ (.slice Ao171 y119.length co171))) := ⟨by repeat (first|(with_reducible first|exact HB.out|apply xa|apply xb|apply xc|refine below_set ?_ GE109.out|refine below_set ?_ GE110.out|refine below_set ?_ GE111.out|refine below_set ?_ GE122.out)|exact HB.out)⟩
          (try clear HO121)
          (try clear BK109)
          (try clear BK110)
          (try clear BK111)
          (try clear BK122)
          (try clear HB)
          generalize ((w170.setCell ⟨gb122, 0, none⟩ (.int .i64 a1_0)).setCell ⟨gb122, 1, none⟩ (.slice Ao171 y119.length co171)) = w174 at n0_ n1_ n2_ n3_ n4_ n5_ ⊢
          have HO121 := n0_
          have BK109 := n1_
          have BK110 := n2_
          have BK111 := n3_
          have BK122 := n4_
          have HB := n5_
          clear n0_ n1_ n2_ n3_ n4_ n5_
          have n0_ := Aside0.mk (Kd.R_drew HO121.out)
          have n1_ := Aside0.mk (blk_drew BK109.out)
          have n2_ := Aside0.mk (blk_drew BK110.out)
          have n3_ := Aside0.mk (blk_drew BK111.out)
          have n4_ := Aside0.mk (blk_drew BK122.out)
          have n5_ := Aside0.mk (below_drew1 HB.out)
          clear HO121
          clear BK109
          clear BK110
          clear BK111
          clear BK122
          clear HB
          have HO121 := n0_
          have BK109 := n1_
          have BK110 := n2_
          have BK111 := n3_
          have BK122 := n4_
          have HB := n5_
          clear n0_ n1_ n2_ n3_ n4_ n5_
          have p123 : 0 ≤ ((ji49) : Int) := of_decide_eq_true (by assumption)
          have q123 : (ji49) < (l0_1.length : Int) := of_decide_eq_true (by assumption)
          obtain ⟨ad123, e123, hx123_0, hx123_1, hx123_2, hx123_3⟩ := at_T109 HR0_1.out (ji49) p123 q123
          have hw123_3 := hx123_3
          have hw123_2 := hx123_2
          have hw123_1 := hx123_1
          have hw123_0 := hx123_0
          cases e123
          replace hx123_0 := (HB.out.cell (World.block_lt_of_cell? w _ hx123_0)).trans hx123_0
          replace hx123_1 := (HB.out.cell (World.block_lt_of_cell? w _ hx123_1)).trans hx123_1
          replace hx123_2 := (HB.out.cell (World.block_lt_of_cell? w _ hx123_2)).trans hx123_2
          replace hx123_3 := (HB.out.cell (World.block_lt_of_cell? w _ hx123_3)).trans hx123_3
          replace p123 := eq_true p123
          replace q123 := eq_true q123
          have p53 : 0 ≤ ((ji49) : Int) := of_decide_eq_true (by assumption)
          have q53 : ((ji49) : Int) < ((y119.length : Int) : Int) := of_decide_eq_true (by assumption)
          obtain ⟨go53, co53, eo53, gb53, gl53, cl53, HG53⟩ := Kd.R_form HO121.out (by omega)
          (first|cases eo53|(injection eo53 with ea_ en_ ec_;(first|subst ea_|(injection ea_ with ea_;subst ea_));subst ec_;clear en_))
          have GB53 := Aside0.mk gb53
          have GG53 := Aside0.mk HG53
          clear gb53 gl53 HG53
          obtain ⟨ce53, hcl53, hM53, hcc53, hfr53⟩ := Kd.R_elem HO121.out z109 ((ji49) : Int) p53 q53
          obtain rfl := k109_openM hM53
          have hx53_0 : World.cell? _ ⟨go53, ((ji49) : Int).toNat * 4, none⟩ = some (.int .i64 ((rd_T109 y119 (ji49)).f0)) := hcc53 0 _ rfl
          have hx53_1 : World.cell? _ ⟨go53, ((ji49) : Int).toNat * 4 + 1, none⟩ = some (.int .i64 ((rd_T109 y119 (ji49)).f1)) := hcc53 1 _ rfl
          have hx53_2 : World.cell? _ ⟨go53, ((ji49) : Int).toNat * 4 + 2, none⟩ = some (.int .i64 ((rd_T109 y119 (ji49)).f2)) := hcc53 2 _ rfl
          have hx53_3 : World.cell? _ ⟨go53, ((ji49) : Int).toNat * 4 + 3, none⟩ = some (.int .i32 ((rd_T109 y119 (ji49)).f3)) := hcc53 3 _ rfl
          have hf53_0 : World.frozen? _ ⟨go53, ((ji49) : Int).toNat * 4, none⟩ = false := hfr53 0
          have hf53_1 : World.frozen? _ ⟨go53, ((ji49) : Int).toNat * 4 + 1, none⟩ = false := hfr53 1
          have hf53_2 : World.frozen? _ ⟨go53, ((ji49) : Int).toNat * 4 + 2, none⟩ = false := hfr53 2
          have hf53_3 : World.frozen? _ ⟨go53, ((ji49) : Int).toNat * 4 + 3, none⟩ = false := hfr53 3
          clear hcl53 hcc53 hfr53 hM53
          replace p53 := eq_true p53
          replace q53 := eq_true q53
          obtain ⟨ce176, hcl176, hM176, hcc176, hfr176⟩ := Kd.R_elem HO121.out z109 ((ji49) : Int) (of_decide_eq_true (by assumption)) (by have h_ : ((ji49) : Int) < ((y119.length : Int) : Int) := of_decide_eq_true (by assumption);first|exact h_|(have e_ := (Kd.R_reads' HO121.out).1;omega)|simpa using h_)
          obtain rfl := k109_openM hM176
          have HP176 := (Kd.R_seg HO121.out ((ji49) : Int) (of_decide_eq_true (by assumption)) (by have h_ : ((ji49) : Int) < ((y119.length : Int) : Int) := of_decide_eq_true (by assumption);first|exact h_|(have e_ := (Kd.R_reads' HO121.out).1;omega)|simpa using h_) (seg := [.int .i64 ((rd_T109 l0_1 (ji49)).f0), .int .i64 ((rd_T109 l0_1 (ji49)).f1), .int .i64 ((rd_T109 l0_1 (ji49)).f2), .int .i32 ((rd_T109 l0_1 (ji49)).f3)]) (j := 0) hcl176 hcc176 (show 4 ≤ 4 from by decide) (x' := (⟨(rd_T109 l0_1 (ji49)).f0, (rd_T109 l0_1 (ji49)).f1, (rd_T109 l0_1 (ji49)).f2, (rd_T109 l0_1 (ji49)).f3⟩ : S109)) (k109_mkM _ _ _ (⟨(rd_T109 l0_1 (ji49)).f0, (rd_T109 l0_1 (ji49)).f1, (rd_T109 l0_1 (ji49)).f2, (rd_T109 l0_1 (ji49)).f3⟩ : S109) ) (fun _ hk => hk)).1
          rw [← Ny124.out] at HP176
          have HQ176 := Aside0.mk HP176
          clear hcl176 hcc176 hfr176 hM176 HP176
          refine start_ (n := 10) (S := fun w' => w'.cell? ⟨gb122, 0, none⟩ = some (.int .i64 a1_0) ∧ w'.cell? ⟨gb122, 1, none⟩ = some (.slice (some ⟨go53, 0, none⟩) y119.length co171) ∧ w'.cell? ⟨gb109, 0, none⟩ = some (.int .i64 a0_0) ∧ w'.cell? ⟨gb109, 1, none⟩ = some (.slice (some ad123) l0_1.length c0_1) ∧ w'.cell? (ad123.add (((ji49)).toNat * 4)) = some (.int .i64 ((rd_T109 l0_1 (ji49)).f0)) ∧ w'.cell? ⟨(ad123.add (((ji49)).toNat * 4)).block, (ad123.add (((ji49)).toNat * 4)).off + 1, none⟩ = some (.int .i64 ((rd_T109 l0_1 (ji49)).f1)) ∧ w'.cell? ⟨(ad123.add (((ji49)).toNat * 4)).block, (ad123.add (((ji49)).toNat * 4)).off + 2, none⟩ = some (.int .i64 ((rd_T109 l0_1 (ji49)).f2)) ∧ w'.cell? ⟨(ad123.add (((ji49)).toNat * 4)).block, (ad123.add (((ji49)).toNat * 4)).off + 3, none⟩ = some (.int .i32 ((rd_T109 l0_1 (ji49)).f3))) (ds := [9]) #[false, false, false, false, false, false, false, false, false, false] (by kernel_rfl) rfl rfl ⟨(blk_cell BK122.out 0).trans rfl, (blk_cell BK122.out 1).trans rfl, (blk_cell BK109.out 0).trans rfl, (blk_cell BK109.out 1).trans rfl, ((HB.out.cell (World.block_lt_of_cell? w _ hw123_0)).trans hw123_0), ((HB.out.cell (World.block_lt_of_cell? w _ hw123_1)).trans hw123_1), ((HB.out.cell (World.block_lt_of_cell? w _ hw123_2)).trans hw123_2), ((HB.out.cell (World.block_lt_of_cell? w _ hw123_3)).trans hw123_3)⟩ (fun hHeld => ?_);refine with_tabW pinfoldlaw10_hangs.tab6 pinfoldlaw10_hangs.bits6 (fun HT_ HW_ => ?_)
          generalize w174.drew = w175 at HO121 BK109 BK110 BK111 BK122 HB GG53 HQ176 hf53_0 hf53_1 hf53_2 hf53_3 hx123_0 hx123_1 hx123_2 hx123_3 hx53_0 hx53_1 hx53_2 hx53_3 hHeld ⊢
          refine pure_ (i := 0) (N := some 61) (v := ?_) (a' := ?_) #[true, false, false, false, false, false, false, false, false, false] rfl rfl (any_of HT_.out (by kernel_rfl)) (fun _ _ _ h => h) (Or.inl ⟨by rfl, ?_⟩) ?_ ?_
          rotate_left
          ·intro w'
           go_simp
           with_reducible rfl
          rotate_left
          ·simp only [Act.put, List.setIfInBounds_toArray, List.set_cons_zero, List.set_cons_succ, i64_w, i32_w]
           rfl
          refine pure_ (i := 2) (N := some 63) (v := ?_) (a' := ?_) #[true, false, true, false, false, false, false, false, false, false] rfl rfl (any_of HT_.out (by kernel_rfl)) (fun _ _ _ h => h) (Or.inl ⟨by rfl, ?_⟩) ?_ ?_
          rotate_left
          ·intro w'
           go_simp
           with_reducible rfl
          rotate_left
          ·simp only [Act.put, List.setIfInBounds_toArray, List.set_cons_zero, List.set_cons_succ, i64_w, i32_w]
           rfl
          refine pure_ (i := 3) (N := some 64) (v := ?_) (a' := ?_) #[true, false, true, true, false, false, false, false, false, false] rfl rfl (any_of HT_.out (by kernel_rfl)) (fun _ _ _ h => h) (Or.inl ⟨by rfl, ?_⟩) ?_ ?_
          rotate_left
          ·intro w'
           go_simp
           with_reducible rfl
          rotate_left
          ·simp only [Act.put, List.setIfInBounds_toArray, List.set_cons_zero, List.set_cons_succ, i64_w, i32_w]
           rfl
          refine pure_ (i := 5) (N := some 66) (v := ?_) (a' := ?_) #[true, false, true, true, false, true, false, false, false, false] rfl rfl (any_of HT_.out (by kernel_rfl)) (fun _ _ _ h => h) (Or.inl ⟨by rfl, ?_⟩) ?_ ?_
          rotate_left
          ·intro w'
           go_simp
           with_reducible rfl
          rotate_left
          ·simp only [Act.put, List.setIfInBounds_toArray, List.set_cons_zero, List.set_cons_succ, i64_w, i32_w]
           rfl
          refine take_ (i := 1) (N := some 62) (v := ?_) (a' := ?_) #[true, true, true, true, false, true, false, false, false, false] rfl rfl (take_ofW HT_.out HW_.out (by kernel_rfl)) (fun _ _ _ h => h) (Or.inl ⟨by rfl, ?_⟩) hHeld ?_ ?_
          rotate_left
          ·rintro w' ⟨s0, s1, s2, s3, s4, s5, s6, s7⟩
           go_simp
           with_reducible rfl
          rotate_left
          ·simp only [Act.put, List.setIfInBounds_toArray, List.set_cons_zero, List.set_cons_succ, i64_w, i32_w]
           rfl
          refine take_ (i := 4) (N := some 65) (v := ?_) (a' := ?_) #[true, true, true, true, true, true, false, false, false, false] rfl rfl (take_ofW HT_.out HW_.out (by kernel_rfl)) (fun _ _ _ h => h) (Or.inl ⟨by rfl, ?_⟩) hHeld ?_ ?_
          rotate_left
          ·rintro w' ⟨s0, s1, s2, s3, s4, s5, s6, s7⟩
           go_simp
           with_reducible rfl
          rotate_left
          ·simp only [Act.put, List.setIfInBounds_toArray, List.set_cons_zero, List.set_cons_succ, i64_w, i32_w]
           rfl
          refine pure_ (i := 6) (N := some 67) (v := ?_) (a' := ?_) #[true, true, true, true, true, true, true, false, false, false] rfl rfl (any_of HT_.out (by kernel_rfl)) (fun _ _ _ h => h) (Or.inl ⟨by rfl, ?_⟩) ?_ ?_
          rotate_left
          ·intro w'
           go_simp
           with_reducible rfl
          rotate_left
          ·simp only [Act.put, List.setIfInBounds_toArray, List.set_cons_zero, List.set_cons_succ, i64_w, i32_w]
           rfl
          refine take_ (i := 7) (N := some 68) (v := ?_) (a' := ?_) #[true, true, true, true, true, true, true, true, false, false] rfl rfl (take_ofW HT_.out HW_.out (by kernel_rfl)) (fun _ _ _ h => h) (Or.inl ⟨by rfl, ?_⟩) hHeld ?_ ?_
          rotate_left
          ·rintro w' ⟨s0, s1, s2, s3, s4, s5, s6, s7⟩
           go_simp
           with_reducible rfl
          rotate_left
          ·simp only [Act.put, List.setIfInBounds_toArray, List.set_cons_zero, List.set_cons_succ, i64_w, i32_w]
           rfl
          refine pure_ (i := 8) (N := some 69) (v := ?_) (a' := ?_) #[true, true, true, true, true, true, true, true, true, false] rfl rfl (any_of HT_.out (by kernel_rfl)) (fun _ _ _ h => h) (Or.inl ⟨by rfl, ?_⟩) ?_ ?_
          rotate_left
          ·intro w'
           go_simp
           with_reducible rfl
          rotate_left
          ·simp only [Act.put, List.setIfInBounds_toArray, List.set_cons_zero, List.set_cons_succ, i64_w, i32_w]
           rfl
          refine last_ (i := 9) (N := none) #[true, true, true, true, true, true, true, true, true, true] rfl rfl (one_of HT_.out (by kernel_rfl)) (by decide) (fun K hK => ?_)
          refine skip_ (w1 := ?_) (by rfl) rfl ?_ ?_
          rotate_left
          ·go_simp
           rfl
          refine hK.out _ _ ?_
          clear hK K
          refine done_ (done_of HT_.out (by kernel_rfl)) ?_
          have hnb177 := NB122_109.out
          have hnc177 := NB109_122.out
          have hnb178 := NB122_110.out
          have hnc178 := NB110_122.out
          have hnb179 := NB122_111.out
          have hnc179 := NB111_122.out
          have hcz180_0 : w175.cell? ⟨gb122, 0, none⟩ = some (.int .i64 a1_0) := (blk_cell BK122.out 0).trans rfl
          have hcz180_1 : w175.cell? ⟨gb122, 1, none⟩ = some (.slice (some ⟨go53, 0, none⟩) y119.length co171) := (blk_cell BK122.out 1).trans rfl
          have hfz180_0 := blk_frozen BK122.out 0
          have hfz180_1 := blk_frozen BK122.out 1
          have hx122 : gb122 ≠ go53 := by first|(have h_ := Kd.R_ne HO121.out BK122.out (by decide);intro e_;exact h_ (by rw [e_];rfl))|(have h_ := Kd.R_ne HO121.out BK122.out (by decide);intro e_;exact h_ (by rw [← e_];rfl))
          have hy122 := Ne.symm hx122
          have hx109 : gb109 ≠ go53 := by first|(have h_ := Kd.R_ne HO121.out BK109.out (by decide);intro e_;exact h_ (by rw [e_];rfl))|(have h_ := Kd.R_ne HO121.out BK109.out (by decide);intro e_;exact h_ (by rw [← e_];rfl))
          have hy109 := Ne.symm hx109
          have hx110 : gb110 ≠ go53 := by first|(have h_ := Kd.R_ne HO121.out BK110.out (by decide);intro e_;exact h_ (by rw [e_];rfl))|(have h_ := Kd.R_ne HO121.out BK110.out (by decide);intro e_;exact h_ (by rw [← e_];rfl))
          have hy110 := Ne.symm hx110
          have hx111 : gb111 ≠ go53 := by first|(have h_ := Kd.R_ne HO121.out BK111.out (by decide);intro e_;exact h_ (by rw [e_];rfl))|(have h_ := Kd.R_ne HO121.out BK111.out (by decide);intro e_;exact h_ (by rw [← e_];rfl))
          have hy111 := Ne.symm hx111
          try go_wp2_with (first|((with_reducible refine gate_callee (f := 62) rfl ?_);refine goesL_ (some 72) rfl rfl Try.func62 (by kernel_rfl) rfl #[.agg #[.int .i64 a1_0, .slice (some ⟨go53, 0, none⟩) y124.length co171]] rfl (by (try simp only [List.map_toArray, List.map_cons, List.map_nil]);first|done|(rw [show y124.length = y119.length from (Kd.R_reads' HQ176.out).1.symm] <;> rfl)|rfl|(simp only [List.length_drop, List.length_take];rfl)) ?_;(with_reducible refine (pinfoldref09_Check.calls a1_0 _ _ y124 t125 t126 _ ?side1 ?side2 A54.out).mono ?_);(case side1 => refine (Kd.R_reads' (e := 109) (base := w.heap.size) (ok := fun k_ => True) (n := y119.length) (c := co171) ?_).2.2;exact (by (with_reducible repeat (first|apply Kd.R_alloc|apply Kd.R_drewN|apply Kd.R_drew));exact HQ176.out));(case side2 => rw [show y124.length = y119.length from (Kd.R_reads' HQ176.out).1.symm];exact (Kd.R_reads' HO121.out).2.1);rintro e w181 ⟨rfl, hb⟩;refine ⟨_, rfl, ?_⟩;have n0_ := Aside0.mk (Kd.R_below (by (with_reducible repeat (first|apply Kd.R_alloc|apply Kd.R_drewN|apply Kd.R_drew));exact HQ176.out) hb);have n1_ := Aside0.mk (blk_below (g := gb109) (o := .cells #[.int .i64 a0_0, .slice (some ad123) l0_1.length c0_1] 43 (0, 0)) (by (with_reducible repeat (first|apply blk_drewN|apply blk_drew|apply blk_alloc));refine blk_far ?_ (by have h_ := Kd.R_ne HO121.out BK109.out (by decide);intro e_;exact h_ (by rw [e_];rfl)) _;(with_reducible repeat (first|apply blk_drewN|apply blk_drew|apply blk_alloc));refine blk_far ?_ (by have h_ := Kd.R_ne HO121.out BK109.out (by decide);intro e_;exact h_ (by rw [e_];rfl)) _;(with_reducible repeat (first|apply blk_drewN|apply blk_drew|apply blk_alloc));refine blk_far ?_ (by have h_ := Kd.R_ne HO121.out BK109.out (by decide);intro e_;exact h_ (by rw [e_];rfl)) _;(with_reducible repeat (first|apply blk_drewN|apply blk_drew|apply blk_alloc));refine blk_far ?_ (by have h_ := Kd.R_ne HO121.out BK109.out (by decide);intro e_;exact h_ (by rw [e_];rfl)) _;(with_reducible repeat (first|apply blk_drewN|apply blk_drew|apply blk_alloc));exact BK109.out) hb);have n2_ := Aside0.mk (blk_below (g := gb110) (o := .cells #[.int .i64 a1_0, .slice A1_1 l1_1.length c1_1] 43 (0, 0)) (by (with_reducible repeat (first|apply blk_drewN|apply blk_drew|apply blk_alloc));refine blk_far ?_ (by have h_ := Kd.R_ne HO121.out BK110.out (by decide);intro e_;exact h_ (by rw [e_];rfl)) _;(with_reducible repeat (first|apply blk_drewN|apply blk_drew|apply blk_alloc));refine blk_far ?_ (by have h_ := Kd.R_ne HO121.out BK110.out (by decide);intro e_;exact h_ (by rw [e_];rfl)) _;(with_reducible repeat (first|apply blk_drewN|apply blk_drew|apply blk_alloc));refine blk_far ?_ (by have h_ := Kd.R_ne HO121.out BK110.out (by decide);intro e_;exact h_ (by rw [e_];rfl)) _;(with_reducible repeat (first|apply blk_drewN|apply blk_drew|apply blk_alloc));refine blk_far ?_ (by have h_ := Kd.R_ne HO121.out BK110.out (by decide);intro e_;exact h_ (by rw [e_];rfl)) _;(with_reducible repeat (first|apply blk_drewN|apply blk_drew|apply blk_alloc));exact BK110.out) hb);have n3_ := Aside0.mk (blk_below (g := gb111) (o := .cells #[.int .i32 a3_0, .int .i32 a3_1, .int .i32 a3_2, .int .i32 a3_3] 44 (0, 0)) (by (with_reducible repeat (first|apply blk_drewN|apply blk_drew|apply blk_alloc));refine blk_far ?_ (by have h_ := Kd.R_ne HO121.out BK111.out (by decide);intro e_;exact h_ (by rw [e_];rfl)) _;(with_reducible repeat (first|apply blk_drewN|apply blk_drew|apply blk_alloc));refine blk_far ?_ (by have h_ := Kd.R_ne HO121.out BK111.out (by decide);intro e_;exact h_ (by rw [e_];rfl)) _;(with_reducible repeat (first|apply blk_drewN|apply blk_drew|apply blk_alloc));refine blk_far ?_ (by have h_ := Kd.R_ne HO121.out BK111.out (by decide);intro e_;exact h_ (by rw [e_];rfl)) _;(with_reducible repeat (first|apply blk_drewN|apply blk_drew|apply blk_alloc));refine blk_far ?_ (by have h_ := Kd.R_ne HO121.out BK111.out (by decide);intro e_;exact h_ (by rw [e_];rfl)) _;(with_reducible repeat (first|apply blk_drewN|apply blk_drew|apply blk_alloc));exact BK111.out) hb);have n4_ := Aside0.mk (blk_below (g := gb122) (o := .cells #[.int .i64 a1_0, .slice (some ⟨go53, 0, none⟩) y119.length co171] 43 (0, 0)) (by (with_reducible repeat (first|apply blk_drewN|apply blk_drew|apply blk_alloc));refine blk_far ?_ (by have h_ := Kd.R_ne HO121.out BK122.out (by decide);intro e_;exact h_ (by rw [e_];rfl)) _;(with_reducible repeat (first|apply blk_drewN|apply blk_drew|apply blk_alloc));refine blk_far ?_ (by have h_ := Kd.R_ne HO121.out BK122.out (by decide);intro e_;exact h_ (by rw [e_];rfl)) _;(with_reducible repeat (first|apply blk_drewN|apply blk_drew|apply blk_alloc));refine blk_far ?_ (by have h_ := Kd.R_ne HO121.out BK122.out (by decide);intro e_;exact h_ (by rw [e_];rfl)) _;(with_reducible repeat (first|apply blk_drewN|apply blk_drew|apply blk_alloc));refine blk_far ?_ (by have h_ := Kd.R_ne HO121.out BK122.out (by decide);intro e_;exact h_ (by rw [e_];rfl)) _;(with_reducible repeat (first|apply blk_drewN|apply blk_drew|apply blk_alloc));exact BK122.out) hb);have n5_ := Aside0.mk (below_step (by repeat (first|(with_reducible first|exact HB.out|apply xa|apply xb|apply xc|refine below_set ?_ GB53.out|refine below_set ?_ GB53.out|refine below_set ?_ GB53.out|refine below_set ?_ GB53.out|refine below_set ?_ GE109.out|refine below_set ?_ GE110.out|refine below_set ?_ GE111.out|refine below_set ?_ GE122.out)|exact HB.out)) hb);clear HO121;clear BK109;clear BK110;clear BK111;clear BK122;clear HB;have HO121 := n0_;have BK109 := n1_;have BK110 := n2_;have BK111 := n3_;have BK122 := n4_;have HB := n5_;clear n0_ n1_ n2_ n3_ n4_ n5_;(try clear hb);(try clear hb2);(try clear hk);(try clear hi)))
          go_ret
          exact ⟨by first|rfl|(simp [errW_none, errW_some] <;> rfl)|(simp only [← hji49];first|rfl|(simp [errW_none, errW_some] <;> rfl))|(simp [*, errW_none, errW_some] <;> rfl), by repeat (first|(with_reducible first|exact HB.out|apply xa|apply xb|apply xc|refine below_set ?_ GE109.out|refine below_set ?_ GE110.out|refine below_set ?_ GE111.out|refine below_set ?_ GE122.out)|exact HB.out)⟩
        ·rw [if_neg c52] at H
         exact absurd H (by simp)
       ·rw [if_neg c51] at H
        exact absurd H (by simp)
      ·rw [if_neg c50] at H
       exact absurd H (by simp)
     ·rw [if_neg c48] at H
      exact absurd H (by simp)

end Go.Proofs.Ytkegdcnnankokaa.PLint
