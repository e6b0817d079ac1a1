/- Functions of the program as Lean functions, and proofs that the code comes to their answers: printed by this session's program. -/
import Derived.Test.YtkegdcnnankokaaGDraw
import Derived.Test.YtkegdcnnankokaaGSpans
import Derived.Test.YtkegdcnnankokaaPGanx0
import Derived.Test.YtkegdcnnankokaaPGanx1
import Derived.Test.YtkegdcnnankokaaPGanx3
namespace Go.Proofs.Ytkegdcnnankokaa.PGan
open Go.RowKit Go.Proofs.YtkegdcnnankokaaW.PrintWords Go.Proofs.YtkegdcnnankokaaW.PrintLast Go.Proofs.YtkegdcnnankokaaW.PrintMore
attribute [local go_sem] max2_int min2_int max_two min_two max_three min_three max_four min_four   -- for this text's walks alone
set_option linter.unusedVariables false
set_option linter.unusedSimpArgs false

attribute [local go_sem high] eqA27
-- GIVEN 18 gantt_Draw

/-! ### pinfoldlaw30_lives: function 17 -/
def pinfoldlaw30_lives.f  : Option (Bool) := (some (([(⟨2, 3, 1, 0, 0⟩ : S36), (⟨3, 3, 1, 0, 0⟩ : S36), (⟨3, 3, 1, 0, 0⟩ : S36), (⟨4, 3, 1, 0, 0⟩ : S36)] : List (S36)) : List (S36))).bind fun y115 => ((gantt_Spans.f y115).bind fun t118 => ((gantt_Draw.f y115 (([1] : List Int)) 4).bind fun t124 => (if (t118.length : Int) = 1 then (if 0 < (t118.length : Int) then (if (((rd_T27 t118 0).f0) == 3 && (((rd_T27 t118 0).f1) == 1 && (((rd_T27 t118 0).f2) == 0 && (((rd_T27 t118 0).f3) == 3 && (((rd_T27 t118 0).f4) == 2))))) = true then (if (t124.length : Int) = 1 then (if 0 < (t124.length : Int) then (some ((rdOf ByteArray.empty t124 0).toList == ([49, 32, 46, 51, 51, 46] : List UInt8))) else (none)) else (some false)) else (some false)) else (none)) else (some false))))
set_option maxHeartbeats 8000000 in
set_option maxRecDepth 100000 in
theorem pinfoldlaw30_lives.calls  (r : Bool) (w : World) (h : pinfoldlaw30_lives.f  = some r) :
  Calls Try.prog 17 #[] w fun e w' => e = .returned (.bool r) ∧ Below w.heap.size w w' := by
 have hu36 := Try.underlying36
 have hu27 := Try.underlying27
 have HB := Aside0.mk (Below.refl w.heap.size w)
 have H : ((some (([(⟨2, 3, 1, 0, 0⟩ : S36), (⟨3, 3, 1, 0, 0⟩ : S36), (⟨3, 3, 1, 0, 0⟩ : S36), (⟨4, 3, 1, 0, 0⟩ : S36)] : List (S36)) : List (S36))).bind fun y115 => ((gantt_Spans.f y115).bind fun t118 => ((gantt_Draw.f y115 (([1] : List Int)) 4).bind fun t124 => (if (t118.length : Int) = 1 then (if 0 < (t118.length : Int) then (if (((rd_T27 t118 0).f0) == 3 && (((rd_T27 t118 0).f1) == 1 && (((rd_T27 t118 0).f2) == 0 && (((rd_T27 t118 0).f3) == 3 && (((rd_T27 t118 0).f4) == 2))))) = true then (if (t124.length : Int) = 1 then (if 0 < (t124.length : Int) then (some ((rdOf ByteArray.empty t124 0).toList == ([49, 32, 46, 51, 51, 46] : List UInt8))) else (none)) else (some false)) else (some false)) else (none)) else (some false))))) = some r := h
 clear h
 obtain ⟨y115, hy115⟩ : ∃ y_ : List (S36), y_ = (([(⟨2, 3, 1, 0, 0⟩ : S36), (⟨3, 3, 1, 0, 0⟩ : S36), (⟨3, 3, 1, 0, 0⟩ : S36), (⟨4, 3, 1, 0, 0⟩ : S36)] : List (S36))) := ⟨_, rfl⟩
 replace H : ((gantt_Spans.f y115).bind fun t118 => ((gantt_Draw.f y115 (([1] : List Int)) 4).bind fun t124 => (if (t118.length : Int) = 1 then (if 0 < (t118.length : Int) then (if (((rd_T27 t118 0).f0) == 3 && (((rd_T27 t118 0).f1) == 1 && (((rd_T27 t118 0).f2) == 0 && (((rd_T27 t118 0).f3) == 3 && (((rd_T27 t118 0).f4) == 2))))) = true then (if (t124.length : Int) = 1 then (if 0 < (t124.length : Int) then (some ((rdOf ByteArray.empty t124 0).toList == ([49, 32, 46, 51, 51, 46] : List UInt8))) else (none)) else (some false)) else (some false)) else (none)) else (some false)))) = some r := by first|(rw [hy115];with_reducible exact H)|(have H2_ := (Option.bind_some _ _).symm.trans H;rw [hy115];with_reducible exact H2_)|(have H2_ := (Option.bind_some _ _).symm.trans H;with_reducible exact H2_)|with_reducible exact H|(rw [hy115];exact H)|exact H
 have Ny115 := Aside0.mk hy115
 clear hy115
 replace H := Option.bind_eq_some_iff.mp H
 obtain ⟨t118, A10, H⟩ := H
 replace H : ((gantt_Draw.f y115 (([1] : List Int)) 4).bind fun t124 => (if (t118.length : Int) = 1 then (if 0 < (t118.length : Int) then (if (((rd_T27 t118 0).f0) == 3 && (((rd_T27 t118 0).f1) == 1 && (((rd_T27 t118 0).f2) == 0 && (((rd_T27 t118 0).f3) == 3 && (((rd_T27 t118 0).f4) == 2))))) = true then (if (t124.length : Int) = 1 then (if 0 < (t124.length : Int) then (some ((rdOf ByteArray.empty t124 0).toList == ([49, 32, 46, 51, 51, 46] : List UInt8))) else (none)) else (some false)) else (some false)) else (none)) else (some false))) = some r := H
 have A1 := Aside0.mk A10
 clear A10
 obtain ⟨y121, hy121⟩ : ∃ y_ : List Int, y_ = (([1] : List Int)) := ⟨_, rfl⟩
 replace H : ((gantt_Draw.f y115 y121 4).bind fun t124 => (if (t118.length : Int) = 1 then (if 0 < (t118.length : Int) then (if (((rd_T27 t118 0).f0) == 3 && (((rd_T27 t118 0).f1) == 1 && (((rd_T27 t118 0).f2) == 0 && (((rd_T27 t118 0).f3) == 3 && (((rd_T27 t118 0).f4) == 2))))) = true then (if (t124.length : Int) = 1 then (if 0 < (t124.length : Int) then (some ((rdOf ByteArray.empty t124 0).toList == ([49, 32, 46, 51, 51, 46] : List UInt8))) else (none)) else (some false)) else (some false)) else (none)) else (some false))) = some r := by first|(rw [hy121];with_reducible exact H)|(have H2_ := (Option.bind_some _ _).symm.trans H;rw [hy121];with_reducible exact H2_)|(have H2_ := (Option.bind_some _ _).symm.trans H;with_reducible exact H2_)|with_reducible exact H|(rw [hy121];exact H)|exact H
 have Ny121 := Aside0.mk hy121
 clear hy121
 replace H := Option.bind_eq_some_iff.mp H
 obtain ⟨t124, A20, H⟩ := H
 replace H : (if (t118.length : Int) = 1 then (if 0 < (t118.length : Int) then (if (((rd_T27 t118 0).f0) == 3 && (((rd_T27 t118 0).f1) == 1 && (((rd_T27 t118 0).f2) == 0 && (((rd_T27 t118 0).f3) == 3 && (((rd_T27 t118 0).f4) == 2))))) = true then (if (t124.length : Int) = 1 then (if 0 < (t124.length : Int) then (some ((rdOf ByteArray.empty t124 0).toList == ([49, 32, 46, 51, 51, 46] : List UInt8))) else (none)) else (some false)) else (some false)) else (none)) else (some false)) = some r := H
 have A2 := Aside0.mk A20
 clear A20
 by_cases c3 : (t118.length : Int) = 1
 ·rw [if_pos c3] at H
  have c3b0 : ((t118.length : Int) == 1) = true := beq_iff_eq.mpr c3
  have c3b1 : ((t118.length : Int) != 1) = false := bne_eq_false_iff_eq.mpr c3
  clear c3
  by_cases c4 : 0 < (t118.length : Int)
  ·rw [if_pos c4] at H
   have c4b0 : decide (0 < (t118.length : Int)) = true := decide_eq_true c4
   have c4b1 : decide (0 < t118.length) = true := decide_eq_true (by omega)
   clear c4
   by_cases c5 : (((rd_T27 t118 0).f0) == 3 && (((rd_T27 t118 0).f1) == 1 && (((rd_T27 t118 0).f2) == 0 && (((rd_T27 t118 0).f3) == 3 && (((rd_T27 t118 0).f4) == 2))))) = true
   ·rw [if_pos c5] at H
    have c5b0 : (((rd_T27 t118 0).f0) == 3 && (((rd_T27 t118 0).f1) == 1 && (((rd_T27 t118 0).f2) == 0 && (((rd_T27 t118 0).f3) == 3 && (((rd_T27 t118 0).f4) == 2))))) = true := c5
    (try (have c5b1 : decide (((rd_T27 t118 0).f0) = 3 && (((rd_T27 t118 0).f1) == 1 && (((rd_T27 t118 0).f2) == 0 && (((rd_T27 t118 0).f3) == 3 && (((rd_T27 t118 0).f4) == 2))))) = true := by simpa using c5))
    (try (have c5b2 : (((rd_T27 t118 0).f0) == 3 && (((rd_T27 t118 0).f1) == 1 && (((rd_T27 t118 0).f2) == 0 && (((rd_T27 t118 0).f3) == 3 && (((rd_T27 t118 0).f4) == 2))))) = true := by simpa using c5))
    clear c5
    by_cases c6 : (t124.length : Int) = 1
    ·rw [if_pos c6] at H
     have c6b0 : ((t124.length : Int) == 1) = true := beq_iff_eq.mpr c6
     have c6b1 : ((t124.length : Int) != 1) = false := bne_eq_false_iff_eq.mpr c6
     clear c6
     by_cases c7 : 0 < (t124.length : Int)
     ·rw [if_pos c7] at H
      have c7b0 : decide (0 < (t124.length : Int)) = true := decide_eq_true c7
      have c7b1 : decide (0 < t124.length) = true := decide_eq_true (by omega)
      clear c7
      obtain rfl := Option.some.inj H
      go_enter Try.func17, Try.ntmps17
      go_wp2_with (first|((with_reducible refine gate_dst (N := 8) rfl ?_);(try (refine gate_guard (by rfl) ?_;dsimp only));refine Kd.R_lit k36 _ 36 ?hg (N := 8) ?hd (xs := ([(⟨2, 3, 1, 0, 0⟩ : S36), (⟨3, 3, 1, 0, 0⟩ : S36), (⟨3, 3, 1, 0, 0⟩ : S36), (⟨4, 3, 1, 0, 0⟩ : S36)] : List (S36))) (inner := [.int .i64 2, .int .i64 3, .int .i64 1, .int .i64 0, .int .i64 0, .int .i64 3, .int .i64 3, .int .i64 1, .int .i64 0, .int .i64 0, .int .i64 3, .int .i64 3, .int .i64 1, .int .i64 0, .int .i64 0, .int .i64 4, .int .i64 3, .int .i64 1, .int .i64 0, .int .i64 0]) (ok := fun _ => True) (okp := fun _ => True) ?hr ?hp (fun _ hk => hk) trivial (Below.refl _ _) (Nat.le_refl _) (by simp) ?_;(case hd => rfl);(case hg => rfl);(case hr => first|(go_simp;done)|(go_simp;rfl));(case hp => exact (Reps.c5 (show Kd.M k36 _ _ _ (⟨2, 3, 1, 0, 0⟩ : S36) [.int .i64 2, .int .i64 3, .int .i64 1, .int .i64 0, .int .i64 0] from (k36_mkM _ _ _ (⟨2, 3, 1, 0, 0⟩ : S36) )) (Reps.c5 (show Kd.M k36 _ _ _ (⟨3, 3, 1, 0, 0⟩ : S36) [.int .i64 3, .int .i64 3, .int .i64 1, .int .i64 0, .int .i64 0] from (k36_mkM _ _ _ (⟨3, 3, 1, 0, 0⟩ : S36) )) (Reps.c5 (show Kd.M k36 _ _ _ (⟨3, 3, 1, 0, 0⟩ : S36) [.int .i64 3, .int .i64 3, .int .i64 1, .int .i64 0, .int .i64 0] from (k36_mkM _ _ _ (⟨3, 3, 1, 0, 0⟩ : S36) )) (Reps.c5 (show Kd.M k36 _ _ _ (⟨4, 3, 1, 0, 0⟩ : S36) [.int .i64 4, .int .i64 3, .int .i64 1, .int .i64 0, .int .i64 0] from (k36_mkM _ _ _ (⟨4, 3, 1, 0, 0⟩ : S36) )) (Reps.none _ _))))));intro v116 w8 ho9 hb hg_ hnew_;clear hg_ hnew_;(first|rw [← Ny115.out] at ho9|(simp only [Int.reduceToNat] at ho9;rw [← Ny115.out] at ho9));have n0_ := Aside0.mk (Kd.R_lower ho9 (below_size (by repeat (with_reducible first|exact HB.out|apply xa|apply xb|apply xc))));have n1_ := Aside0.mk (below_step (by repeat (with_reducible first|exact HB.out|apply xa|apply xb|apply xc)) hb);clear HB;have HO117 := n0_;have HB := n1_;clear n0_ n1_;clear hb ho9;obtain ⟨Ao10, co10, eo10⟩ := Kd.R_slice HO117.out;subst eo10)|((with_reducible refine gate_callee (f := 15) rfl ?_);refine goesL_ (some 10) rfl rfl Try.func15 (by kernel_rfl) rfl #[.slice Ao10 y115.length co10] rfl (by (try simp only [List.map_toArray, List.map_cons, List.map_nil]);first|done|rfl|(simp only [List.length_drop, List.length_take];rfl)) ?_;(with_reducible refine (gantt_Spans.calls _ _ y115 t118 _ ?side1 ?side2 A1.out).mono ?_);(case side1 => repeat (first|exact (Kd.R_reads' HO117.out).2.2|(with_reducible refine Kd.C_alloc ?_ _)|(with_reducible refine Kd.C_drewN ?_ _)|(with_reducible refine Kd.C_drew ?_)));(case side2 => exact (Kd.R_reads' HO117.out).2.1);rintro e w11 ⟨v119, rfl, ho0, hb⟩;refine ⟨_, rfl, ?_⟩;have n0_ := Aside0.mk (Kd.R_below (by (with_reducible repeat (first|apply Kd.R_alloc|apply Kd.R_drewN|apply Kd.R_drew));exact HO117.out) hb);have n1_ := Aside0.mk (Kd.R_lower ho0 (below_size (by repeat (with_reducible first|exact HB.out|apply xa|apply xb|apply xc))));have n2_ := Aside0.mk (below_step (by repeat (with_reducible first|exact HB.out|apply xa|apply xb|apply xc)) hb);clear HO117;clear HB;have HO117 := n0_;have HO120 := n1_;have HB := n2_;clear n0_ n1_ n2_;(try clear hb);(try clear hb2);(try clear hk);(try clear hi);(try clear ho0))|((with_reducible refine gate_dst (N := 12) rfl ?_);(try (refine gate_guard (by rfl) ?_;dsimp only));refine Kd.R_lit (Kd.int .i64) _ 3 ?hg (N := 12) ?hd (xs := ([1] : List Int)) (inner := [.int .i64 1]) (ok := fun _ => True) (okp := fun _ => True) ?hr ?hp (fun _ hk => hk) trivial (Below.refl _ _) (Nat.le_refl _) (by simp) ?_;(case hd => rfl);(case hg => rfl);(case hr => first|(go_simp;done)|(go_simp;rfl));(case hp => exact (Reps.one (show Kd.M (Kd.int .i64) _ _ _ 1 [.int .i64 1] from rfl) (Reps.none _ _)));intro v122 w12 ho13 hb hg_ hnew_;clear hg_ hnew_;(first|rw [← Ny121.out] at ho13|(simp only [Int.reduceToNat] at ho13;rw [← Ny121.out] at ho13));have n0_ := Aside0.mk (Kd.R_below (by (with_reducible repeat (first|apply Kd.R_alloc|apply Kd.R_drewN|apply Kd.R_drew));exact HO117.out) hb);have n1_ := Aside0.mk (Kd.R_below (by (with_reducible repeat (first|apply Kd.R_alloc|apply Kd.R_drewN|apply Kd.R_drew));exact HO120.out) hb);have n2_ := Aside0.mk (Kd.R_lower ho13 (below_size (by repeat (with_reducible first|exact HB.out|apply xa|apply xb|apply xc))));have n3_ := Aside0.mk (below_step (by repeat (with_reducible first|exact HB.out|apply xa|apply xb|apply xc)) hb);clear HO117;clear HO120;clear HB;have HO117 := n0_;have HO120 := n1_;have HO123 := n2_;have HB := n3_;clear n0_ n1_ n2_ n3_;clear hb ho13;obtain ⟨Ao14, co14, eo14⟩ := Kd.R_slice HO123.out;subst eo14)|((with_reducible refine gate_callee (f := 18) rfl ?_);refine goesL_ (some 13) rfl rfl Try.func18 (by kernel_rfl) rfl #[.slice Ao10 y115.length co10, .slice Ao14 y121.length co14, .int .i64 4] rfl (by (try simp only [List.map_toArray, List.map_cons, List.map_nil]);first|done|rfl|(simp only [List.length_drop, List.length_take];rfl)) ?_;(with_reducible refine (gantt_Draw.calls _ _ y115 _ _ y121 4 t124 _ ?side1 ?side2 ?side3 ?side4 A2.out).mono ?_);(case side1 => repeat (first|exact (Kd.R_reads' HO117.out).2.2|(with_reducible refine Kd.C_alloc ?_ _)|(with_reducible refine Kd.C_drewN ?_ _)|(with_reducible refine Kd.C_drew ?_)));(case side2 => exact (Kd.R_reads' HO117.out).2.1);(case side3 => repeat (first|exact (Kd.R_reads' HO123.out).2.2|(with_reducible refine Kd.C_alloc ?_ _)|(with_reducible refine Kd.C_drewN ?_ _)|(with_reducible refine Kd.C_drew ?_)));(case side4 => exact (Kd.R_reads' HO123.out).2.1);rintro e w15 ⟨v125, rfl, ho0, hb⟩;refine ⟨_, rfl, ?_⟩;have n0_ := Aside0.mk (Kd.R_below (by (with_reducible repeat (first|apply Kd.R_alloc|apply Kd.R_drewN|apply Kd.R_drew));exact HO117.out) hb);have n1_ := Aside0.mk (Kd.R_below (by (with_reducible repeat (first|apply Kd.R_alloc|apply Kd.R_drewN|apply Kd.R_drew));exact HO120.out) hb);have n2_ := Aside0.mk (Kd.R_below (by (with_reducible repeat (first|apply Kd.R_alloc|apply Kd.R_drewN|apply Kd.R_drew));exact HO123.out) hb);have n3_ := Aside0.mk (Kd.R_lower ho0 (below_size (by repeat (with_reducible first|exact HB.out|apply xa|apply xb|apply xc))));have n4_ := Aside0.mk (below_step (by repeat (with_reducible first|exact HB.out|apply xa|apply xb|apply xc)) hb);clear HO117;clear HO120;clear HO123;clear HB;have HO117 := n0_;have HO120 := n1_;have HO123 := n2_;have HO126 := n3_;have HB := n4_;clear n0_ n1_ n2_ n3_ n4_;(try clear hb);(try clear hb2);(try clear hk);(try clear hi);(try clear ho0);obtain ⟨Ao16, co16, eo16⟩ := Kd.R_slice HO120.out;subst eo16;have p127 : 0 ≤ (0 : Int) := (by omega);have q127 : 0 < (t118.length : Int) := of_decide_eq_true (by assumption);obtain ⟨ad127, e127, hx127_0, hx127_1, hx127_2, hx127_3, hx127_4⟩ := at_T27 (Kd.R_reads' HO120.out).2.2 0 p127 q127;cases e127;have qi127 : (0 < t118.length) = True := eq_true (by omega);(try rw [show ((0 : Int)).toNat = 0 from rfl] at hx127_0);(try rw [show 0 * 5 = 0 from rfl] at hx127_0);(try rw [Addr.add_zero'] at hx127_0);(try rw [show ((0 : Int)).toNat = 0 from rfl] at hx127_1);(try rw [show 0 * 5 = 0 from rfl] at hx127_1);(try rw [Addr.add_zero'] at hx127_1);(try rw [show ((0 : Int)).toNat = 0 from rfl] at hx127_2);(try rw [show 0 * 5 = 0 from rfl] at hx127_2);(try rw [Addr.add_zero'] at hx127_2);(try rw [show ((0 : Int)).toNat = 0 from rfl] at hx127_3);(try rw [show 0 * 5 = 0 from rfl] at hx127_3);(try rw [Addr.add_zero'] at hx127_3);(try rw [show ((0 : Int)).toNat = 0 from rfl] at hx127_4);(try rw [show 0 * 5 = 0 from rfl] at hx127_4);(try rw [Addr.add_zero'] at hx127_4);replace p127 := eq_true p127;replace q127 := eq_true q127;obtain ⟨Ao17, co17, eo17⟩ := Kd.R_slice HO126.out;subst eo17;have p128 : 0 ≤ (0 : Int) := (by omega);have q128 : 0 < (t124.length : Int) := of_decide_eq_true (by assumption);obtain ⟨ad128, e128, hx128_0⟩ := Kd.at_string (Kd.R_reads' HO126.out).2.2 0 p128 q128;cases e128;have qi128 : (0 < t124.length) = True := eq_true (by omega);(try rw [show ((0 : Int)).toNat = 0 from rfl] at hx128_0);(try rw [Addr.add_zero'] at hx128_0);replace p128 := eq_true p128;replace q128 := eq_true q128))
      go_ret
      exact ⟨by first|rfl|(simp [errW_none, errW_some] <;> rfl)|(simp [*, errW_none, errW_some] <;> rfl), by repeat (with_reducible first|exact HB.out|apply xa|apply xb|apply xc)⟩
     ·rw [if_neg c7] at H
      exact absurd H (by simp)
    ·rw [if_neg c6] at H
     have c6b0 : ((t124.length : Int) == 1) = false := beq_eq_false_iff_ne.mpr c6
     have c6b1 : ((t124.length : Int) != 1) = true := bne_iff_ne.mpr c6
     obtain rfl := Option.some.inj H
     go_enter Try.func17, Try.ntmps17
     go_wp2_with (first|((with_reducible refine gate_dst (N := 8) rfl ?_);(try (refine gate_guard (by rfl) ?_;dsimp only));refine Kd.R_lit k36 _ 36 ?hg (N := 8) ?hd (xs := ([(⟨2, 3, 1, 0, 0⟩ : S36), (⟨3, 3, 1, 0, 0⟩ : S36), (⟨3, 3, 1, 0, 0⟩ : S36), (⟨4, 3, 1, 0, 0⟩ : S36)] : List (S36))) (inner := [.int .i64 2, .int .i64 3, .int .i64 1, .int .i64 0, .int .i64 0, .int .i64 3, .int .i64 3, .int .i64 1, .int .i64 0, .int .i64 0, .int .i64 3, .int .i64 3, .int .i64 1, .int .i64 0, .int .i64 0, .int .i64 4, .int .i64 3, .int .i64 1, .int .i64 0, .int .i64 0]) (ok := fun _ => True) (okp := fun _ => True) ?hr ?hp (fun _ hk => hk) trivial (Below.refl _ _) (Nat.le_refl _) (by simp) ?_;(case hd => rfl);(case hg => rfl);(case hr => first|(go_simp;done)|(go_simp;rfl));(case hp => exact (Reps.c5 (show Kd.M k36 _ _ _ (⟨2, 3, 1, 0, 0⟩ : S36) [.int .i64 2, .int .i64 3, .int .i64 1, .int .i64 0, .int .i64 0] from (k36_mkM _ _ _ (⟨2, 3, 1, 0, 0⟩ : S36) )) (Reps.c5 (show Kd.M k36 _ _ _ (⟨3, 3, 1, 0, 0⟩ : S36) [.int .i64 3, .int .i64 3, .int .i64 1, .int .i64 0, .int .i64 0] from (k36_mkM _ _ _ (⟨3, 3, 1, 0, 0⟩ : S36) )) (Reps.c5 (show Kd.M k36 _ _ _ (⟨3, 3, 1, 0, 0⟩ : S36) [.int .i64 3, .int .i64 3, .int .i64 1, .int .i64 0, .int .i64 0] from (k36_mkM _ _ _ (⟨3, 3, 1, 0, 0⟩ : S36) )) (Reps.c5 (show Kd.M k36 _ _ _ (⟨4, 3, 1, 0, 0⟩ : S36) [.int .i64 4, .int .i64 3, .int .i64 1, .int .i64 0, .int .i64 0] from (k36_mkM _ _ _ (⟨4, 3, 1, 0, 0⟩ : S36) )) (Reps.none _ _))))));intro v116 w18 ho19 hb hg_ hnew_;clear hg_ hnew_;(first|rw [← Ny115.out] at ho19|(simp only [Int.reduceToNat] at ho19;rw [← Ny115.out] at ho19));have n0_ := Aside0.mk (Kd.R_lower ho19 (below_size (by repeat (with_reducible first|exact HB.out|apply xa|apply xb|apply xc))));have n1_ := Aside0.mk (below_step (by repeat (with_reducible first|exact HB.out|apply xa|apply xb|apply xc)) hb);clear HB;have HO117 := n0_;have HB := n1_;clear n0_ n1_;clear hb ho19;obtain ⟨Ao20, co20, eo20⟩ := Kd.R_slice HO117.out;subst eo20)|((with_reducible refine gate_callee (f := 15) rfl ?_);refine goesL_ (some 10) rfl rfl Try.func15 (by kernel_rfl) rfl #[.slice Ao20 y115.length co20] rfl (by (try simp only [List.map_toArray, List.map_cons, List.map_nil]);first|done|rfl|(simp only [List.length_drop, List.length_take];rfl)) ?_;(with_reducible refine (gantt_Spans.calls _ _ y115 t118 _ ?side1 ?side2 A1.out).mono ?_);(case side1 => repeat (first|exact (Kd.R_reads' HO117.out).2.2|(with_reducible refine Kd.C_alloc ?_ _)|(with_reducible refine Kd.C_drewN ?_ _)|(with_reducible refine Kd.C_drew ?_)));(case side2 => exact (Kd.R_reads' HO117.out).2.1);rintro e w21 ⟨v119, rfl, ho0, hb⟩;refine ⟨_, rfl, ?_⟩;have n0_ := Aside0.mk (Kd.R_below (by (with_reducible repeat (first|apply Kd.R_alloc|apply Kd.R_drewN|apply Kd.R_drew));exact HO117.out) hb);have n1_ := Aside0.mk (Kd.R_lower ho0 (below_size (by repeat (with_reducible first|exact HB.out|apply xa|apply xb|apply xc))));have n2_ := Aside0.mk (below_step (by repeat (with_reducible first|exact HB.out|apply xa|apply xb|apply xc)) hb);clear HO117;clear HB;have HO117 := n0_;have HO120 := n1_;have HB := n2_;clear n0_ n1_ n2_;(try clear hb);(try clear hb2);(try clear hk);(try clear hi);(try clear ho0))|((with_reducible refine gate_dst (N := 12) rfl ?_);(try (refine gate_guard (by rfl) ?_;dsimp only));refine Kd.R_lit (Kd.int .i64) _ 3 ?hg (N := 12) ?hd (xs := ([1] : List Int)) (inner := [.int .i64 1]) (ok := fun _ => True) (okp := fun _ => True) ?hr ?hp (fun _ hk => hk) trivial (Below.refl _ _) (Nat.le_refl _) (by simp) ?_;(case hd => rfl);(case hg => rfl);(case hr => first|(go_simp;done)|(go_simp;rfl));(case hp => exact (Reps.one (show Kd.M (Kd.int .i64) _ _ _ 1 [.int .i64 1] from rfl) (Reps.none _ _)));intro v122 w22 ho23 hb hg_ hnew_;clear hg_ hnew_;(first|rw [← Ny121.out] at ho23|(simp only [Int.reduceToNat] at ho23;rw [← Ny121.out] at ho23));have n0_ := Aside0.mk (Kd.R_below (by (with_reducible repeat (first|apply Kd.R_alloc|apply Kd.R_drewN|apply Kd.R_drew));exact HO117.out) hb);have n1_ := Aside0.mk (Kd.R_below (by (with_reducible repeat (first|apply Kd.R_alloc|apply Kd.R_drewN|apply Kd.R_drew));exact HO120.out) hb);have n2_ := Aside0.mk (Kd.R_lower ho23 (below_size (by repeat (with_reducible first|exact HB.out|apply xa|apply xb|apply xc))));have n3_ := Aside0.mk (below_step (by repeat (with_reducible first|exact HB.out|apply xa|apply xb|apply xc)) hb);clear HO117;clear HO120;clear HB;have HO117 := n0_;have HO120 := n1_;have HO123 := n2_;have HB := n3_;clear n0_ n1_ n2_ n3_;clear hb ho23;obtain ⟨Ao24, co24, eo24⟩ := Kd.R_slice HO123.out;subst eo24)|((with_reducible refine gate_callee (f := 18) rfl ?_);refine goesL_ (some 13) rfl rfl Try.func18 (by kernel_rfl) rfl #[.slice Ao20 y115.length co20, .slice Ao24 y121.length co24, .int .i64 4] rfl (by (try simp only [List.map_toArray, List.map_cons, List.map_nil]);first|done|rfl|(simp only [List.length_drop, List.length_take];rfl)) ?_;(with_reducible refine (gantt_Draw.calls _ _ y115 _ _ y121 4 t124 _ ?side1 ?side2 ?side3 ?side4 A2.out).mono ?_);(case side1 => repeat (first|exact (Kd.R_reads' HO117.out).2.2|(with_reducible refine Kd.C_alloc ?_ _)|(with_reducible refine Kd.C_drewN ?_ _)|(with_reducible refine Kd.C_drew ?_)));(case side2 => exact (Kd.R_reads' HO117.out).2.1);(case side3 => repeat (first|exact (Kd.R_reads' HO123.out).2.2|(with_reducible refine Kd.C_alloc ?_ _)|(with_reducible refine Kd.C_drewN ?_ _)|(with_reducible refine Kd.C_drew ?_)));(case side4 => exact (Kd.R_reads' HO123.out).2.1);rintro e w25 ⟨v125, rfl, ho0, hb⟩;refine ⟨_, rfl, ?_⟩;have n0_ := Aside0.mk (Kd.R_below (by (with_reducible repeat (first|apply Kd.R_alloc|apply Kd.R_drewN|apply Kd.R_drew));exact HO117.out) hb);have n1_ := Aside0.mk (Kd.R_below (by (with_reducible repeat (first|apply Kd.R_alloc|apply Kd.R_drewN|apply Kd.R_drew));exact HO120.out) hb);have n2_ := Aside0.mk (Kd.R_below (by (with_reducible repeat (first|apply Kd.R_alloc|apply Kd.R_drewN|apply Kd.R_drew));exact HO123.out) hb);have n3_ := Aside0.mk (Kd.R_lower ho0 (below_size (by repeat (with_reducible first|exact HB.out|apply xa|apply xb|apply xc))));have n4_ := Aside0.mk (below_step (by repeat (with_reducible first|exact HB.out|apply xa|apply xb|apply xc)) hb);clear HO117;clear HO120;clear HO123;clear HB;have HO117 := n0_;have HO120 := n1_;have HO123 := n2_;have HO126 := n3_;have HB := n4_;clear n0_ n1_ n2_ n3_ n4_;(try clear hb);(try clear hb2);(try clear hk);(try clear hi);(try clear ho0);obtain ⟨Ao26, co26, eo26⟩ := Kd.R_slice HO120.out;subst eo26;have p127 : 0 ≤ (0 : Int) := (by omega);have q127 : 0 < (t118.length : Int) := of_decide_eq_true (by assumption);obtain ⟨ad127, e127, hx127_0, hx127_1, hx127_2, hx127_3, hx127_4⟩ := at_T27 (Kd.R_reads' HO120.out).2.2 0 p127 q127;cases e127;have qi127 : (0 < t118.length) = True := eq_true (by omega);(try rw [show ((0 : Int)).toNat = 0 from rfl] at hx127_0);(try rw [show 0 * 5 = 0 from rfl] at hx127_0);(try rw [Addr.add_zero'] at hx127_0);(try rw [show ((0 : Int)).toNat = 0 from rfl] at hx127_1);(try rw [show 0 * 5 = 0 from rfl] at hx127_1);(try rw [Addr.add_zero'] at hx127_1);(try rw [show ((0 : Int)).toNat = 0 from rfl] at hx127_2);(try rw [show 0 * 5 = 0 from rfl] at hx127_2);(try rw [Addr.add_zero'] at hx127_2);(try rw [show ((0 : Int)).toNat = 0 from rfl] at hx127_3);(try rw [show 0 * 5 = 0 from rfl] at hx127_3);(try rw [Addr.add_zero'] at hx127_3);(try rw [show ((0 : Int)).toNat = 0 from rfl] at hx127_4);(try rw [show 0 * 5 = 0 from rfl] at hx127_4);(try rw [Addr.add_zero'] at hx127_4);replace p127 := eq_true p127;replace q127 := eq_true q127;obtain ⟨Ao27, co27, eo27⟩ := Kd.R_slice HO126.out;subst eo27))
     go_ret
     exact ⟨by first|rfl|(simp [errW_none, errW_some] <;> rfl)|(simp [*, errW_none, errW_some] <;> rfl), by repeat (with_reducible first|exact HB.out|apply xa|apply xb|apply xc)⟩
   ·rw [if_neg c5] at H
    have c5b0 : (((rd_T27 t118 0).f0) == 3 && (((rd_T27 t118 0).f1) == 1 && (((rd_T27 t118 0).f2) == 0 && (((rd_T27 t118 0).f3) == 3 && (((rd_T27 t118 0).f4) == 2))))) = false := by simpa using c5
    (try (have c5b1 : decide (((rd_T27 t118 0).f0) = 3 && (((rd_T27 t118 0).f1) == 1 && (((rd_T27 t118 0).f2) == 0 && (((rd_T27 t118 0).f3) == 3 && (((rd_T27 t118 0).f4) == 2))))) = false := by simpa using c5))
    (try (have c5b2 : (((rd_T27 t118 0).f0) == 3 && (((rd_T27 t118 0).f1) == 1 && (((rd_T27 t118 0).f2) == 0 && (((rd_T27 t118 0).f3) == 3 && (((rd_T27 t118 0).f4) == 2))))) = false := by simpa using c5))
    (try (have c5b3 : ¬ (((rd_T27 t118 0).f0) = 3 && (((rd_T27 t118 0).f1) == 1 && (((rd_T27 t118 0).f2) == 0 && (((rd_T27 t118 0).f3) == 3 && (((rd_T27 t118 0).f4) == 2))))) := by simpa using c5))
    clear c5
    obtain rfl := Option.some.inj H
    go_enter Try.func17, Try.ntmps17
    go_wp2_with (first|((with_reducible refine gate_dst (N := 8) rfl ?_);(try (refine gate_guard (by rfl) ?_;dsimp only));refine Kd.R_lit k36 _ 36 ?hg (N := 8) ?hd (xs := ([(⟨2, 3, 1, 0, 0⟩ : S36), (⟨3, 3, 1, 0, 0⟩ : S36), (⟨3, 3, 1, 0, 0⟩ : S36), (⟨4, 3, 1, 0, 0⟩ : S36)] : List (S36))) (inner := [.int .i64 2, .int .i64 3, .int .i64 1, .int .i64 0, .int .i64 0, .int .i64 3, .int .i64 3, .int .i64 1, .int .i64 0, .int .i64 0, .int .i64 3, .int .i64 3, .int .i64 1, .int .i64 0, .int .i64 0, .int .i64 4, .int .i64 3, .int .i64 1, .int .i64 0, .int .i64 0]) (ok := fun _ => True) (okp := fun _ => True) ?hr ?hp (fun _ hk => hk) trivial (Below.refl _ _) (Nat.le_refl _) (by simp) ?_;(case hd => rfl);(case hg => rfl);(case hr => first|(go_simp;done)|(go_simp;rfl));(case hp => exact (Reps.c5 (show Kd.M k36 _ _ _ (⟨2, 3, 1, 0, 0⟩ : S36) [.int .i64 2, .int .i64 3, .int .i64 1, .int .i64 0, .int .i64 0] from (k36_mkM _ _ _ (⟨2, 3, 1, 0, 0⟩ : S36) )) (Reps.c5 (show Kd.M k36 _ _ _ (⟨3, 3, 1, 0, 0⟩ : S36) [.int .i64 3, .int .i64 3, .int .i64 1, .int .i64 0, .int .i64 0] from (k36_mkM _ _ _ (⟨3, 3, 1, 0, 0⟩ : S36) )) (Reps.c5 (show Kd.M k36 _ _ _ (⟨3, 3, 1, 0, 0⟩ : S36) [.int .i64 3, .int .i64 3, .int .i64 1, .int .i64 0, .int .i64 0] from (k36_mkM _ _ _ (⟨3, 3, 1, 0, 0⟩ : S36) )) (Reps.c5 (show Kd.M k36 _ _ _ (⟨4, 3, 1, 0, 0⟩ : S36) [.int .i64 4, .int .i64 3, .int .i64 1, .int .i64 0, .int .i64 0] from (k36_mkM _ _ _ (⟨4, 3, 1, 0, 0⟩ : S36) )) (Reps.none _ _))))));intro v116 w28 ho29 hb hg_ hnew_;clear hg_ hnew_;(first|rw [← Ny115.out] at ho29|(simp only [Int.reduceToNat] at ho29;rw [← Ny115.out] at ho29));have n0_ := Aside0.mk (Kd.R_lower ho29 (below_size (by repeat (with_reducible first|exact HB.out|apply xa|apply xb|apply xc))));have n1_ := Aside0.mk (below_step (by repeat (with_reducible first|exact HB.out|apply xa|apply xb|apply xc)) hb);clear HB;have HO117 := n0_;have HB := n1_;clear n0_ n1_;clear hb ho29;obtain ⟨Ao30, co30, eo30⟩ := Kd.R_slice HO117.out;subst eo30)|((with_reducible refine gate_callee (f := 15) rfl ?_);refine goesL_ (some 10) rfl rfl Try.func15 (by kernel_rfl) rfl #[.slice Ao30 y115.length co30] rfl (by (try simp only [List.map_toArray, List.map_cons, List.map_nil]);first|done|rfl|(simp only [List.length_drop, List.length_take];rfl)) ?_;(with_reducible refine (gantt_Spans.calls _ _ y115 t118 _ ?side1 ?side2 A1.out).mono ?_);(case side1 => repeat (first|exact (Kd.R_reads' HO117.out).2.2|(with_reducible refine Kd.C_alloc ?_ _)|(with_reducible refine Kd.C_drewN ?_ _)|(with_reducible refine Kd.C_drew ?_)));(case side2 => exact (Kd.R_reads' HO117.out).2.1);rintro e w31 ⟨v119, rfl, ho0, hb⟩;refine ⟨_, rfl, ?_⟩;have n0_ := Aside0.mk (Kd.R_below (by (with_reducible repeat (first|apply Kd.R_alloc|apply Kd.R_drewN|apply Kd.R_drew));exact HO117.out) hb);have n1_ := Aside0.mk (Kd.R_lower ho0 (below_size (by repeat (with_reducible first|exact HB.out|apply xa|apply xb|apply xc))));have n2_ := Aside0.mk (below_step (by repeat (with_reducible first|exact HB.out|apply xa|apply xb|apply xc)) hb);clear HO117;clear HB;have HO117 := n0_;have HO120 := n1_;have HB := n2_;clear n0_ n1_ n2_;(try clear hb);(try clear hb2);(try clear hk);(try clear hi);(try clear ho0))|((with_reducible refine gate_dst (N := 12) rfl ?_);(try (refine gate_guard (by rfl) ?_;dsimp only));refine Kd.R_lit (Kd.int .i64) _ 3 ?hg (N := 12) ?hd (xs := ([1] : List Int)) (inner := [.int .i64 1]) (ok := fun _ => True) (okp := fun _ => True) ?hr ?hp (fun _ hk => hk) trivial (Below.refl _ _) (Nat.le_refl _) (by simp) ?_;(case hd => rfl);(case hg => rfl);(case hr => first|(go_simp;done)|(go_simp;rfl));(case hp => exact (Reps.one (show Kd.M (Kd.int .i64) _ _ _ 1 [.int .i64 1] from rfl) (Reps.none _ _)));intro v122 w32 ho33 hb hg_ hnew_;clear hg_ hnew_;(first|rw [← Ny121.out] at ho33|(simp only [Int.reduceToNat] at ho33;rw [← Ny121.out] at ho33));have n0_ := Aside0.mk (Kd.R_below (by (with_reducible repeat (first|apply Kd.R_alloc|apply Kd.R_drewN|apply Kd.R_drew));exact HO117.out) hb);have n1_ := Aside0.mk (Kd.R_below (by (with_reducible repeat (first|apply Kd.R_alloc|apply Kd.R_drewN|apply Kd.R_drew));exact HO120.out) hb);have n2_ := Aside0.mk (Kd.R_lower ho33 (below_size (by repeat (with_reducible first|exact HB.out|apply xa|apply xb|apply xc))));have n3_ := Aside0.mk (below_step (by repeat (with_reducible first|exact HB.out|apply xa|apply xb|apply xc)) hb);clear HO117;clear HO120;clear HB;have HO117 := n0_;have HO120 := n1_;have HO123 := n2_;have HB := n3_;clear n0_ n1_ n2_ n3_;clear hb ho33;obtain ⟨Ao34, co34, eo34⟩ := Kd.R_slice HO123.out;subst eo34)|((with_reducible refine gate_callee (f := 18) rfl ?_);refine goesL_ (some 13) rfl rfl Try.func18 (by kernel_rfl) rfl #[.slice Ao30 y115.length co30, .slice Ao34 y121.length co34, .int .i64 4] rfl (by (try simp only [List.map_toArray, List.map_cons, List.map_nil]);first|done|rfl|(simp only [List.length_drop, List.length_take];rfl)) ?_;(with_reducible refine (gantt_Draw.calls _ _ y115 _ _ y121 4 t124 _ ?side1 ?side2 ?side3 ?side4 A2.out).mono ?_);(case side1 => repeat (first|exact (Kd.R_reads' HO117.out).2.2|(with_reducible refine Kd.C_alloc ?_ _)|(with_reducible refine Kd.C_drewN ?_ _)|(with_reducible refine Kd.C_drew ?_)));(case side2 => exact (Kd.R_reads' HO117.out).2.1);(case side3 => repeat (first|exact (Kd.R_reads' HO123.out).2.2|(with_reducible refine Kd.C_alloc ?_ _)|(with_reducible refine Kd.C_drewN ?_ _)|(with_reducible refine Kd.C_drew ?_)));(case side4 => exact (Kd.R_reads' HO123.out).2.1);rintro e w35 ⟨v125, rfl, ho0, hb⟩;refine ⟨_, rfl, ?_⟩;have n0_ := Aside0.mk (Kd.R_below (by (with_reducible repeat (first|apply Kd.R_alloc|apply Kd.R_drewN|apply Kd.R_drew));exact HO117.out) hb);have n1_ := Aside0.mk (Kd.R_below (by (with_reducible repeat (first|apply Kd.R_alloc|apply Kd.R_drewN|apply Kd.R_drew));exact HO120.out) hb);have n2_ := Aside0.mk (Kd.R_below (by (with_reducible repeat (first|apply Kd.R_alloc|apply Kd.R_drewN|apply Kd.R_drew));exact HO123.out) hb);have n3_ := Aside0.mk (Kd.R_lower ho0 (below_size (by repeat (with_reducible first|exact HB.out|apply xa|apply xb|apply xc))));have n4_ := Aside0.mk (below_step (by repeat (with_reducible first|exact HB.out|apply xa|apply xb|apply xc)) hb);clear HO117;clear HO120;clear HO123;clear HB;have HO117 := n0_;have HO120 := n1_;have HO123 := n2_;have HO126 := n3_;have HB := n4_;clear n0_ n1_ n2_ n3_ n4_;(try clear hb);(try clear hb2);(try clear hk);(try clear hi);(try clear ho0);obtain ⟨Ao36, co36, eo36⟩ := Kd.R_slice HO120.out;subst eo36;have p127 : 0 ≤ (0 : Int) := (by omega);have q127 : 0 < (t118.length : Int) := of_decide_eq_true (by assumption);obtain ⟨ad127, e127, hx127_0, hx127_1, hx127_2, hx127_3, hx127_4⟩ := at_T27 (Kd.R_reads' HO120.out).2.2 0 p127 q127;cases e127;have qi127 : (0 < t118.length) = True := eq_true (by omega);(try rw [show ((0 : Int)).toNat = 0 from rfl] at hx127_0);(try rw [show 0 * 5 = 0 from rfl] at hx127_0);(try rw [Addr.add_zero'] at hx127_0);(try rw [show ((0 : Int)).toNat = 0 from rfl] at hx127_1);(try rw [show 0 * 5 = 0 from rfl] at hx127_1);(try rw [Addr.add_zero'] at hx127_1);(try rw [show ((0 : Int)).toNat = 0 from rfl] at hx127_2);(try rw [show 0 * 5 = 0 from rfl] at hx127_2);(try rw [Addr.add_zero'] at hx127_2);(try rw [show ((0 : Int)).toNat = 0 from rfl] at hx127_3);(try rw [show 0 * 5 = 0 from rfl] at hx127_3);(try rw [Addr.add_zero'] at hx127_3);(try rw [show ((0 : Int)).toNat = 0 from rfl] at hx127_4);(try rw [show 0 * 5 = 0 from rfl] at hx127_4);(try rw [Addr.add_zero'] at hx127_4);replace p127 := eq_true p127;replace q127 := eq_true q127))
    go_ret
    exact ⟨by first|rfl|(simp [errW_none, errW_some] <;> rfl)|(simp [*, errW_none, errW_some] <;> rfl), by repeat (with_reducible first|exact HB.out|apply xa|apply xb|apply xc)⟩
  ·rw [if_neg c4] at H
   exact absurd H (by simp)
 ·rw [if_neg c3] at H
  have c3b0 : ((t118.length : Int) == 1) = false := beq_eq_false_iff_ne.mpr c3
  have c3b1 : ((t118.length : Int) != 1) = true := bne_iff_ne.mpr c3
  obtain rfl := Option.some.inj H
  go_enter Try.func17, Try.ntmps17
  go_wp2_with (first|((with_reducible refine gate_dst (N := 8) rfl ?_);(try (refine gate_guard (by rfl) ?_;dsimp only));refine Kd.R_lit k36 _ 36 ?hg (N := 8) ?hd (xs := ([(⟨2, 3, 1, 0, 0⟩ : S36), (⟨3, 3, 1, 0, 0⟩ : S36), (⟨3, 3, 1, 0, 0⟩ : S36), (⟨4, 3, 1, 0, 0⟩ : S36)] : List (S36))) (inner := [.int .i64 2, .int .i64 3, .int .i64 1, .int .i64 0, .int .i64 0, .int .i64 3, .int .i64 3, .int .i64 1, .int .i64 0, .int .i64 0, .int .i64 3, .int .i64 3, .int .i64 1, .int .i64 0, .int .i64 0, .int .i64 4, .int .i64 3, .int .i64 1, .int .i64 0, .int .i64 0]) (ok := fun _ => True) (okp := fun _ => True) ?hr ?hp (fun _ hk => hk) trivial (Below.refl _ _) (Nat.le_refl _) (by simp) ?_;(case hd => rfl);(case hg => rfl);(case hr => first|(go_simp;done)|(go_simp;rfl));(case hp => exact (Reps.c5 (show Kd.M k36 _ _ _ (⟨2, 3, 1, 0, 0⟩ : S36) [.int .i64 2, .int .i64 3, .int .i64 1, .int .i64 0, .int .i64 0] from (k36_mkM _ _ _ (⟨2, 3, 1, 0, 0⟩ : S36) )) (Reps.c5 (show Kd.M k36 _ _ _ (⟨3, 3, 1, 0, 0⟩ : S36) [.int .i64 3, .int .i64 3, .int .i64 1, .int .i64 0, .int .i64 0] from (k36_mkM _ _ _ (⟨3, 3, 1, 0, 0⟩ : S36) )) (Reps.c5 (show Kd.M k36 _ _ _ (⟨3, 3, 1, 0, 0⟩ : S36) [.int .i64 3, .int .i64 3, .int .i64 1, .int .i64 0, .int .i64 0] from (k36_mkM _ _ _ (⟨3, 3, 1, 0, 0⟩ : S36) )) (Reps.c5 (show Kd.M k36 _ _ _ (⟨4, 3, 1, 0, 0⟩ : S36) [.int .i64 4, .int .i64 3, .int .i64 1, .int .i64 0, .int .i64 0] from (k36_mkM _ _ _ (⟨4, 3, 1, 0, 0⟩ : S36) )) (Reps.none _ _))))));intro v116 w37 ho38 hb hg_ hnew_;clear hg_ hnew_;(first|rw [← Ny115.out] at ho38|(simp only [Int.reduceToNat] at ho38;rw [← Ny115.out] at ho38));have n0_ := Aside0.mk (Kd.R_lower ho38 (below_size (by repeat (with_reducible first|exact HB.out|apply xa|apply xb|apply xc))));have n1_ := Aside0.mk (below_step (by repeat (with_reducible first|exact HB.out|apply xa|apply xb|apply xc)) hb);clear HB;have HO117 := n0_;have HB := n1_;clear n0_ n1_;clear hb ho38;obtain ⟨Ao39, co39, eo39⟩ := Kd.R_slice HO117.out;subst eo39)|((with_reducible refine gate_callee (f := 15) rfl ?_);refine goesL_ (some 10) rfl rfl Try.func15 (by kernel_rfl) rfl #[.slice Ao39 y115.length co39] rfl (by (try simp only [List.map_toArray, List.map_cons, List.map_nil]);first|done|rfl|(simp only [List.length_drop, List.length_take];rfl)) ?_;(with_reducible refine (gantt_Spans.calls _ _ y115 t118 _ ?side1 ?side2 A1.out).mono ?_);(case side1 => repeat (first|exact (Kd.R_reads' HO117.out).2.2|(with_reducible refine Kd.C_alloc ?_ _)|(with_reducible refine Kd.C_drewN ?_ _)|(with_reducible refine Kd.C_drew ?_)));(case side2 => exact (Kd.R_reads' HO117.out).2.1);rintro e w40 ⟨v119, rfl, ho0, hb⟩;refine ⟨_, rfl, ?_⟩;have n0_ := Aside0.mk (Kd.R_below (by (with_reducible repeat (first|apply Kd.R_alloc|apply Kd.R_drewN|apply Kd.R_drew));exact HO117.out) hb);have n1_ := Aside0.mk (Kd.R_lower ho0 (below_size (by repeat (with_reducible first|exact HB.out|apply xa|apply xb|apply xc))));have n2_ := Aside0.mk (below_step (by repeat (with_reducible first|exact HB.out|apply xa|apply xb|apply xc)) hb);clear HO117;clear HB;have HO117 := n0_;have HO120 := n1_;have HB := n2_;clear n0_ n1_ n2_;(try clear hb);(try clear hb2);(try clear hk);(try clear hi);(try clear ho0))|((with_reducible refine gate_dst (N := 12) rfl ?_);(try (refine gate_guard (by rfl) ?_;dsimp only));refine Kd.R_lit (Kd.int .i64) _ 3 ?hg (N := 12) ?hd (xs := ([1] : List Int)) (inner := [.int .i64 1]) (ok := fun _ => True) (okp := fun _ => True) ?hr ?hp (fun _ hk => hk) trivial (Below.refl _ _) (Nat.le_refl _) (by simp) ?_;(case hd => rfl);(case hg => rfl);(case hr => first|(go_simp;done)|(go_simp;rfl));(case hp => exact (Reps.one (show Kd.M (Kd.int .i64) _ _ _ 1 [.int .i64 1] from rfl) (Reps.none _ _)));intro v122 w41 ho42 hb hg_ hnew_;clear hg_ hnew_;(first|rw [← Ny121.out] at ho42|(simp only [Int.reduceToNat] at ho42;rw [← Ny121.out] at ho42));have n0_ := Aside0.mk (Kd.R_below (by (with_reducible repeat (first|apply Kd.R_alloc|apply Kd.R_drewN|apply Kd.R_drew));exact HO117.out) hb);have n1_ := Aside0.mk (Kd.R_below (by (with_reducible repeat (first|apply Kd.R_alloc|apply Kd.R_drewN|apply Kd.R_drew));exact HO120.out) hb);have n2_ := Aside0.mk (Kd.R_lower ho42 (below_size (by repeat (with_reducible first|exact HB.out|apply xa|apply xb|apply xc))));have n3_ := Aside0.mk (below_step (by repeat (with_reducible first|exact HB.out|apply xa|apply xb|apply xc)) hb);clear HO117;clear HO120;clear HB;have HO117 := n0_;have HO120 := n1_;have HO123 := n2_;have HB := n3_;clear n0_ n1_ n2_ n3_;clear hb ho42;obtain ⟨Ao43, co43, eo43⟩ := Kd.R_slice HO123.out;subst eo43)|((with_reducible refine gate_callee (f := 18) rfl ?_);refine goesL_ (some 13) rfl rfl Try.func18 (by kernel_rfl) rfl #[.slice Ao39 y115.length co39, .slice Ao43 y121.length co43, .int .i64 4] rfl (by (try simp only [List.map_toArray, List.map_cons, List.map_nil]);first|done|rfl|(simp only [List.length_drop, List.length_take];rfl)) ?_;(with_reducible refine (gantt_Draw.calls _ _ y115 _ _ y121 4 t124 _ ?side1 ?side2 ?side3 ?side4 A2.out).mono ?_);(case side1 => repeat (first|exact (Kd.R_reads' HO117.out).2.2|(with_reducible refine Kd.C_alloc ?_ _)|(with_reducible refine Kd.C_drewN ?_ _)|(with_reducible refine Kd.C_drew ?_)));(case side2 => exact (Kd.R_reads' HO117.out).2.1);(case side3 => repeat (first|exact (Kd.R_reads' HO123.out).2.2|(with_reducible refine Kd.C_alloc ?_ _)|(with_reducible refine Kd.C_drewN ?_ _)|(with_reducible refine Kd.C_drew ?_)));(case side4 => exact (Kd.R_reads' HO123.out).2.1);rintro e w44 ⟨v125, rfl, ho0, hb⟩;refine ⟨_, rfl, ?_⟩;have n0_ := Aside0.mk (Kd.R_below (by (with_reducible repeat (first|apply Kd.R_alloc|apply Kd.R_drewN|apply Kd.R_drew));exact HO117.out) hb);have n1_ := Aside0.mk (Kd.R_below (by (with_reducible repeat (first|apply Kd.R_alloc|apply Kd.R_drewN|apply Kd.R_drew));exact HO120.out) hb);have n2_ := Aside0.mk (Kd.R_below (by (with_reducible repeat (first|apply Kd.R_alloc|apply Kd.R_drewN|apply Kd.R_drew));exact HO123.out) hb);have n3_ := Aside0.mk (Kd.R_lower ho0 (below_size (by repeat (with_reducible first|exact HB.out|apply xa|apply xb|apply xc))));have n4_ := Aside0.mk (below_step (by repeat (with_reducible first|exact HB.out|apply xa|apply xb|apply xc)) hb);clear HO117;clear HO120;clear HO123;clear HB;have HO117 := n0_;have HO120 := n1_;have HO123 := n2_;have HO126 := n3_;have HB := n4_;clear n0_ n1_ n2_ n3_ n4_;(try clear hb);(try clear hb2);(try clear hk);(try clear hi);(try clear ho0);obtain ⟨Ao45, co45, eo45⟩ := Kd.R_slice HO120.out;subst eo45))
  go_ret
  exact ⟨by first|rfl|(simp [errW_none, errW_some] <;> rfl)|(simp [*, errW_none, errW_some] <;> rfl), by repeat (with_reducible first|exact HB.out|apply xa|apply xb|apply xc)⟩

/-! ### pinfoldlaw30_GanttSpans: function 3 -/
def pinfoldlaw30_GanttSpans.l0 : Nat → List (S27) → List (S27) → Int → Int → Option (Bool)
 | 0, _, _, _, _ => none
 | k + 1, x3, x4, x18, x19 => if x19 < x18 then (if 0 ≤ x19 then (if x19 < (x3.length : Int) then (if x19 < (x4.length : Int) then (if (!(((rd_T27 x3 x19).f0) == ((rd_T27 x4 x19).f0)) || (!(((rd_T27 x3 x19).f1) == ((rd_T27 x4 x19).f1)) || (!(((rd_T27 x3 x19).f2) == ((rd_T27 x4 x19).f2)) || (!(((rd_T27 x3 x19).f3) == ((rd_T27 x4 x19).f3)) || (!(((rd_T27 x3 x19).f4) == ((rd_T27 x4 x19).f4))))))) = true then (some false) else (pinfoldlaw30_GanttSpans.l0 k x3 x4 x18 (wrap64 (x19 + 1)))) else (none)) else (none)) else (none)) else ((pinfoldlaw30_lives.f).bind fun t141 => (some t141))
def pinfoldlaw30_GanttSpans.f (k : Nat) (l0 : List (S36)) : Option (Bool) := if 0 ≤ (mn (l0.length : Int) 60) then (if (mn (l0.length : Int) 60) ≤ (l0.length : Int) then ((some (l0.take ((mn (l0.length : Int) 60) : Int).toNat : List (S36))).bind fun y129 => ((gantt_Spans.f y129).bind fun t133 => ((pinfoldref30_Spans.f k y129).bind fun t136 => (if (t133.length : Int) = (t136.length : Int) then (pinfoldlaw30_GanttSpans.l0 k t133 t136 (t133.length : Int) 0) else (some false))))) else (none)) else (none)
theorem pinfoldlaw30_GanttSpans.mono_l : ∀ k, (∀ y0 y1 y2 y3, LeO (pinfoldlaw30_GanttSpans.l0 k y0 y1 y2 y3) (pinfoldlaw30_GanttSpans.l0 (k + 1) y0 y1 y2 y3))
 | 0 => fun _ _ _ _ r h => by simp [pinfoldlaw30_GanttSpans.l0] at h
 | k + 1 => by
  have ih0 := pinfoldlaw30_GanttSpans.mono_l k
  ·intro y0 y1 y2 y3
   unfold pinfoldlaw30_GanttSpans.l0
   repeat' first
   | (with_reducible exact ih0 _ _ _ _)
   | (with_reducible exact pinfoldref30_Spans.mono _ _)
   | (with_reducible exact LeO.refl _)
   | (with_reducible exact LeO.none _)
   | (with_reducible refine LeO.ite ?_ ?_)
   | (with_reducible refine LeO.bind ?_ (fun _ => ?_))
   | exact ih0 _ _ _ _
   | exact pinfoldref30_Spans.mono _ _
   | exact LeO.none _
   | refine LeO.ite ?_ ?_
   | refine LeO.bind ?_ (fun _ => ?_)
theorem pinfoldlaw30_GanttSpans.mono : ∀ a0 k, LeO (pinfoldlaw30_GanttSpans.f k a0) (pinfoldlaw30_GanttSpans.f (k + 1) a0) := by
 intro a0 k
 have ih0 := pinfoldlaw30_GanttSpans.mono_l k
 unfold pinfoldlaw30_GanttSpans.f
 repeat' first
   | (with_reducible exact ih0 _ _ _ _)
   | (with_reducible exact pinfoldref30_Spans.mono _ _)
   | (with_reducible exact LeO.refl _)
   | (with_reducible exact LeO.none _)
   | (with_reducible refine LeO.ite ?_ ?_)
   | (with_reducible refine LeO.bind ?_ (fun _ => ?_))
   | exact ih0 _ _ _ _
   | exact pinfoldref30_Spans.mono _ _
   | exact LeO.none _
   | refine LeO.ite ?_ ?_
   | refine LeO.bind ?_ (fun _ => ?_)
set_option maxHeartbeats 8000000 in
set_option maxRecDepth 100000 in
theorem pinfoldlaw30_GanttSpans.calls (k : Nat) (A0 : Option Addr) (c0 : Nat) (l0 : List (S36)) (r : Bool) (w : World) (hr0 : Kd.C k36 w A0 l0.length l0) (hc0 : l0.length ≤ c0) (h : pinfoldlaw30_GanttSpans.f k l0 = some r) :
  Calls Try.prog 3 #[.slice A0 l0.length c0] w fun e w' => e = .returned (.bool r) ∧ Below w.heap.size w w' := by
 have hu27 := Try.underlying27
 have HR0 := Aside0.mk hr0
 have HC0 := Aside0.mk hc0
 clear hr0 hc0
 have HB := Aside0.mk (Below.refl w.heap.size w)
 have H : (if 0 ≤ (mn (l0.length : Int) 60) then (if (mn (l0.length : Int) 60) ≤ (l0.length : Int) then ((some (l0.take ((mn (l0.length : Int) 60) : Int).toNat : List (S36))).bind fun y129 => ((gantt_Spans.f y129).bind fun t133 => ((pinfoldref30_Spans.f k y129).bind fun t136 => (if (t133.length : Int) = (t136.length : Int) then (pinfoldlaw30_GanttSpans.l0 k t133 t136 (t133.length : Int) 0) else (some false))))) else (none)) else (none)) = some r := h
 clear h
 obtain ⟨ji2, hji2⟩ : ∃ j_ : Int, (mn (l0.length : Int) 60) = j_ := ⟨_, rfl⟩
 replace H : (if 0 ≤ (ji2) then (if (ji2) ≤ (l0.length : Int) then ((some (l0.take ((ji2) : Int).toNat : List (S36))).bind fun y129 => ((gantt_Spans.f y129).bind fun t133 => ((pinfoldref30_Spans.f k y129).bind fun t136 => (if (t133.length : Int) = (t136.length : Int) then (pinfoldlaw30_GanttSpans.l0 k t133 t136 (t133.length : Int) 0) else (some false))))) else (none)) else (none)) = some r := by first|(rw [hji2] at H;exact H)|(simp only [hji2] at H ⊢;exact H)
 (try (have hji2h : ji2 ≤ 60 := by (rw [← hji2];unfold mn;(repeat' split) <;> omega)))
 (try (have hji2g : ji2 ≤ 64 := by omega))
 (try (have hji2l : 0 ≤ ji2 := by (rw [← hji2];unfold mn;(repeat' split) <;> omega)))
 (try (have hji2m : 0 ≤ ji2 := by omega))
 have hji2_ : (if 60 < (l0.length : Int) then 60 else (l0.length : Int)) = ji2 := hji2
 by_cases c3 : 0 ≤ (ji2)
 ·rw [if_pos c3] at H
  have c3b0 := eq_true c3
  have c3b1 : decide (0 ≤ (ji2)) = true := decide_eq_true c3
  clear c3
  by_cases c4 : (ji2) ≤ (l0.length : Int)
  ·rw [if_pos c4] at H
   have c4b0 := eq_true c4
   have c4b1 : decide ((ji2) ≤ (l0.length : Int)) = true := decide_eq_true c4
   clear c4
   obtain ⟨y129, hy129⟩ : ∃ y_ : List (S36), y_ = (l0.take ((ji2) : Int).toNat) := ⟨_, rfl⟩
   replace H : ((gantt_Spans.f y129).bind fun t133 => ((pinfoldref30_Spans.f k y129).bind fun t136 => (if (t133.length : Int) = (t136.length : Int) then (pinfoldlaw30_GanttSpans.l0 k t133 t136 (t133.length : Int) 0) else (some false)))) = some r := by first|(rw [hy129];with_reducible exact H)|(have H2_ := (Option.bind_some _ _).symm.trans H;rw [hy129];with_reducible exact H2_)|(have H2_ := (Option.bind_some _ _).symm.trans H;with_reducible exact H2_)|with_reducible exact H|(rw [hy129];exact H)|exact H
   have Ny129 := Aside0.mk hy129
   have KCUT := Aside0.mk (show y129.length = min l0.length 60 from by rw [hy129, ← hji2];exact cut_len l0)
   clear hy129
   replace H := Option.bind_eq_some_iff.mp H
   obtain ⟨t133, A50, H⟩ := H
   replace H : ((pinfoldref30_Spans.f k y129).bind fun t136 => (if (t133.length : Int) = (t136.length : Int) then (pinfoldlaw30_GanttSpans.l0 k t133 t136 (t133.length : Int) 0) else (some false))) = some r := H
   have A5 := Aside0.mk A50
   clear A50
   replace H := Option.bind_eq_some_iff.mp H
   obtain ⟨t136, A60, H⟩ := H
   replace H : (if (t133.length : Int) = (t136.length : Int) then (pinfoldlaw30_GanttSpans.l0 k t133 t136 (t133.length : Int) 0) else (some false)) = some r := H
   have A6 := Aside0.mk A60
   clear A60
   by_cases c7 : (t133.length : Int) = (t136.length : Int)
   ·rw [if_pos c7] at H
    have c7b0 : ((t133.length : Int) == (t136.length : Int)) = true := beq_iff_eq.mpr c7
    have c7b1 : ((t133.length : Int) != (t136.length : Int)) = false := bne_eq_false_iff_eq.mpr c7
    have c7b2 : (t133.length == t136.length) = true := by first|simpa using c7|(simp at c7 ⊢;omega)
    clear c7
    have H' := Aside0.mk H
    clear H
    have q8 : ((ji2) : Int) ≤ ((l0.length : Int) : Int) := of_decide_eq_true (by assumption)
    obtain ⟨i08, hi08, _, hsz8, _⟩ := info_parts info36
    have hroom8 : l0.length ≤ c0 := HC0.out
    have hC8 : Kd.C k36 _ A0 l0.length l0 := HR0.out
    have hcut8 := cut_to (P := Try.prog) 22 36 .i64 Try.underlying22 hi08 A0 l0.length c0 (ji2) (of_decide_eq_true (by assumption)) q8 hroom8
    have hr8 := Kd.C_take (m := ((ji2) : Int).toNat) hC8 (by omega)
    have hy8 : y129.length = ((ji2) : Int).toNat := (by rw [Ny129.out, List.length_take];omega)
    rw [← Ny129.out] at hr8
    rw [← hy8] at hcut8
    have HR132 := Aside0.mk hr8
    have HC132 := Aside0.mk (show y129.length ≤ c0 from by omega)
    clear hr8 hC8 hroom8 hi08 hsz8
    have KY8 := Aside0.mk hy8
    clear hy8
    replace q8 := eq_true q8
    go_enter Try.func3, Try.ntmps3
    go_wp2_with (first|(go_at_call 14;refine (cut_any A0 c0 l0 _ _ HC0.out KCUT.out).mono ?_;rintro e w7_ ⟨rfl, hw7_⟩;rw [hw7_];clear hw7_)|(go_at_call 15;(with_reducible refine (gantt_Spans.calls _ _ y129 t133 _ ?side1 ?side2 A5.out).mono ?_);(case side1 => repeat (first|exact HR132.out|(with_reducible refine Kd.C_alloc ?_ _)|(with_reducible refine Kd.C_drewN ?_ _)|(with_reducible refine Kd.C_drew ?_)));(case side2 => exact HC132.out);rintro e w9 ⟨v134, rfl, ho0, hb⟩;have n0_ := Aside0.mk (Kd.R_lower ho0 (below_size (by repeat (with_reducible first|exact HB.out|apply xa|apply xb|apply xc))));have n1_ := Aside0.mk (below_step (by repeat (with_reducible first|exact HB.out|apply xa|apply xb|apply xc)) hb);clear HB;have HO135 := n0_;have HB := n1_;clear n0_ n1_;(try clear hb);(try clear hb2);(try clear hk);(try clear hi);(try clear ho0))|(go_at_call 16;(with_reducible refine (pinfoldref30_Spans.calls k _ _ y129 t136 _ ?side1 ?side2 A6.out).mono ?_);(case side1 => repeat (first|exact (Kd.C_below HR132.out HB.out)|(with_reducible refine Kd.C_alloc ?_ _)|(with_reducible refine Kd.C_drewN ?_ _)|(with_reducible refine Kd.C_drew ?_)));(case side2 => exact HC132.out);rintro e w10 ⟨v137, rfl, ho0, hb⟩;have n0_ := Aside0.mk (Kd.R_elder' (by (with_reducible repeat (first|apply Kd.R_alloc|apply Kd.R_drewN|apply Kd.R_drew));exact HO135.out) (Kd.R_base ho0) hb);have n1_ := Aside0.mk (Kd.R_lower (Kd.R_new' ho0 (Kd.R_lt (by (with_reducible repeat (first|apply Kd.R_alloc|apply Kd.R_drewN|apply Kd.R_drew));exact HO135.out))) (below_size (by repeat (with_reducible first|exact HB.out|apply xa|apply xb|apply xc))));have n2_ := Aside0.mk (below_step (by repeat (with_reducible first|exact HB.out|apply xa|apply xb|apply xc)) hb);clear HO135;clear HB;have HO135 := n0_;have HO138 := n1_;have HB := n2_;clear n0_ n1_ n2_;(try clear hb);(try clear hb2);(try clear hk);(try clear hi);(try clear ho0);obtain ⟨Ao11, co11, eo11⟩ := Kd.R_slice HO135.out;subst eo11;obtain ⟨Ao12, co12, eo12⟩ := Kd.R_slice HO138.out;subst eo12))
    repeat (go_quiet (first|(go_at_call 15;(with_reducible refine (gantt_Spans.calls _ _ y129 t133 _ ?side1 ?side2 A5.out).mono ?_);(case side1 => repeat (first|exact HR132.out|(with_reducible refine Kd.C_alloc ?_ _)|(with_reducible refine Kd.C_drewN ?_ _)|(with_reducible refine Kd.C_drew ?_)));(case side2 => exact HC132.out);rintro e w9 ⟨v134, rfl, ho0, hb⟩;have n0_ := Aside0.mk (Kd.R_lower ho0 (below_size (by repeat (with_reducible first|exact HB.out|apply xa|apply xb|apply xc))));have n1_ := Aside0.mk (below_step (by repeat (with_reducible first|exact HB.out|apply xa|apply xb|apply xc)) hb);clear HB;have HO135 := n0_;have HB := n1_;clear n0_ n1_;(try clear hb);(try clear hb2);(try clear hk);(try clear hi);(try clear ho0))|(go_at_call 16;(with_reducible refine (pinfoldref30_Spans.calls k _ _ y129 t136 _ ?side1 ?side2 A6.out).mono ?_);(case side1 => repeat (first|exact (Kd.C_below HR132.out HB.out)|(with_reducible refine Kd.C_alloc ?_ _)|(with_reducible refine Kd.C_drewN ?_ _)|(with_reducible refine Kd.C_drew ?_)));(case side2 => exact HC132.out);rintro e w10 ⟨v137, rfl, ho0, hb⟩;have n0_ := Aside0.mk (Kd.R_elder' (by (with_reducible repeat (first|apply Kd.R_alloc|apply Kd.R_drewN|apply Kd.R_drew));exact HO135.out) (Kd.R_base ho0) hb);have n1_ := Aside0.mk (Kd.R_lower (Kd.R_new' ho0 (Kd.R_lt (by (with_reducible repeat (first|apply Kd.R_alloc|apply Kd.R_drewN|apply Kd.R_drew));exact HO135.out))) (below_size (by repeat (with_reducible first|exact HB.out|apply xa|apply xb|apply xc))));have n2_ := Aside0.mk (below_step (by repeat (with_reducible first|exact HB.out|apply xa|apply xb|apply xc)) hb);clear HO135;clear HB;have HO135 := n0_;have HO138 := n1_;have HB := n2_;clear n0_ n1_ n2_;(try clear hb);(try clear hb2);(try clear hk);(try clear hi);(try clear ho0);obtain ⟨Ao11, co11, eo11⟩ := Kd.R_slice HO135.out;subst eo11;obtain ⟨Ao12, co12, eo12⟩ := Kd.R_slice HO138.out;subst eo12));try go_wp2_with (first|(go_at_call 15;(with_reducible refine (gantt_Spans.calls _ _ y129 t133 _ ?side1 ?side2 A5.out).mono ?_);(case side1 => repeat (first|exact HR132.out|(with_reducible refine Kd.C_alloc ?_ _)|(with_reducible refine Kd.C_drewN ?_ _)|(with_reducible refine Kd.C_drew ?_)));(case side2 => exact HC132.out);rintro e w9 ⟨v134, rfl, ho0, hb⟩;have n0_ := Aside0.mk (Kd.R_lower ho0 (below_size (by repeat (with_reducible first|exact HB.out|apply xa|apply xb|apply xc))));have n1_ := Aside0.mk (below_step (by repeat (with_reducible first|exact HB.out|apply xa|apply xb|apply xc)) hb);clear HB;have HO135 := n0_;have HB := n1_;clear n0_ n1_;(try clear hb);(try clear hb2);(try clear hk);(try clear hi);(try clear ho0))|(go_at_call 16;(with_reducible refine (pinfoldref30_Spans.calls k _ _ y129 t136 _ ?side1 ?side2 A6.out).mono ?_);(case side1 => repeat (first|exact (Kd.C_below HR132.out HB.out)|(with_reducible refine Kd.C_alloc ?_ _)|(with_reducible refine Kd.C_drewN ?_ _)|(with_reducible refine Kd.C_drew ?_)));(case side2 => exact HC132.out);rintro e w10 ⟨v137, rfl, ho0, hb⟩;have n0_ := Aside0.mk (Kd.R_elder' (by (with_reducible repeat (first|apply Kd.R_alloc|apply Kd.R_drewN|apply Kd.R_drew));exact HO135.out) (Kd.R_base ho0) hb);have n1_ := Aside0.mk (Kd.R_lower (Kd.R_new' ho0 (Kd.R_lt (by (with_reducible repeat (first|apply Kd.R_alloc|apply Kd.R_drewN|apply Kd.R_drew));exact HO135.out))) (below_size (by repeat (with_reducible first|exact HB.out|apply xa|apply xb|apply xc))));have n2_ := Aside0.mk (below_step (by repeat (with_reducible first|exact HB.out|apply xa|apply xb|apply xc)) hb);clear HO135;clear HB;have HO135 := n0_;have HO138 := n1_;have HB := n2_;clear n0_ n1_ n2_;(try clear hb);(try clear hb2);(try clear hk);(try clear hi);(try clear ho0);obtain ⟨Ao11, co11, eo11⟩ := Kd.R_slice HO135.out;subst eo11;obtain ⟨Ao12, co12, eo12⟩ := Kd.R_slice HO138.out;subst eo12)))
    go_loopg [19] k (fun kq v19 w' => ∃ (x19_1 : Int), v19 = .int .i64 x19_1 ∧ Aside0 (pinfoldlaw30_GanttSpans.l0 kq t133 t136 (t133.length : Int) x19_1 = some r) ∧ Aside0 (kq ≤ k) ∧ Aside0 (Kd.R k27 27 w' w.heap.size (fun k_ => some k_ ≠ ((.slice Ao12 t136.length co12) : Value).ownBlock) (.slice Ao11 t133.length co11) t133) ∧ Aside0 (Kd.R k27 27 w' w.heap.size (fun k_ => some k_ ≠ ((.slice Ao11 t133.length co11) : Value).ownBlock) (.slice Ao12 t136.length co12) t136) ∧ Aside0 (Below w.heap.size w w'))
    case atStart => exact ⟨(0), (by first|rfl|(simp;done)|(simp [*];done)), H', ⟨Nat.le_refl _⟩, ⟨by (with_reducible repeat (first|apply Kd.R_alloc|apply Kd.R_drewN|apply Kd.R_drew));exact Kd.R_mono HO135.out (fun _ hk => hk.2)⟩, ⟨by (with_reducible repeat (first|apply Kd.R_alloc|apply Kd.R_drewN|apply Kd.R_drew));exact Kd.R_mono HO138.out (fun _ hk => hk.2)⟩, ⟨by repeat (with_reducible first|exact HB.out|apply xa|apply xb|apply xc)⟩⟩
    case round =>
     clear H'
     try clear p2
     try clear c3
     try clear c3b0
     try clear c3b1
     try clear c4
     try clear c4b0
     try clear c4b1
     try clear c7
     try clear c7b0
     try clear c7b1
     try clear c7b2
     try clear q8
     try clear q8
     obtain ⟨x19_1, rfl, HA, HK1, HO_3, HO_4, HB⟩ := hrel
     cases gk with
     | zero => exact absurd HA.out (by simp [pinfoldlaw30_GanttSpans.l0])
     | succ k1 =>
      have H := HA.out
      clear HA
      simp only [pinfoldlaw30_GanttSpans.l0] at H
      by_cases c13 : x19_1 < (t133.length : Int)
      ·rw [if_pos c13] at H
       have c13b0 : decide (x19_1 < (t133.length : Int)) = true := decide_eq_true c13
       clear c13
       by_cases c14 : 0 ≤ x19_1
       ·rw [if_pos c14] at H
        have c14b0 : decide (0 ≤ x19_1) = true := decide_eq_true c14
        clear c14
        by_cases c15 : x19_1 < (t133.length : Int)
        ·rw [if_pos c15] at H
         have c15b0 : decide (x19_1 < (t133.length : Int)) = true := decide_eq_true c15
         clear c15
         by_cases c16 : x19_1 < (t136.length : Int)
         ·rw [if_pos c16] at H
          have c16b0 : decide (x19_1 < (t136.length : Int)) = true := decide_eq_true c16
          clear c16
          by_cases c17 : (!(((rd_T27 t133 x19_1).f0) == ((rd_T27 t136 x19_1).f0)) || (!(((rd_T27 t133 x19_1).f1) == ((rd_T27 t136 x19_1).f1)) || (!(((rd_T27 t133 x19_1).f2) == ((rd_T27 t136 x19_1).f2)) || (!(((rd_T27 t133 x19_1).f3) == ((rd_T27 t136 x19_1).f3)) || (!(((rd_T27 t133 x19_1).f4) == ((rd_T27 t136 x19_1).f4))))))) = true
          ·rw [if_pos c17] at H
           have c17b0 : (!(((rd_T27 t133 x19_1).f0) == ((rd_T27 t136 x19_1).f0)) || (!(((rd_T27 t133 x19_1).f1) == ((rd_T27 t136 x19_1).f1)) || (!(((rd_T27 t133 x19_1).f2) == ((rd_T27 t136 x19_1).f2)) || (!(((rd_T27 t133 x19_1).f3) == ((rd_T27 t136 x19_1).f3)) || (!(((rd_T27 t133 x19_1).f4) == ((rd_T27 t136 x19_1).f4))))))) = true := c17
           clear c17
           obtain rfl := Option.some.inj H
           have p139 : 0 ≤ (x19_1 : Int) := of_decide_eq_true (by assumption)
           have q139 : x19_1 < (t133.length : Int) := of_decide_eq_true (by assumption)
           obtain ⟨ad139, e139, hx139_0, hx139_1, hx139_2, hx139_3, hx139_4⟩ := at_T27 (Kd.R_reads' HO_3.out).2.2 x19_1 p139 q139
           cases e139
           replace p139 := eq_true p139
           replace q139 := eq_true q139
           have p140 : 0 ≤ (x19_1 : Int) := of_decide_eq_true (by assumption)
           have q140 : x19_1 < (t136.length : Int) := of_decide_eq_true (by assumption)
           obtain ⟨ad140, e140, hx140_0, hx140_1, hx140_2, hx140_3, hx140_4⟩ := at_T27 (Kd.R_reads' HO_4.out).2.2 x19_1 p140 q140
           cases e140
           replace p140 := eq_true p140
           replace q140 := eq_true q140
           go_wp2
           repeat (go_quiet (fail);try go_wp2)
           go_ret
           exact ⟨by first|rfl|(simp [errW_none, errW_some] <;> rfl)|(simp only [← hji2];first|rfl|(simp [errW_none, errW_some] <;> rfl))|(simp [*, errW_none, errW_some] <;> rfl), by repeat (with_reducible first|exact HB.out|apply xa|apply xb|apply xc)⟩
          ·rw [if_neg c17] at H
           have c17b0 : (!(((rd_T27 t133 x19_1).f0) == ((rd_T27 t136 x19_1).f0)) || (!(((rd_T27 t133 x19_1).f1) == ((rd_T27 t136 x19_1).f1)) || (!(((rd_T27 t133 x19_1).f2) == ((rd_T27 t136 x19_1).f2)) || (!(((rd_T27 t133 x19_1).f3) == ((rd_T27 t136 x19_1).f3)) || (!(((rd_T27 t133 x19_1).f4) == ((rd_T27 t136 x19_1).f4))))))) = false := by simpa using c17
           clear c17
           have H' := Aside0.mk H
           clear H
           have p139 : 0 ≤ (x19_1 : Int) := of_decide_eq_true (by assumption)
           have q139 : x19_1 < (t133.length : Int) := of_decide_eq_true (by assumption)
           obtain ⟨ad139, e139, hx139_0, hx139_1, hx139_2, hx139_3, hx139_4⟩ := at_T27 (Kd.R_reads' HO_3.out).2.2 x19_1 p139 q139
           cases e139
           replace p139 := eq_true p139
           replace q139 := eq_true q139
           have p140 : 0 ≤ (x19_1 : Int) := of_decide_eq_true (by assumption)
           have q140 : x19_1 < (t136.length : Int) := of_decide_eq_true (by assumption)
           obtain ⟨ad140, e140, hx140_0, hx140_1, hx140_2, hx140_3, hx140_4⟩ := at_T27 (Kd.R_reads' HO_4.out).2.2 x19_1 p140 q140
           cases e140
           replace p140 := eq_true p140
           replace q140 := eq_true q140
           go_wp2
           repeat (go_quiet (fail);try go_wp2)
           (try simp only [px_add0] at *)
           go_roundg k1
           case measure => have := HK1.out;omega
           case rel => exact ⟨(wrap64 (x19_1 + 1)), (by first|rfl|(simp;done)|(simp [*];done)), H', ⟨by have := HK1.out;omega⟩, ⟨by (with_reducible repeat (first|apply Kd.R_alloc|apply Kd.R_drewN|apply Kd.R_drew));exact HO_3.out⟩, ⟨by (with_reducible repeat (first|apply Kd.R_alloc|apply Kd.R_drewN|apply Kd.R_drew));exact HO_4.out⟩, ⟨by repeat (with_reducible first|exact HB.out|apply xa|apply xb|apply xc)⟩⟩
         ·rw [if_neg c16] at H
          exact absurd H (by simp)
        ·rw [if_neg c15] at H
         exact absurd H (by simp)
       ·rw [if_neg c14] at H
        exact absurd H (by simp)
      ·rw [if_neg c13] at H
       have c13b0 : decide (x19_1 < (t133.length : Int)) = false := decide_eq_false c13
       clear c13
       replace H := Option.bind_eq_some_iff.mp H
       obtain ⟨t141, A180, H⟩ := H
       replace H : (some t141) = some r := H
       have A18 := Aside0.mk A180
       clear A180
       obtain rfl := Option.some.inj H
       go_wp2_with (first|(go_at_call 17;(with_reducible refine (pinfoldlaw30_lives.calls  t141 _ A18.out).mono ?_);rintro e w19 ⟨rfl, hb⟩;have n0_ := Aside0.mk (Kd.R_below (by (with_reducible repeat (first|apply Kd.R_alloc|apply Kd.R_drewN|apply Kd.R_drew));exact HO_3.out) hb);have n1_ := Aside0.mk (Kd.R_below (by (with_reducible repeat (first|apply Kd.R_alloc|apply Kd.R_drewN|apply Kd.R_drew));exact HO_4.out) hb);have n2_ := Aside0.mk (below_step (by repeat (with_reducible first|exact HB.out|apply xa|apply xb|apply xc)) hb);clear HO_3;clear HO_4;clear HB;have HO_3 := n0_;have HO_4 := n1_;have HB := n2_;clear n0_ n1_ n2_;(try clear hb);(try clear hb2);(try clear hk);(try clear hi)))
       repeat (go_quiet (first|(go_at_call 17;(with_reducible refine (pinfoldlaw30_lives.calls  t141 _ A18.out).mono ?_);rintro e w19 ⟨rfl, hb⟩;have n0_ := Aside0.mk (Kd.R_below (by (with_reducible repeat (first|apply Kd.R_alloc|apply Kd.R_drewN|apply Kd.R_drew));exact HO_3.out) hb);have n1_ := Aside0.mk (Kd.R_below (by (with_reducible repeat (first|apply Kd.R_alloc|apply Kd.R_drewN|apply Kd.R_drew));exact HO_4.out) hb);have n2_ := Aside0.mk (below_step (by repeat (with_reducible first|exact HB.out|apply xa|apply xb|apply xc)) hb);clear HO_3;clear HO_4;clear HB;have HO_3 := n0_;have HO_4 := n1_;have HB := n2_;clear n0_ n1_ n2_;(try clear hb);(try clear hb2);(try clear hk);(try clear hi)));try go_wp2_with (first|(go_at_call 17;(with_reducible refine (pinfoldlaw30_lives.calls  t141 _ A18.out).mono ?_);rintro e w19 ⟨rfl, hb⟩;have n0_ := Aside0.mk (Kd.R_below (by (with_reducible repeat (first|apply Kd.R_alloc|apply Kd.R_drewN|apply Kd.R_drew));exact HO_3.out) hb);have n1_ := Aside0.mk (Kd.R_below (by (with_reducible repeat (first|apply Kd.R_alloc|apply Kd.R_drewN|apply Kd.R_drew));exact HO_4.out) hb);have n2_ := Aside0.mk (below_step (by repeat (with_reducible first|exact HB.out|apply xa|apply xb|apply xc)) hb);clear HO_3;clear HO_4;clear HB;have HO_3 := n0_;have HO_4 := n1_;have HB := n2_;clear n0_ n1_ n2_;(try clear hb);(try clear hb2);(try clear hk);(try clear hi))))
       go_ret
       exact ⟨by first|rfl|(simp [errW_none, errW_some] <;> rfl)|(simp only [← hji2];first|rfl|(simp [errW_none, errW_some] <;> rfl))|(simp [*, errW_none, errW_some] <;> rfl), by repeat (with_reducible first|exact HB.out|apply xa|apply xb|apply xc)⟩
   ·rw [if_neg c7] at H
    have c7b0 : ((t133.length : Int) == (t136.length : Int)) = false := beq_eq_false_iff_ne.mpr c7
    have c7b1 : ((t133.length : Int) != (t136.length : Int)) = true := bne_iff_ne.mpr c7
    have c7b2 : (t133.length == t136.length) = false := by first|simpa using c7|(simp at c7 ⊢;omega)
    obtain rfl := Option.some.inj H
    have q20 : ((ji2) : Int) ≤ ((l0.length : Int) : Int) := of_decide_eq_true (by assumption)
    obtain ⟨i020, hi020, _, hsz20, _⟩ := info_parts info36
    have hroom20 : l0.length ≤ c0 := HC0.out
    have hC20 : Kd.C k36 _ A0 l0.length l0 := HR0.out
    have hcut20 := cut_to (P := Try.prog) 22 36 .i64 Try.underlying22 hi020 A0 l0.length c0 (ji2) (of_decide_eq_true (by assumption)) q20 hroom20
    have hr20 := Kd.C_take (m := ((ji2) : Int).toNat) hC20 (by omega)
    have hy20 : y129.length = ((ji2) : Int).toNat := (by rw [Ny129.out, List.length_take];omega)
    rw [← Ny129.out] at hr20
    rw [← hy20] at hcut20
    have HR132 := Aside0.mk hr20
    have HC132 := Aside0.mk (show y129.length ≤ c0 from by omega)
    clear hr20 hC20 hroom20 hi020 hsz20
    have KY20 := Aside0.mk hy20
    clear hy20
    replace q20 := eq_true q20
    go_enter Try.func3, Try.ntmps3
    go_wp2_with (first|(go_at_call 14;refine (cut_any A0 c0 l0 _ _ HC0.out KCUT.out).mono ?_;rintro e w7_ ⟨rfl, hw7_⟩;rw [hw7_];clear hw7_)|(go_at_call 15;(with_reducible refine (gantt_Spans.calls _ _ y129 t133 _ ?side1 ?side2 A5.out).mono ?_);(case side1 => repeat (first|exact HR132.out|(with_reducible refine Kd.C_alloc ?_ _)|(with_reducible refine Kd.C_drewN ?_ _)|(with_reducible refine Kd.C_drew ?_)));(case side2 => exact HC132.out);rintro e w21 ⟨v134, rfl, ho0, hb⟩;have n0_ := Aside0.mk (Kd.R_lower ho0 (below_size (by repeat (with_reducible first|exact HB.out|apply xa|apply xb|apply xc))));have n1_ := Aside0.mk (below_step (by repeat (with_reducible first|exact HB.out|apply xa|apply xb|apply xc)) hb);clear HB;have HO135 := n0_;have HB := n1_;clear n0_ n1_;(try clear hb);(try clear hb2);(try clear hk);(try clear hi);(try clear ho0))|(go_at_call 16;(with_reducible refine (pinfoldref30_Spans.calls k _ _ y129 t136 _ ?side1 ?side2 A6.out).mono ?_);(case side1 => repeat (first|exact (Kd.C_below HR132.out HB.out)|(with_reducible refine Kd.C_alloc ?_ _)|(with_reducible refine Kd.C_drewN ?_ _)|(with_reducible refine Kd.C_drew ?_)));(case side2 => exact HC132.out);rintro e w22 ⟨v137, rfl, ho0, hb⟩;have n0_ := Aside0.mk (Kd.R_elder' (by (with_reducible repeat (first|apply Kd.R_alloc|apply Kd.R_drewN|apply Kd.R_drew));exact HO135.out) (Kd.R_base ho0) hb);have n1_ := Aside0.mk (Kd.R_lower (Kd.R_new' ho0 (Kd.R_lt (by (with_reducible repeat (first|apply Kd.R_alloc|apply Kd.R_drewN|apply Kd.R_drew));exact HO135.out))) (below_size (by repeat (with_reducible first|exact HB.out|apply xa|apply xb|apply xc))));have n2_ := Aside0.mk (below_step (by repeat (with_reducible first|exact HB.out|apply xa|apply xb|apply xc)) hb);clear HO135;clear HB;have HO135 := n0_;have HO138 := n1_;have HB := n2_;clear n0_ n1_ n2_;(try clear hb);(try clear hb2);(try clear hk);(try clear hi);(try clear ho0);obtain ⟨Ao23, co23, eo23⟩ := Kd.R_slice HO135.out;subst eo23;obtain ⟨Ao24, co24, eo24⟩ := Kd.R_slice HO138.out;subst eo24))
    repeat (go_quiet (first|(go_at_call 15;(with_reducible refine (gantt_Spans.calls _ _ y129 t133 _ ?side1 ?side2 A5.out).mono ?_);(case side1 => repeat (first|exact HR132.out|(with_reducible refine Kd.C_alloc ?_ _)|(with_reducible refine Kd.C_drewN ?_ _)|(with_reducible refine Kd.C_drew ?_)));(case side2 => exact HC132.out);rintro e w21 ⟨v134, rfl, ho0, hb⟩;have n0_ := Aside0.mk (Kd.R_lower ho0 (below_size (by repeat (with_reducible first|exact HB.out|apply xa|apply xb|apply xc))));have n1_ := Aside0.mk (below_step (by repeat (with_reducible first|exact HB.out|apply xa|apply xb|apply xc)) hb);clear HB;have HO135 := n0_;have HB := n1_;clear n0_ n1_;(try clear hb);(try clear hb2);(try clear hk);(try clear hi);(try clear ho0))|(go_at_call 16;(with_reducible refine (pinfoldref30_Spans.calls k _ _ y129 t136 _ ?side1 ?side2 A6.out).mono ?_);(case side1 => repeat (first|exact (Kd.C_below HR132.out HB.out)|(with_reducible refine Kd.C_alloc ?_ _)|(with_reducible refine Kd.C_drewN ?_ _)|(with_reducible refine Kd.C_drew ?_)));(case side2 => exact HC132.out);rintro e w22 ⟨v137, rfl, ho0, hb⟩;have n0_ := Aside0.mk (Kd.R_elder' (by (with_reducible repeat (first|apply Kd.R_alloc|apply Kd.R_drewN|apply Kd.R_drew));exact HO135.out) (Kd.R_base ho0) hb);have n1_ := Aside0.mk (Kd.R_lower (Kd.R_new' ho0 (Kd.R_lt (by (with_reducible repeat (first|apply Kd.R_alloc|apply Kd.R_drewN|apply Kd.R_drew));exact HO135.out))) (below_size (by repeat (with_reducible first|exact HB.out|apply xa|apply xb|apply xc))));have n2_ := Aside0.mk (below_step (by repeat (with_reducible first|exact HB.out|apply xa|apply xb|apply xc)) hb);clear HO135;clear HB;have HO135 := n0_;have HO138 := n1_;have HB := n2_;clear n0_ n1_ n2_;(try clear hb);(try clear hb2);(try clear hk);(try clear hi);(try clear ho0);obtain ⟨Ao23, co23, eo23⟩ := Kd.R_slice HO135.out;subst eo23;obtain ⟨Ao24, co24, eo24⟩ := Kd.R_slice HO138.out;subst eo24));try go_wp2_with (first|(go_at_call 15;(with_reducible refine (gantt_Spans.calls _ _ y129 t133 _ ?side1 ?side2 A5.out).mono ?_);(case side1 => repeat (first|exact HR132.out|(with_reducible refine Kd.C_alloc ?_ _)|(with_reducible refine Kd.C_drewN ?_ _)|(with_reducible refine Kd.C_drew ?_)));(case side2 => exact HC132.out);rintro e w21 ⟨v134, rfl, ho0, hb⟩;have n0_ := Aside0.mk (Kd.R_lower ho0 (below_size (by repeat (with_reducible first|exact HB.out|apply xa|apply xb|apply xc))));have n1_ := Aside0.mk (below_step (by repeat (with_reducible first|exact HB.out|apply xa|apply xb|apply xc)) hb);clear HB;have HO135 := n0_;have HB := n1_;clear n0_ n1_;(try clear hb);(try clear hb2);(try clear hk);(try clear hi);(try clear ho0))|(go_at_call 16;(with_reducible refine (pinfoldref30_Spans.calls k _ _ y129 t136 _ ?side1 ?side2 A6.out).mono ?_);(case side1 => repeat (first|exact (Kd.C_below HR132.out HB.out)|(with_reducible refine Kd.C_alloc ?_ _)|(with_reducible refine Kd.C_drewN ?_ _)|(with_reducible refine Kd.C_drew ?_)));(case side2 => exact HC132.out);rintro e w22 ⟨v137, rfl, ho0, hb⟩;have n0_ := Aside0.mk (Kd.R_elder' (by (with_reducible repeat (first|apply Kd.R_alloc|apply Kd.R_drewN|apply Kd.R_drew));exact HO135.out) (Kd.R_base ho0) hb);have n1_ := Aside0.mk (Kd.R_lower (Kd.R_new' ho0 (Kd.R_lt (by (with_reducible repeat (first|apply Kd.R_alloc|apply Kd.R_drewN|apply Kd.R_drew));exact HO135.out))) (below_size (by repeat (with_reducible first|exact HB.out|apply xa|apply xb|apply xc))));have n2_ := Aside0.mk (below_step (by repeat (with_reducible first|exact HB.out|apply xa|apply xb|apply xc)) hb);clear HO135;clear HB;have HO135 := n0_;have HO138 := n1_;have HB := n2_;clear n0_ n1_ n2_;(try clear hb);(try clear hb2);(try clear hk);(try clear hi);(try clear ho0);obtain ⟨Ao23, co23, eo23⟩ := Kd.R_slice HO135.out;subst eo23;obtain ⟨Ao24, co24, eo24⟩ := Kd.R_slice HO138.out;subst eo24)))
    go_ret
    exact ⟨by first|rfl|(simp [errW_none, errW_some] <;> rfl)|(simp only [← hji2];first|rfl|(simp [errW_none, errW_some] <;> rfl))|(simp [*, errW_none, errW_some] <;> rfl), by repeat (with_reducible first|exact HB.out|apply xa|apply xb|apply xc)⟩
  ·rw [if_neg c4] at H
   exact absurd H (by simp)
 ·rw [if_neg c3] at H
  exact absurd H (by simp)

/-! ### pinfoldref09_Dec: function 53 -/
mutual
def pinfoldref09_Dec.l0 : Nat → Int → ByteArray → Int → Option (ByteArray)
 | 0, _, _, _ => none
 | k + 1, x0, x3, x4 => if x4 < 19 then (pinfoldref09_Dec.j1 k x0 x3 x4 true) else (pinfoldref09_Dec.j1 k x0 x3 x4 (x4 == 0))
def pinfoldref09_Dec.j1 : Nat → Int → ByteArray → Int → Bool → Option (ByteArray)
 | 0, _, _, _, _ => none
 | k + 1, x0, x3, x4, x11 => if x11 = true then (if (Int.tmod x0 10) < 0 then ((some (([(wrap64 (48 + (wrap64 (-(Int.tmod x0 10))))) % 256] : List Int) : List Int)).bind fun y142 => (if (strOfNums y142).size + x3.size ≤ 9223372036854775807 then (if x0 > (-10) then (if x0 < 10 then (if x0 < 0 then (if 1 + ((strOfNums y142) ++ x3).size ≤ 9223372036854775807 then (some ((⟨#[45]⟩ : ByteArray) ++ ((strOfNums y142) ++ x3))) else (none)) else (some ((strOfNums y142) ++ x3))) else (pinfoldref09_Dec.l0 k (wrap64 (Int.tdiv x0 10)) ((strOfNums y142) ++ x3) (wrap64 (x4 + 1)))) else (pinfoldref09_Dec.l0 k (wrap64 (Int.tdiv x0 10)) ((strOfNums y142) ++ x3) (wrap64 (x4 + 1)))) else (none))) else ((some (([(wrap64 (48 + (Int.tmod x0 10))) % 256] : List Int) : List Int)).bind fun y145 => (if (strOfNums y145).size + x3.size ≤ 9223372036854775807 then (if x0 > (-10) then (if x0 < 10 then (if x0 < 0 then (if 1 + ((strOfNums y145) ++ x3).size ≤ 9223372036854775807 then (some ((⟨#[45]⟩ : ByteArray) ++ ((strOfNums y145) ++ x3))) else (none)) else (some ((strOfNums y145) ++ x3))) else (pinfoldref09_Dec.l0 k (wrap64 (Int.tdiv x0 10)) ((strOfNums y145) ++ x3) (wrap64 (x4 + 1)))) else (pinfoldref09_Dec.l0 k (wrap64 (Int.tdiv x0 10)) ((strOfNums y145) ++ x3) (wrap64 (x4 + 1)))) else (none)))) else (if x0 < 0 then (if 1 + x3.size ≤ 9223372036854775807 then (some ((⟨#[45]⟩ : ByteArray) ++ x3)) else (none)) else (some x3))
end
def pinfoldref09_Dec.f (k : Nat) (a0 : Int) : Option (ByteArray) := pinfoldref09_Dec.l0 k a0 (⟨#[]⟩ : ByteArray) 0
theorem pinfoldref09_Dec.mono_l : ∀ k, (∀ y0 y1 y2, LeO (pinfoldref09_Dec.l0 k y0 y1 y2) (pinfoldref09_Dec.l0 (k + 1) y0 y1 y2)) ∧ (∀ y0 y1 y2 y3, LeO (pinfoldref09_Dec.j1 k y0 y1 y2 y3) (pinfoldref09_Dec.j1 (k + 1) y0 y1 y2 y3))
 | 0 => ⟨fun _ _ _ r h => by simp [pinfoldref09_Dec.l0] at h, fun _ _ _ _ r h => by simp [pinfoldref09_Dec.j1] at h⟩
 | k + 1 => by
  obtain ⟨ih0, ih1⟩ := pinfoldref09_Dec.mono_l k
  refine ⟨?_, ?_⟩
  ·intro y0 y1 y2
   unfold pinfoldref09_Dec.l0
   repeat' first
   | (with_reducible exact ih0 _ _ _)
   | (with_reducible exact ih1 _ _ _ _)
   | (with_reducible exact LeO.refl _)
   | (with_reducible exact LeO.none _)
   | (with_reducible refine LeO.ite ?_ ?_)
   | (with_reducible refine LeO.bind ?_ (fun _ => ?_))
   | exact ih0 _ _ _
   | exact ih1 _ _ _ _
   | exact LeO.none _
   | refine LeO.ite ?_ ?_
   | refine LeO.bind ?_ (fun _ => ?_)
  ·intro y0 y1 y2 y3
   unfold pinfoldref09_Dec.j1
   repeat' first
   | (with_reducible exact ih0 _ _ _)
   | (with_reducible exact ih1 _ _ _ _)
   | (with_reducible exact LeO.refl _)
   | (with_reducible exact LeO.none _)
   | (with_reducible refine LeO.ite ?_ ?_)
   | (with_reducible refine LeO.bind ?_ (fun _ => ?_))
   | exact ih0 _ _ _
   | exact ih1 _ _ _ _
   | exact LeO.none _
   | refine LeO.ite ?_ ?_
   | refine LeO.bind ?_ (fun _ => ?_)
theorem pinfoldref09_Dec.mono : ∀ a0 k, LeO (pinfoldref09_Dec.f k a0) (pinfoldref09_Dec.f (k + 1) a0) := by
 intro a0 k
 obtain ⟨ih0, ih1⟩ := pinfoldref09_Dec.mono_l k
 unfold pinfoldref09_Dec.f
 repeat' first
   | (with_reducible exact ih0 _ _ _)
   | (with_reducible exact ih1 _ _ _ _)
   | (with_reducible exact LeO.refl _)
   | (with_reducible exact LeO.none _)
   | (with_reducible refine LeO.ite ?_ ?_)
   | (with_reducible refine LeO.bind ?_ (fun _ => ?_))
   | exact ih0 _ _ _
   | exact ih1 _ _ _ _
   | exact LeO.none _
   | refine LeO.ite ?_ ?_
   | refine LeO.bind ?_ (fun _ => ?_)
set_option maxHeartbeats 8000000 in
set_option maxRecDepth 100000 in
theorem pinfoldref09_Dec.calls (k : Nat) (a0 : Int) (r : ByteArray) (w : World) (h : pinfoldref09_Dec.f k a0 = some r) :
  Calls Try.prog 53 #[.int .i64 a0] w fun e w' => e = .returned (.string r) ∧ Below w.heap.size w w' := by
 have HB := Aside0.mk (Below.refl w.heap.size w)
 have H : (pinfoldref09_Dec.l0 k a0 (⟨#[]⟩ : ByteArray) 0) = some r := h
 clear h
 have H' := Aside0.mk H
 clear H
 go_enter Try.func53, Try.ntmps53
 go_wp2
 go_loopg [0, 3, 4] k (fun kq v0 v3 v4 w' => ∃ (x0_1 : Int) (x3_1 : ByteArray) (x4_1 : Int), v0 = .int .i64 x0_1 ∧ v3 = .string x3_1 ∧ v4 = .int .i64 x4_1 ∧ Aside0 (pinfoldref09_Dec.l0 kq x0_1 x3_1 x4_1 = some r) ∧ Aside0 (kq ≤ k) ∧ Aside0 (Below w.heap.size w w'))
 case atStart => exact ⟨(a0), ((⟨#[]⟩ : ByteArray)), (0), (by first|rfl|(simp;done)|(simp [*];done)), (by first|rfl|(simp;done)|(simp [*];done)), (by first|rfl|(simp;done)|(simp [*];done)), H', ⟨Nat.le_refl _⟩, ⟨by repeat (with_reducible first|exact HB.out|apply xa|apply xb|apply xc)⟩⟩
 case round =>
  clear H'
  obtain ⟨x0_1, x3_1, x4_1, rfl, rfl, rfl, HA, HK1, HB⟩ := hrel
  cases gk with
  | zero => exact absurd HA.out (by simp [pinfoldref09_Dec.l0])
  | succ k1 =>
   have H := HA.out
   clear HA
   simp only [pinfoldref09_Dec.l0] at H
   have HC2 := Aside0.mk H
   clear H
   go_upto_region 3 with (fail)
   go_cut [11] (fun v11 wc => ∃ (kq : Nat) (x11_1 : Bool), v11 = .bool x11_1 ∧ Aside0 (pinfoldref09_Dec.j1 kq x0_1 x3_1 x4_1 x11_1 = some r) ∧ Aside0 (kq ≤ k1) ∧ Aside0 (Below w.heap.size w wc))
   case first =>
    have H := HC2.out
    clear HC2
    by_cases c3 : x4_1 < 19
    ·rw [if_pos c3] at H
     have c3b0 : decide (x4_1 < 19) = true := decide_eq_true c3
     clear c3
     (first|rw [c3b0]|(simp only [i64_w, i32_w];rw [c3b0])|skip)
     have H' := Aside0.mk H
     clear H
     go_wp2
     go_meet
     case rel => exact ⟨_, (true), (by first|rfl|(simp;done)|(simp [*];done)), H', ⟨by have := HK1.out;first|omega|exact Nat.le_refl _⟩, ⟨by repeat (with_reducible first|exact HB.out|apply xa|apply xb|apply xc)⟩⟩
    ·rw [if_neg c3] at H
     have c3b0 : decide (x4_1 < 19) = false := decide_eq_false c3
     clear c3
     (first|rw [c3b0]|(simp only [i64_w, i32_w];rw [c3b0])|skip)
     have H' := Aside0.mk H
     clear H
     go_wp2
     go_meet
     case rel => exact ⟨_, ((x4_1 == 0)), (by first|rfl|(simp;done)|(simp [*];done)), H', ⟨by have := HK1.out;first|omega|exact Nat.le_refl _⟩, ⟨by repeat (with_reducible first|exact HB.out|apply xa|apply xb|apply xc)⟩⟩
   case rest =>
    clear HC2
    try clear p2
    try clear c3
    try clear c3b0
    obtain ⟨kq, x11_1, rfl, HA, HJ1, HB⟩ := hcut
    cases kq with
    | zero => exact absurd HA.out (by simp [pinfoldref09_Dec.j1])
    | succ kj1 =>
     have H := HA.out
     clear HA
     simp only [pinfoldref09_Dec.j1] at H
     by_cases c4 : x11_1 = true
     ·subst c4
      have H1 : (if (Int.tmod x0_1 10) < 0 then ((some (([(wrap64 (48 + (wrap64 (-(Int.tmod x0_1 10))))) % 256] : List Int) : List Int)).bind fun y142 => (if (strOfNums y142).size + x3_1.size ≤ 9223372036854775807 then (if x0_1 > (-10) then (if x0_1 < 10 then (if x0_1 < 0 then (if 1 + ((strOfNums y142) ++ x3_1).size ≤ 9223372036854775807 then (some ((⟨#[45]⟩ : ByteArray) ++ ((strOfNums y142) ++ x3_1))) else (none)) else (some ((strOfNums y142) ++ x3_1))) else (pinfoldref09_Dec.l0 kj1 (wrap64 (Int.tdiv x0_1 10)) ((strOfNums y142) ++ x3_1) (wrap64 (x4_1 + 1)))) else (pinfoldref09_Dec.l0 kj1 (wrap64 (Int.tdiv x0_1 10)) ((strOfNums y142) ++ x3_1) (wrap64 (x4_1 + 1)))) else (none))) else ((some (([(wrap64 (48 + (Int.tmod x0_1 10))) % 256] : List Int) : List Int)).bind fun y145 => (if (strOfNums y145).size + x3_1.size ≤ 9223372036854775807 then (if x0_1 > (-10) then (if x0_1 < 10 then (if x0_1 < 0 then (if 1 + ((strOfNums y145) ++ x3_1).size ≤ 9223372036854775807 then (some ((⟨#[45]⟩ : ByteArray) ++ ((strOfNums y145) ++ x3_1))) else (none)) else (some ((strOfNums y145) ++ x3_1))) else (pinfoldref09_Dec.l0 kj1 (wrap64 (Int.tdiv x0_1 10)) ((strOfNums y145) ++ x3_1) (wrap64 (x4_1 + 1)))) else (pinfoldref09_Dec.l0 kj1 (wrap64 (Int.tdiv x0_1 10)) ((strOfNums y145) ++ x3_1) (wrap64 (x4_1 + 1)))) else (none)))) = some r := by rw [if_pos rfl] at H;exact H
      clear H
      have H := H1
      clear H1
      by_cases c5 : (Int.tmod x0_1 10) < 0
      ·rw [if_pos c5] at H
       have c5b0 : decide ((Int.tmod x0_1 10) < 0) = true := decide_eq_true c5
       clear c5
       obtain ⟨y142, hy142⟩ : ∃ y_ : List Int, y_ = (([(wrap64 (48 + (wrap64 (-(Int.tmod x0_1 10))))) % 256] : List Int)) := ⟨_, rfl⟩
       replace H : (if (strOfNums y142).size + x3_1.size ≤ 9223372036854775807 then (if x0_1 > (-10) then (if x0_1 < 10 then (if x0_1 < 0 then (if 1 + ((strOfNums y142) ++ x3_1).size ≤ 9223372036854775807 then (some ((⟨#[45]⟩ : ByteArray) ++ ((strOfNums y142) ++ x3_1))) else (none)) else (some ((strOfNums y142) ++ x3_1))) else (pinfoldref09_Dec.l0 kj1 (wrap64 (Int.tdiv x0_1 10)) ((strOfNums y142) ++ x3_1) (wrap64 (x4_1 + 1)))) else (pinfoldref09_Dec.l0 kj1 (wrap64 (Int.tdiv x0_1 10)) ((strOfNums y142) ++ x3_1) (wrap64 (x4_1 + 1)))) else (none)) = some r := by first|(rw [hy142];with_reducible exact H)|(have H2_ := (Option.bind_some _ _).symm.trans H;rw [hy142];with_reducible exact H2_)|(have H2_ := (Option.bind_some _ _).symm.trans H;with_reducible exact H2_)|with_reducible exact H|(rw [hy142];exact H)|exact H
       have Ny142 := Aside0.mk hy142
       clear hy142
       by_cases c6 : (strOfNums y142).size + x3_1.size ≤ 9223372036854775807
       ·rw [if_pos c6] at H
        have c6b0 := eq_true c6
        have c6b1 : decide ((strOfNums y142).size + x3_1.size ≤ 9223372036854775807) = true := decide_eq_true c6
        try have c6b2 : (9223372036854775807 < (strOfNums y142).size + x3_1.size) = False := eq_false (Nat.not_lt.2 c6)
        by_cases c7 : x0_1 > (-10)
        ·rw [if_pos c7] at H
         have c7b0 : decide ((-10) < x0_1) = true := decide_eq_true c7
         clear c7
         by_cases c8 : x0_1 < 10
         ·rw [if_pos c8] at H
          have c8b0 : decide (x0_1 < 10) = true := decide_eq_true c8
          clear c8
          by_cases c9 : x0_1 < 0
          ·rw [if_pos c9] at H
           have c9b0 : decide (x0_1 < 0) = true := decide_eq_true c9
           clear c9
           by_cases c10 : 1 + ((strOfNums y142) ++ x3_1).size ≤ 9223372036854775807
           ·rw [if_pos c10] at H
            have c10b0 := eq_true c10
            have c10b1 : decide (1 + ((strOfNums y142) ++ x3_1).size ≤ 9223372036854775807) = true := decide_eq_true c10
            try have c10b2 : (9223372036854775807 < 1 + ((strOfNums y142) ++ x3_1).size) = False := eq_false (Nat.not_lt.2 c10)
            have c10b3 := c10b2
            (try simp only [ByteArray.size_append] at c10b3)
            obtain rfl := Option.some.inj H
            go_wp2_with (first|((with_reducible refine gate_dst (N := 23) rfl ?_);refine Kd.R_lit (Kd.int .u8) _ 5 ?hg (N := 23) ?hd (xs := ([(wrap64 (48 + (wrap64 (-(Int.tmod x0_1 10))))) % 256] : List Int)) (inner := [.int .u8 ((wrap64 (48 + (wrap64 (-(Int.tmod x0_1 10))))) % 256)]) (ok := fun _ => True) (okp := fun _ => True) ?hr ?hp (fun _ hk => hk) trivial (Below.refl _ _) (Nat.le_refl _) (by simp) ?_;(case hd => rfl);(case hg => rfl);(case hr => first|(go_simp;done)|(go_simp;rfl));(case hp => exact (Reps.one (show Kd.M (Kd.int .u8) _ _ _ ((wrap64 (48 + (wrap64 (-(Int.tmod x0_1 10))))) % 256) [.int .u8 ((wrap64 (48 + (wrap64 (-(Int.tmod x0_1 10))))) % 256)] from rfl) (Reps.none _ _)));intro v143 w11 ho12 hb hg_ hnew_;clear hg_ hnew_;(first|rw [← Ny142.out] at ho12|(simp only [Int.reduceToNat] at ho12;rw [← Ny142.out] at ho12));have n0_ := Aside0.mk (Kd.R_lower ho12 (below_size (by repeat (with_reducible first|exact HB.out|apply xa|apply xb|apply xc))));have n1_ := Aside0.mk (below_step (by repeat (with_reducible first|exact HB.out|apply xa|apply xb|apply xc)) hb);clear HB;have HO144 := n0_;have HB := n1_;clear n0_ n1_;clear hb ho12;have hcv13 := own_string (P := Try.prog) Try.underlying92 Try.underlying5 Try.underlying9 (Kd.own_of_R HO144.out)))
            go_ret
            exact ⟨by first|rfl|(simp [errW_none, errW_some] <;> rfl)|(simp [*, errW_none, errW_some] <;> rfl), by repeat (with_reducible first|exact HB.out|apply xa|apply xb|apply xc)⟩
           ·rw [if_neg c10] at H
            exact absurd H (by simp)
          ·rw [if_neg c9] at H
           have c9b0 : decide (x0_1 < 0) = false := decide_eq_false c9
           clear c9
           obtain rfl := Option.some.inj H
           go_wp2_with (first|((with_reducible refine gate_dst (N := 23) rfl ?_);refine Kd.R_lit (Kd.int .u8) _ 5 ?hg (N := 23) ?hd (xs := ([(wrap64 (48 + (wrap64 (-(Int.tmod x0_1 10))))) % 256] : List Int)) (inner := [.int .u8 ((wrap64 (48 + (wrap64 (-(Int.tmod x0_1 10))))) % 256)]) (ok := fun _ => True) (okp := fun _ => True) ?hr ?hp (fun _ hk => hk) trivial (Below.refl _ _) (Nat.le_refl _) (by simp) ?_;(case hd => rfl);(case hg => rfl);(case hr => first|(go_simp;done)|(go_simp;rfl));(case hp => exact (Reps.one (show Kd.M (Kd.int .u8) _ _ _ ((wrap64 (48 + (wrap64 (-(Int.tmod x0_1 10))))) % 256) [.int .u8 ((wrap64 (48 + (wrap64 (-(Int.tmod x0_1 10))))) % 256)] from rfl) (Reps.none _ _)));intro v143 w14 ho15 hb hg_ hnew_;clear hg_ hnew_;(first|rw [← Ny142.out] at ho15|(simp only [Int.reduceToNat] at ho15;rw [← Ny142.out] at ho15));have n0_ := Aside0.mk (Kd.R_lower ho15 (below_size (by repeat (with_reducible first|exact HB.out|apply xa|apply xb|apply xc))));have n1_ := Aside0.mk (below_step (by repeat (with_reducible first|exact HB.out|apply xa|apply xb|apply xc)) hb);clear HB;have HO144 := n0_;have HB := n1_;clear n0_ n1_;clear hb ho15;have hcv16 := own_string (P := Try.prog) Try.underlying92 Try.underlying5 Try.underlying9 (Kd.own_of_R HO144.out)))
           go_ret
           exact ⟨by first|rfl|(simp [errW_none, errW_some] <;> rfl)|(simp [*, errW_none, errW_some] <;> rfl), by repeat (with_reducible first|exact HB.out|apply xa|apply xb|apply xc)⟩
         ·rw [if_neg c8] at H
          have c8b0 : decide (x0_1 < 10) = false := decide_eq_false c8
          clear c8
          have H' := Aside0.mk H
          clear H
          go_wp2_with (first|((with_reducible refine gate_dst (N := 23) rfl ?_);refine Kd.R_lit (Kd.int .u8) _ 5 ?hg (N := 23) ?hd (xs := ([(wrap64 (48 + (wrap64 (-(Int.tmod x0_1 10))))) % 256] : List Int)) (inner := [.int .u8 ((wrap64 (48 + (wrap64 (-(Int.tmod x0_1 10))))) % 256)]) (ok := fun _ => True) (okp := fun _ => True) ?hr ?hp (fun _ hk => hk) trivial (Below.refl _ _) (Nat.le_refl _) (by simp) ?_;(case hd => rfl);(case hg => rfl);(case hr => first|(go_simp;done)|(go_simp;rfl));(case hp => exact (Reps.one (show Kd.M (Kd.int .u8) _ _ _ ((wrap64 (48 + (wrap64 (-(Int.tmod x0_1 10))))) % 256) [.int .u8 ((wrap64 (48 + (wrap64 (-(Int.tmod x0_1 10))))) % 256)] from rfl) (Reps.none _ _)));intro v143 w17 ho18 hb hg_ hnew_;clear hg_ hnew_;(first|rw [← Ny142.out] at ho18|(simp only [Int.reduceToNat] at ho18;rw [← Ny142.out] at ho18));have n0_ := Aside0.mk (Kd.R_lower ho18 (below_size (by repeat (with_reducible first|exact HB.out|apply xa|apply xb|apply xc))));have n1_ := Aside0.mk (below_step (by repeat (with_reducible first|exact HB.out|apply xa|apply xb|apply xc)) hb);clear HB;have HO144 := n0_;have HB := n1_;clear n0_ n1_;clear hb ho18;have hcv19 := own_string (P := Try.prog) Try.underlying92 Try.underlying5 Try.underlying9 (Kd.own_of_R HO144.out)))
          go_roundg kj1
          case measure => have := HK1.out;have := HJ1.out;omega
          case rel => exact ⟨(wrap64 (Int.tdiv x0_1 10)), ((strOfNums y142) ++ x3_1), (wrap64 (x4_1 + 1)), (by first|rfl|(simp;done)|(simp [*];done)), (by first|rfl|(simp;done)|(simp [*];done)), (by first|rfl|(simp;done)|(simp [*];done)), H', ⟨by have := HK1.out;have := HJ1.out;omega⟩, ⟨by repeat (with_reducible first|exact HB.out|apply xa|apply xb|apply xc)⟩⟩
        ·rw [if_neg c7] at H
         have c7b0 : decide ((-10) < x0_1) = false := decide_eq_false c7
         clear c7
         have H' := Aside0.mk H
         clear H
         go_wp2_with (first|((with_reducible refine gate_dst (N := 23) rfl ?_);refine Kd.R_lit (Kd.int .u8) _ 5 ?hg (N := 23) ?hd (xs := ([(wrap64 (48 + (wrap64 (-(Int.tmod x0_1 10))))) % 256] : List Int)) (inner := [.int .u8 ((wrap64 (48 + (wrap64 (-(Int.tmod x0_1 10))))) % 256)]) (ok := fun _ => True) (okp := fun _ => True) ?hr ?hp (fun _ hk => hk) trivial (Below.refl _ _) (Nat.le_refl _) (by simp) ?_;(case hd => rfl);(case hg => rfl);(case hr => first|(go_simp;done)|(go_simp;rfl));(case hp => exact (Reps.one (show Kd.M (Kd.int .u8) _ _ _ ((wrap64 (48 + (wrap64 (-(Int.tmod x0_1 10))))) % 256) [.int .u8 ((wrap64 (48 + (wrap64 (-(Int.tmod x0_1 10))))) % 256)] from rfl) (Reps.none _ _)));intro v143 w20 ho21 hb hg_ hnew_;clear hg_ hnew_;(first|rw [← Ny142.out] at ho21|(simp only [Int.reduceToNat] at ho21;rw [← Ny142.out] at ho21));have n0_ := Aside0.mk (Kd.R_lower ho21 (below_size (by repeat (with_reducible first|exact HB.out|apply xa|apply xb|apply xc))));have n1_ := Aside0.mk (below_step (by repeat (with_reducible first|exact HB.out|apply xa|apply xb|apply xc)) hb);clear HB;have HO144 := n0_;have HB := n1_;clear n0_ n1_;clear hb ho21;have hcv22 := own_string (P := Try.prog) Try.underlying92 Try.underlying5 Try.underlying9 (Kd.own_of_R HO144.out)))
         go_roundg kj1
         case measure => have := HK1.out;have := HJ1.out;omega
         case rel => exact ⟨(wrap64 (Int.tdiv x0_1 10)), ((strOfNums y142) ++ x3_1), (wrap64 (x4_1 + 1)), (by first|rfl|(simp;done)|(simp [*];done)), (by first|rfl|(simp;done)|(simp [*];done)), (by first|rfl|(simp;done)|(simp [*];done)), H', ⟨by have := HK1.out;have := HJ1.out;omega⟩, ⟨by repeat (with_reducible first|exact HB.out|apply xa|apply xb|apply xc)⟩⟩
       ·rw [if_neg c6] at H
        exact absurd H (by simp)
      ·rw [if_neg c5] at H
       have c5b0 : decide ((Int.tmod x0_1 10) < 0) = false := decide_eq_false c5
       clear c5
       obtain ⟨y145, hy145⟩ : ∃ y_ : List Int, y_ = (([(wrap64 (48 + (Int.tmod x0_1 10))) % 256] : List Int)) := ⟨_, rfl⟩
       replace H : (if (strOfNums y145).size + x3_1.size ≤ 9223372036854775807 then (if x0_1 > (-10) then (if x0_1 < 10 then (if x0_1 < 0 then (if 1 + ((strOfNums y145) ++ x3_1).size ≤ 9223372036854775807 then (some ((⟨#[45]⟩ : ByteArray) ++ ((strOfNums y145) ++ x3_1))) else (none)) else (some ((strOfNums y145) ++ x3_1))) else (pinfoldref09_Dec.l0 kj1 (wrap64 (Int.tdiv x0_1 10)) ((strOfNums y145) ++ x3_1) (wrap64 (x4_1 + 1)))) else (pinfoldref09_Dec.l0 kj1 (wrap64 (Int.tdiv x0_1 10)) ((strOfNums y145) ++ x3_1) (wrap64 (x4_1 + 1)))) else (none)) = some r := by first|(rw [hy145];with_reducible exact H)|(have H2_ := (Option.bind_some _ _).symm.trans H;rw [hy145];with_reducible exact H2_)|(have H2_ := (Option.bind_some _ _).symm.trans H;with_reducible exact H2_)|with_reducible exact H|(rw [hy145];exact H)|exact H
       have Ny145 := Aside0.mk hy145
       clear hy145
       by_cases c23 : (strOfNums y145).size + x3_1.size ≤ 9223372036854775807
       ·rw [if_pos c23] at H
        have c23b0 := eq_true c23
        have c23b1 : decide ((strOfNums y145).size + x3_1.size ≤ 9223372036854775807) = true := decide_eq_true c23
        try have c23b2 : (9223372036854775807 < (strOfNums y145).size + x3_1.size) = False := eq_false (Nat.not_lt.2 c23)
        by_cases c24 : x0_1 > (-10)
        ·rw [if_pos c24] at H
         have c24b0 : decide ((-10) < x0_1) = true := decide_eq_true c24
         clear c24
         by_cases c25 : x0_1 < 10
         ·rw [if_pos c25] at H
          have c25b0 : decide (x0_1 < 10) = true := decide_eq_true c25
          clear c25
          by_cases c26 : x0_1 < 0
          ·rw [if_pos c26] at H
           have c26b0 : decide (x0_1 < 0) = true := decide_eq_true c26
           clear c26
           by_cases c27 : 1 + ((strOfNums y145) ++ x3_1).size ≤ 9223372036854775807
           ·rw [if_pos c27] at H
            have c27b0 := eq_true c27
            have c27b1 : decide (1 + ((strOfNums y145) ++ x3_1).size ≤ 9223372036854775807) = true := decide_eq_true c27
            try have c27b2 : (9223372036854775807 < 1 + ((strOfNums y145) ++ x3_1).size) = False := eq_false (Nat.not_lt.2 c27)
            have c27b3 := c27b2
            (try simp only [ByteArray.size_append] at c27b3)
            obtain rfl := Option.some.inj H
            go_wp2_with (first|((with_reducible refine gate_dst (N := 23) rfl ?_);refine Kd.R_lit (Kd.int .u8) _ 5 ?hg (N := 23) ?hd (xs := ([(wrap64 (48 + (Int.tmod x0_1 10))) % 256] : List Int)) (inner := [.int .u8 ((wrap64 (48 + (Int.tmod x0_1 10))) % 256)]) (ok := fun _ => True) (okp := fun _ => True) ?hr ?hp (fun _ hk => hk) trivial (Below.refl _ _) (Nat.le_refl _) (by simp) ?_;(case hd => rfl);(case hg => rfl);(case hr => first|(go_simp;done)|(go_simp;rfl));(case hp => exact (Reps.one (show Kd.M (Kd.int .u8) _ _ _ ((wrap64 (48 + (Int.tmod x0_1 10))) % 256) [.int .u8 ((wrap64 (48 + (Int.tmod x0_1 10))) % 256)] from rfl) (Reps.none _ _)));intro v146 w28 ho29 hb hg_ hnew_;clear hg_ hnew_;(first|rw [← Ny145.out] at ho29|(simp only [Int.reduceToNat] at ho29;rw [← Ny145.out] at ho29));have n0_ := Aside0.mk (Kd.R_lower ho29 (below_size (by repeat (with_reducible first|exact HB.out|apply xa|apply xb|apply xc))));have n1_ := Aside0.mk (below_step (by repeat (with_reducible first|exact HB.out|apply xa|apply xb|apply xc)) hb);clear HB;have HO147 := n0_;have HB := n1_;clear n0_ n1_;clear hb ho29;have hcv30 := own_string (P := Try.prog) Try.underlying92 Try.underlying5 Try.underlying9 (Kd.own_of_R HO147.out)))
            go_ret
            exact ⟨by first|rfl|(simp [errW_none, errW_some] <;> rfl)|(simp [*, errW_none, errW_some] <;> rfl), by repeat (with_reducible first|exact HB.out|apply xa|apply xb|apply xc)⟩
           ·rw [if_neg c27] at H
            exact absurd H (by simp)
          ·rw [if_neg c26] at H
           have c26b0 : decide (x0_1 < 0) = false := decide_eq_false c26
           clear c26
           obtain rfl := Option.some.inj H
           go_wp2_with (first|((with_reducible refine gate_dst (N := 23) rfl ?_);refine Kd.R_lit (Kd.int .u8) _ 5 ?hg (N := 23) ?hd (xs := ([(wrap64 (48 + (Int.tmod x0_1 10))) % 256] : List Int)) (inner := [.int .u8 ((wrap64 (48 + (Int.tmod x0_1 10))) % 256)]) (ok := fun _ => True) (okp := fun _ => True) ?hr ?hp (fun _ hk => hk) trivial (Below.refl _ _) (Nat.le_refl _) (by simp) ?_;(case hd => rfl);(case hg => rfl);(case hr => first|(go_simp;done)|(go_simp;rfl));(case hp => exact (Reps.one (show Kd.M (Kd.int .u8) _ _ _ ((wrap64 (48 + (Int.tmod x0_1 10))) % 256) [.int .u8 ((wrap64 (48 + (Int.tmod x0_1 10))) % 256)] from rfl) (Reps.none _ _)));intro v146 w31 ho32 hb hg_ hnew_;clear hg_ hnew_;(first|rw [← Ny145.out] at ho32|(simp only [Int.reduceToNat] at ho32;rw [← Ny145.out] at ho32));have n0_ := Aside0.mk (Kd.R_lower ho32 (below_size (by repeat (with_reducible first|exact HB.out|apply xa|apply xb|apply xc))));have n1_ := Aside0.mk (below_step (by repeat (with_reducible first|exact HB.out|apply xa|apply xb|apply xc)) hb);clear HB;have HO147 := n0_;have HB := n1_;clear n0_ n1_;clear hb ho32;have hcv33 := own_string (P := Try.prog) Try.underlying92 Try.underlying5 Try.underlying9 (Kd.own_of_R HO147.out)))
           go_ret
           exact ⟨by first|rfl|(simp [errW_none, errW_some] <;> rfl)|(simp [*, errW_none, errW_some] <;> rfl), by repeat (with_reducible first|exact HB.out|apply xa|apply xb|apply xc)⟩
         ·rw [if_neg c25] at H
          have c25b0 : decide (x0_1 < 10) = false := decide_eq_false c25
          clear c25
          have H' := Aside0.mk H
          clear H
          go_wp2_with (first|((with_reducible refine gate_dst (N := 23) rfl ?_);refine Kd.R_lit (Kd.int .u8) _ 5 ?hg (N := 23) ?hd (xs := ([(wrap64 (48 + (Int.tmod x0_1 10))) % 256] : List Int)) (inner := [.int .u8 ((wrap64 (48 + (Int.tmod x0_1 10))) % 256)]) (ok := fun _ => True) (okp := fun _ => True) ?hr ?hp (fun _ hk => hk) trivial (Below.refl _ _) (Nat.le_refl _) (by simp) ?_;(case hd => rfl);(case hg => rfl);(case hr => first|(go_simp;done)|(go_simp;rfl));(case hp => exact (Reps.one (show Kd.M (Kd.int .u8) _ _ _ ((wrap64 (48 + (Int.tmod x0_1 10))) % 256) [.int .u8 ((wrap64 (48 + (Int.tmod x0_1 10))) % 256)] from rfl) (Reps.none _ _)));intro v146 w34 ho35 hb hg_ hnew_;clear hg_ hnew_;(first|rw [← Ny145.out] at ho35|(simp only [Int.reduceToNat] at ho35;rw [← Ny145.out] at ho35));have n0_ := Aside0.mk (Kd.R_lower ho35 (below_size (by repeat (with_reducible first|exact HB.out|apply xa|apply xb|apply xc))));have n1_ := Aside0.mk (below_step (by repeat (with_reducible first|exact HB.out|apply xa|apply xb|apply xc)) hb);clear HB;have HO147 := n0_;have HB := n1_;clear n0_ n1_;clear hb ho35;have hcv36 := own_string (P := Try.prog) Try.underlying92 Try.underlying5 Try.underlying9 (Kd.own_of_R HO147.out)))
          go_roundg kj1
          case measure => have := HK1.out;have := HJ1.out;omega
          case rel => exact ⟨(wrap64 (Int.tdiv x0_1 10)), ((strOfNums y145) ++ x3_1), (wrap64 (x4_1 + 1)), (by first|rfl|(simp;done)|(simp [*];done)), (by first|rfl|(simp;done)|(simp [*];done)), (by first|rfl|(simp;done)|(simp [*];done)), H', ⟨by have := HK1.out;have := HJ1.out;omega⟩, ⟨by repeat (with_reducible first|exact HB.out|apply xa|apply xb|apply xc)⟩⟩
        ·rw [if_neg c24] at H
         have c24b0 : decide ((-10) < x0_1) = false := decide_eq_false c24
         clear c24
         have H' := Aside0.mk H
         clear H
         go_wp2_with (first|((with_reducible refine gate_dst (N := 23) rfl ?_);refine Kd.R_lit (Kd.int .u8) _ 5 ?hg (N := 23) ?hd (xs := ([(wrap64 (48 + (Int.tmod x0_1 10))) % 256] : List Int)) (inner := [.int .u8 ((wrap64 (48 + (Int.tmod x0_1 10))) % 256)]) (ok := fun _ => True) (okp := fun _ => True) ?hr ?hp (fun _ hk => hk) trivial (Below.refl _ _) (Nat.le_refl _) (by simp) ?_;(case hd => rfl);(case hg => rfl);(case hr => first|(go_simp;done)|(go_simp;rfl));(case hp => exact (Reps.one (show Kd.M (Kd.int .u8) _ _ _ ((wrap64 (48 + (Int.tmod x0_1 10))) % 256) [.int .u8 ((wrap64 (48 + (Int.tmod x0_1 10))) % 256)] from rfl) (Reps.none _ _)));intro v146 w37 ho38 hb hg_ hnew_;clear hg_ hnew_;(first|rw [← Ny145.out] at ho38|(simp only [Int.reduceToNat] at ho38;rw [← Ny145.out] at ho38));have n0_ := Aside0.mk (Kd.R_lower ho38 (below_size (by repeat (with_reducible first|exact HB.out|apply xa|apply xb|apply xc))));have n1_ := Aside0.mk (below_step (by repeat (with_reducible first|exact HB.out|apply xa|apply xb|apply xc)) hb);clear HB;have HO147 := n0_;have HB := n1_;clear n0_ n1_;clear hb ho38;have hcv39 := own_string (P := Try.prog) Try.underlying92 Try.underlying5 Try.underlying9 (Kd.own_of_R HO147.out)))
         go_roundg kj1
         case measure => have := HK1.out;have := HJ1.out;omega
         case rel => exact ⟨(wrap64 (Int.tdiv x0_1 10)), ((strOfNums y145) ++ x3_1), (wrap64 (x4_1 + 1)), (by first|rfl|(simp;done)|(simp [*];done)), (by first|rfl|(simp;done)|(simp [*];done)), (by first|rfl|(simp;done)|(simp [*];done)), H', ⟨by have := HK1.out;have := HJ1.out;omega⟩, ⟨by repeat (with_reducible first|exact HB.out|apply xa|apply xb|apply xc)⟩⟩
       ·rw [if_neg c23] at H
        exact absurd H (by simp)
     ·replace c4 := Bool.eq_false_iff.mpr c4
      subst c4
      have H1 : (if x0_1 < 0 then (if 1 + x3_1.size ≤ 9223372036854775807 then (some ((⟨#[45]⟩ : ByteArray) ++ x3_1)) else (none)) else (some x3_1)) = some r := by rw [if_neg (show ¬ (false = true) by decide)] at H;exact H
      clear H
      have H := H1
      clear H1
      by_cases c40 : x0_1 < 0
      ·rw [if_pos c40] at H
       have c40b0 : decide (x0_1 < 0) = true := decide_eq_true c40
       clear c40
       by_cases c41 : 1 + x3_1.size ≤ 9223372036854775807
       ·rw [if_pos c41] at H
        have c41b0 := eq_true c41
        have c41b1 : decide (1 + x3_1.size ≤ 9223372036854775807) = true := decide_eq_true c41
        try have c41b2 : (9223372036854775807 < 1 + x3_1.size) = False := eq_false (Nat.not_lt.2 c41)
        have c41b3 := c41b2
        (try simp only [ByteArray.size_append] at c41b3)
        obtain rfl := Option.some.inj H
        go_wp2
        go_ret
        exact ⟨by first|rfl|(simp [errW_none, errW_some] <;> rfl)|(simp [*, errW_none, errW_some] <;> rfl), by repeat (with_reducible first|exact HB.out|apply xa|apply xb|apply xc)⟩
       ·rw [if_neg c41] at H
        exact absurd H (by simp)
      ·rw [if_neg c40] at H
       have c40b0 : decide (x0_1 < 0) = false := decide_eq_false c40
       clear c40
       obtain rfl := Option.some.inj H
       go_wp2
       go_ret
       exact ⟨by first|rfl|(simp [errW_none, errW_some] <;> rfl)|(simp [*, errW_none, errW_some] <;> rfl), by repeat (with_reducible first|exact HB.out|apply xa|apply xb|apply xc)⟩

end Go.Proofs.Ytkegdcnnankokaa.PGan
