/- Functions of the program as Lean functions, and proofs that the code comes to their answers: printed by this session's program. -/
import Derived.Test.YtgiimdoabkcoaaaPLintx0
import Derived.Test.YtgiimdoabkcoaaaPLintx1
import Derived.Test.YtgiimdoabkcoaaaPLintx4
import Derived.Test.YtgiimdoabkcoaaaPLintx6
namespace Go.Proofs.Ytgiimdoabkcoaaa.PLint
open Go.RowKit Go.Proofs.YtgiimdoabkcoaaaW.PrintWords Go.Proofs.YtgiimdoabkcoaaaW.PrintLast Go.Proofs.YtgiimdoabkcoaaaW.PrintMore
attribute [local go_sem] max2_int min2_int max_two min_two max_three min_three max_four min_four   -- for this text's walks alone
set_option linter.unusedVariables false
set_option linter.unusedSimpArgs false

/-! ### pinfoldlaw26_lives: function 16 -/
def pinfoldlaw26_lives.f (k : Nat)  : Option (Bool) := (some (([(⟨9, 0, 0, 2⟩ : S41), (⟨13, 0, 0, 0⟩ : S41), (⟨14, 0, 0, 0⟩ : S41)] : List (S41)) : List (S41))).bind fun y218 => ((lint_May.f k 0 y218 3).bind fun t222 => ((lint_Must.f k 0 y218 3).bind fun t225 => (if (t222.length : Int) = 3 then (if (t225.length : Int) = 3 then (if 0 < (t222.length : Int) then (if (rd t222 0) = 0 then (if 1 < (t222.length : Int) then (if (rd t222 1) = 4 then (if 2 < (t222.length : Int) then (if (rd t222 2) = 4 then (if 2 < (t225.length : Int) then (if (rd t225 2) = 4 then ((lint_Leaks.f k 0 y218 3).bind fun t232 => ((pinfoldref04_Same.f k t232 (([2] : List Int))).bind fun t238 => (some t238))) else (some false)) else (none)) else (some false)) else (none)) else (some false)) else (none)) else (some false)) else (none)) else (some false)) else (some false))))
theorem pinfoldlaw26_lives.mono : ∀ k, LeO (pinfoldlaw26_lives.f k ) (pinfoldlaw26_lives.f (k + 1) ) := by
 intro  k
 unfold pinfoldlaw26_lives.f
 repeat' first
   | (with_reducible exact lint_Leaks.mono _ _ _ _)
   | (with_reducible exact lint_May.mono _ _ _ _)
   | (with_reducible exact lint_Must.mono _ _ _ _)
   | (with_reducible exact pinfoldref04_Same.mono _ _ _)
   | (with_reducible exact LeO.refl _)
   | (with_reducible exact LeO.none _)
   | (with_reducible refine LeO.ite ?_ ?_)
   | (with_reducible refine LeO.bind ?_ (fun _ => ?_))
   | exact lint_Leaks.mono _ _ _ _
   | exact lint_May.mono _ _ _ _
   | exact lint_Must.mono _ _ _ _
   | exact pinfoldref04_Same.mono _ _ _
   | exact LeO.none _
   | refine LeO.ite ?_ ?_
   | refine LeO.bind ?_ (fun _ => ?_)
set_option maxHeartbeats 8000000 in
set_option maxRecDepth 100000 in
theorem pinfoldlaw26_lives.calls (k : Nat)  (r : Bool) (w : World) (h : pinfoldlaw26_lives.f k  = some r) :
  Calls Try.prog 16 #[] w fun e w' => e = .returned (.bool r) ∧ Below w.heap.size w w' := by
 have hu41 := Try.underlying41
 have hu24 := Try.underlying24
 have HB := Aside0.mk (Below.refl w.heap.size w)
 have H : ((some (([(⟨9, 0, 0, 2⟩ : S41), (⟨13, 0, 0, 0⟩ : S41), (⟨14, 0, 0, 0⟩ : S41)] : List (S41)) : List (S41))).bind fun y218 => ((lint_May.f k 0 y218 3).bind fun t222 => ((lint_Must.f k 0 y218 3).bind fun t225 => (if (t222.length : Int) = 3 then (if (t225.length : Int) = 3 then (if 0 < (t222.length : Int) then (if (rd t222 0) = 0 then (if 1 < (t222.length : Int) then (if (rd t222 1) = 4 then (if 2 < (t222.length : Int) then (if (rd t222 2) = 4 then (if 2 < (t225.length : Int) then (if (rd t225 2) = 4 then ((lint_Leaks.f k 0 y218 3).bind fun t232 => ((pinfoldref04_Same.f k t232 (([2] : List Int))).bind fun t238 => (some t238))) else (some false)) else (none)) else (some false)) else (none)) else (some false)) else (none)) else (some false)) else (none)) else (some false)) else (some false))))) = some r := h
 clear h
 obtain ⟨y218, hy218⟩ : ∃ y_ : List (S41), y_ = (([(⟨9, 0, 0, 2⟩ : S41), (⟨13, 0, 0, 0⟩ : S41), (⟨14, 0, 0, 0⟩ : S41)] : List (S41))) := ⟨_, rfl⟩
 replace H : ((lint_May.f k 0 y218 3).bind fun t222 => ((lint_Must.f k 0 y218 3).bind fun t225 => (if (t222.length : Int) = 3 then (if (t225.length : Int) = 3 then (if 0 < (t222.length : Int) then (if (rd t222 0) = 0 then (if 1 < (t222.length : Int) then (if (rd t222 1) = 4 then (if 2 < (t222.length : Int) then (if (rd t222 2) = 4 then (if 2 < (t225.length : Int) then (if (rd t225 2) = 4 then ((lint_Leaks.f k 0 y218 3).bind fun t232 => ((pinfoldref04_Same.f k t232 (([2] : List Int))).bind fun t238 => (some t238))) else (some false)) else (none)) else (some false)) else (none)) else (some false)) else (none)) else (some false)) else (none)) else (some false)) else (some false)))) = some r := by first|(rw [hy218];with_reducible exact H)|(have H2_ := (Option.bind_some _ _).symm.trans H;rw [hy218];with_reducible exact H2_)|(have H2_ := (Option.bind_some _ _).symm.trans H;with_reducible exact H2_)|with_reducible exact H|(rw [hy218];exact H)|exact H
 have Ny218 := Aside0.mk hy218
 clear hy218
 replace H := Option.bind_eq_some_iff.mp H
 obtain ⟨t222, A10, H⟩ := H
 replace H : ((lint_Must.f k 0 y218 3).bind fun t225 => (if (t222.length : Int) = 3 then (if (t225.length : Int) = 3 then (if 0 < (t222.length : Int) then (if (rd t222 0) = 0 then (if 1 < (t222.length : Int) then (if (rd t222 1) = 4 then (if 2 < (t222.length : Int) then (if (rd t222 2) = 4 then (if 2 < (t225.length : Int) then (if (rd t225 2) = 4 then ((lint_Leaks.f k 0 y218 3).bind fun t232 => ((pinfoldref04_Same.f k t232 (([2] : List Int))).bind fun t238 => (some t238))) else (some false)) else (none)) else (some false)) else (none)) else (some false)) else (none)) else (some false)) else (none)) else (some false)) else (some false))) = some r := H
 have A1 := Aside0.mk A10
 clear A10
 replace H := Option.bind_eq_some_iff.mp H
 obtain ⟨t225, A20, H⟩ := H
 replace H : (if (t222.length : Int) = 3 then (if (t225.length : Int) = 3 then (if 0 < (t222.length : Int) then (if (rd t222 0) = 0 then (if 1 < (t222.length : Int) then (if (rd t222 1) = 4 then (if 2 < (t222.length : Int) then (if (rd t222 2) = 4 then (if 2 < (t225.length : Int) then (if (rd t225 2) = 4 then ((lint_Leaks.f k 0 y218 3).bind fun t232 => ((pinfoldref04_Same.f k t232 (([2] : List Int))).bind fun t238 => (some t238))) else (some false)) else (none)) else (some false)) else (none)) else (some false)) else (none)) else (some false)) else (none)) else (some false)) else (some false)) = some r := H
 have A2 := Aside0.mk A20
 clear A20
 by_cases c3 : (t222.length : Int) = 3
 ·rw [if_pos c3] at H
  have c3b0 : ((t222.length : Int) == 3) = true := beq_iff_eq.mpr c3
  have c3b1 : ((t222.length : Int) != 3) = false := bne_eq_false_iff_eq.mpr c3
  clear c3
  by_cases c4 : (t225.length : Int) = 3
  ·rw [if_pos c4] at H
   have c4b0 : ((t225.length : Int) == 3) = true := beq_iff_eq.mpr c4
   have c4b1 : ((t225.length : Int) != 3) = false := bne_eq_false_iff_eq.mpr c4
   clear c4
   by_cases c5 : 0 < (t222.length : Int)
   ·rw [if_pos c5] at H
    have c5b0 : decide (0 < (t222.length : Int)) = true := decide_eq_true c5
    have c5b1 : decide (0 < t222.length) = true := decide_eq_true (by omega)
    clear c5
    by_cases c6 : (rd t222 0) = 0
    ·rw [if_pos c6] at H
     have c6b0 : ((rd t222 0) == 0) = true := beq_iff_eq.mpr c6
     have c6b1 : ((rd t222 0) != 0) = false := bne_eq_false_iff_eq.mpr c6
     clear c6
     by_cases c7 : 1 < (t222.length : Int)
     ·rw [if_pos c7] at H
      have c7b0 : decide (1 < (t222.length : Int)) = true := decide_eq_true c7
      have c7b1 : decide (1 < t222.length) = true := decide_eq_true (by omega)
      clear c7
      by_cases c8 : (rd t222 1) = 4
      ·rw [if_pos c8] at H
       have c8b0 : ((rd t222 1) == 4) = true := beq_iff_eq.mpr c8
       have c8b1 : ((rd t222 1) != 4) = false := bne_eq_false_iff_eq.mpr c8
       clear c8
       by_cases c9 : 2 < (t222.length : Int)
       ·rw [if_pos c9] at H
        have c9b0 : decide (2 < (t222.length : Int)) = true := decide_eq_true c9
        have c9b1 : decide (2 < t222.length) = true := decide_eq_true (by omega)
        clear c9
        by_cases c10 : (rd t222 2) = 4
        ·rw [if_pos c10] at H
         have c10b0 : ((rd t222 2) == 4) = true := beq_iff_eq.mpr c10
         have c10b1 : ((rd t222 2) != 4) = false := bne_eq_false_iff_eq.mpr c10
         clear c10
         by_cases c11 : 2 < (t225.length : Int)
         ·rw [if_pos c11] at H
          have c11b0 : decide (2 < (t225.length : Int)) = true := decide_eq_true c11
          have c11b1 : decide (2 < t225.length) = true := decide_eq_true (by omega)
          clear c11
          by_cases c12 : (rd t225 2) = 4
          ·rw [if_pos c12] at H
           have c12b0 : ((rd t225 2) == 4) = true := beq_iff_eq.mpr c12
           have c12b1 : ((rd t225 2) != 4) = false := bne_eq_false_iff_eq.mpr c12
           clear c12
           replace H := Option.bind_eq_some_iff.mp H
           obtain ⟨t232, A130, H⟩ := H
           replace H : ((pinfoldref04_Same.f k t232 (([2] : List Int))).bind fun t238 => (some t238)) = some r := H
           have A13 := Aside0.mk A130
           clear A130
           obtain ⟨y235, hy235⟩ : ∃ y_ : List Int, y_ = (([2] : List Int)) := ⟨_, rfl⟩
           replace H : ((pinfoldref04_Same.f k t232 y235).bind fun t238 => (some t238)) = some r := by first|(rw [hy235];with_reducible exact H)|(have H2_ := (Option.bind_some _ _).symm.trans H;rw [hy235];with_reducible exact H2_)|(have H2_ := (Option.bind_some _ _).symm.trans H;with_reducible exact H2_)|with_reducible exact H|(rw [hy235];exact H)|exact H
           have Ny235 := Aside0.mk hy235
           clear hy235
           replace H := Option.bind_eq_some_iff.mp H
           obtain ⟨t238, A140, H⟩ := H
           replace H : (some t238) = some r := H
           have A14 := Aside0.mk A140
           clear A140
           obtain rfl := Option.some.inj H
           go_enter Try.func16, Try.ntmps16
           try go_wp2_with (first|((with_reducible refine gate_dst (N := 7) rfl ?_);(try (refine gate_guard (by rfl) ?_;dsimp only));refine Kd.R_lit k41 _ 41 ?hg (N := 7) ?hd (xs := ([(⟨9, 0, 0, 2⟩ : S41), (⟨13, 0, 0, 0⟩ : S41), (⟨14, 0, 0, 0⟩ : S41)] : List (S41))) (inner := [.int .i64 9, .int .i64 0, .int .i64 0, .int .i32 2, .int .i64 13, .int .i64 0, .int .i64 0, .int .i32 0, .int .i64 14, .int .i64 0, .int .i64 0, .int .i32 0]) (ok := fun _ => True) (okp := fun _ => True) ?hr ?hp (fun _ hk => hk) trivial (Below.refl _ _) (Nat.le_refl _) (by simp) ?_;(case hd => rfl);(case hg => rfl);(case hr => first|(go_simp;done)|(go_simp;rfl));(case hp => exact (Reps.c4 (show Kd.M k41 _ _ _ (⟨9, 0, 0, 2⟩ : S41) [.int .i64 9, .int .i64 0, .int .i64 0, .int .i32 2] from (k41_mkM _ _ _ (⟨9, 0, 0, 2⟩ : S41) )) (Reps.c4 (show Kd.M k41 _ _ _ (⟨13, 0, 0, 0⟩ : S41) [.int .i64 13, .int .i64 0, .int .i64 0, .int .i32 0] from (k41_mkM _ _ _ (⟨13, 0, 0, 0⟩ : S41) )) (Reps.c4 (show Kd.M k41 _ _ _ (⟨14, 0, 0, 0⟩ : S41) [.int .i64 14, .int .i64 0, .int .i64 0, .int .i32 0] from (k41_mkM _ _ _ (⟨14, 0, 0, 0⟩ : S41) )) (Reps.none _ _)))));intro v219 w15 ho16 hb hg_ hnew_;clear hg_ hnew_;(first|rw [← Ny218.out] at ho16|(simp only [Int.reduceToNat] at ho16;rw [← Ny218.out] at ho16));have n0_ := Aside0.mk (Kd.R_lower ho16 (below_size (by repeat (with_reducible first|exact HB.out|apply xa|apply xb|apply xc))));have n1_ := Aside0.mk (below_step (by repeat (with_reducible first|exact HB.out|apply xa|apply xb|apply xc)) hb);clear HB;have HO220 := n0_;have HB := n1_;clear n0_ n1_;clear hb ho16;obtain ⟨Ao17, co17, eo17⟩ := Kd.R_slice HO220.out;subst eo17)|((with_reducible refine gate_dst (N := 1) rfl ?_);(try (refine gate_guard (by rfl) ?_;dsimp only));refine box_event ?hg (N := 1) ?hd (cs := #[.int .i64 0, .slice none 0 0]) (t := 24) ?hr ?_;(case hd => rfl);(case hg => rfl);(case hr => first|(go_simp;done)|(go_simp;rfl));intro gb221 hg w18 hbox hb;have n0_ := Aside0.mk (Kd.R_below (by (with_reducible repeat (first|apply Kd.R_alloc|apply Kd.R_drewN|apply Kd.R_drew));exact HO220.out) hb);have n1_ := Aside0.mk (below_step (by repeat (with_reducible first|exact HB.out|apply xa|apply xb|apply xc)) hb);have n2_ := Aside0.mk (hbox);have n3_ := Aside0.mk ((by rw [hg];exact (below_size (by repeat (with_reducible first|exact HB.out|apply xa|apply xb|apply xc))) : w.heap.size ≤ gb221));have n4_ := Aside0.mk ((by rw [hg];exact (below_size (by repeat (with_reducible first|exact HB.out|apply xa|apply xb|apply xc))) : w.heap.size ≤ gb221));clear HO220;clear HB;have HO220 := n0_;have HB := n1_;have BK221 := n2_;have GW221 := n3_;have GE221 := n4_;clear n0_ n1_ n2_ n3_ n4_;clear hb hbox hg;have hcz19_0 : w18.cell? ⟨gb221, 0, none⟩ = some (.int .i64 0) := (blk_cell BK221.out 0).trans rfl;have hcz19_1 : w18.cell? ⟨gb221, 1, none⟩ = some (.slice none 0 0) := (blk_cell BK221.out 1).trans rfl;have hfz19_0 := blk_frozen BK221.out 0;have hfz19_1 := blk_frozen BK221.out 1))
           have n0_ : Aside0 (Kd.R k41 41 ((w18.setCell ⟨gb221, 0, none⟩ (.int .i64 0)).setCell ⟨gb221, 1, none⟩ (.slice Ao17 y218.length co17)) w.heap.size (fun _ => True) (.slice Ao17 y218.length co17) y218) := ⟨by (with_reducible repeat (first|apply Kd.R_alloc|apply Kd.R_drewN|apply Kd.R_drew));exact Kd.R_mono (Kd.R_far (p := ⟨gb221, 1, none⟩) (Kd.R_far (p := ⟨gb221, 0, none⟩) (Kd.R_types HO220.out BK221.out (by decide)) (fun _ hk => hk.2) (.int .i64 0)) (fun _ hk => hk.2) (.slice Ao17 y218.length co17)) (fun _ hk => trivial)⟩
           have n1_ : Aside0 (((w18.setCell ⟨gb221, 0, none⟩ (.int .i64 0)).setCell ⟨gb221, 1, none⟩ (.slice Ao17 y218.length co17)).heap[gb221]? = some (.cells #[.int .i64 0, .slice Ao17 y218.length co17] 24 (0, 0))) := ⟨by (with_reducible repeat (first|apply blk_drewN|apply blk_drew|apply blk_alloc));refine blk_put (cs := #[.int .i64 0, .slice none 0 0]) ?_ 1 _ rfl;(with_reducible repeat (first|apply blk_drewN|apply blk_drew|apply blk_alloc));refine blk_put (cs := #[.int .i64 0, .slice none 0 0]) ?_ 0 _ rfl;(with_reducible repeat (first|apply blk_drewN|apply blk_drew|apply blk_alloc));exact BK221.out⟩
           have n2_ : Aside0 (Below w.heap.size w ((w18.setCell ⟨gb221, 0, none⟩ (.int .i64 0)).setCell ⟨gb221, 1, none⟩ (.slice Ao17 y218.length co17))) := ⟨by repeat (first|(with_reducible first|exact HB.out|apply xa|apply xb|apply xc|refine below_set ?_ GE221.out)|exact HB.out)⟩
           (try clear HO220)
           (try clear BK221)
           (try clear HB)
           generalize ((w18.setCell ⟨gb221, 0, none⟩ (.int .i64 0)).setCell ⟨gb221, 1, none⟩ (.slice Ao17 y218.length co17)) = w20 at n0_ n1_ n2_ ⊢
           have HO220 := n0_
           have BK221 := n1_
           have HB := n2_
           clear n0_ n1_ n2_
           have n0_ := Aside0.mk (Kd.R_drew HO220.out)
           have n1_ := Aside0.mk (blk_drew BK221.out)
           have n2_ := Aside0.mk (below_drew1 HB.out)
           clear HO220
           clear BK221
           clear HB
           have HO220 := n0_
           have BK221 := n1_
           have HB := n2_
           clear n0_ n1_ n2_
           refine start_ (n := 6) (S := fun w' => w'.cell? ⟨gb221, 0, none⟩ = some (.int .i64 0) ∧ w'.cell? ⟨gb221, 1, none⟩ = some (.slice Ao17 y218.length co17)) (ds := []) #[false, false, false, false, false, false] (by kernel_rfl) rfl rfl ⟨(blk_cell BK221.out 0).trans rfl, (blk_cell BK221.out 1).trans rfl⟩ (fun hHeld => ?_)
           generalize w20.drew = w21 at HO220 BK221 HB hHeld ⊢
           refine take_ (i := 0) (N := some 9) (v := ?_) (a' := ?_) #[true, false, false, false, false, false] rfl rfl (by kernel_rfl) (fun _ _ _ h => h) (Or.inl ⟨by rfl, ?_⟩) hHeld ?_ ?_
           rotate_left
           ·rintro w' ⟨s0, s1⟩
            go_simp
            with_reducible rfl
           rotate_left
           ·simp only [Act.put, List.setIfInBounds_toArray, List.set_cons_zero, List.set_cons_succ, i64_w, i32_w]
            rfl
           refine take_ (i := 2) (N := some 11) (v := ?_) (a' := ?_) #[true, false, true, false, false, false] rfl rfl (by kernel_rfl) (fun _ _ _ h => h) (Or.inl ⟨by rfl, ?_⟩) hHeld ?_ ?_
           rotate_left
           ·rintro w' ⟨s0, s1⟩
            go_simp
            with_reducible rfl
           rotate_left
           ·simp only [Act.put, List.setIfInBounds_toArray, List.set_cons_zero, List.set_cons_succ, i64_w, i32_w]
            rfl
           refine one_ (i := 1) (N := some 10) #[true, true, true, false, false, false] rfl rfl (by kernel_rfl) (by decide) (fun K hK => ?_)
           refine goes_ Try.func24 (by kernel_rfl) rfl #[.agg #[.int .i64 0, .slice Ao17 y218.length co17], .int .i64 3] (by rfl) rfl rfl (by (try simp only [List.map_toArray, List.map_cons, List.map_nil]);first|done|rfl|(simp only [List.length_drop, List.length_take];rfl)) ?_
           with_reducible refine (lint_May.calls k 0 _ _ y218 3 t222 _ ?side1 ?side2 A1.out).mono ?_
           (case side1 => repeat (first|exact (Kd.R_reads' HO220.out).2.2|(with_reducible refine Kd.C_alloc ?_ _)|(with_reducible refine Kd.C_drewN ?_ _)|(with_reducible refine Kd.C_drew ?_)))
           (case side2 => exact (Kd.R_reads' HO220.out).2.1)
           rintro e w22 ⟨v223, rfl, ho0, hb⟩
           refine ⟨_, rfl, ?_⟩
           have n0_ := Aside0.mk (Kd.R_below (by (with_reducible repeat (first|apply Kd.R_alloc|apply Kd.R_drewN|apply Kd.R_drew));exact HO220.out) hb)
           have n1_ := Aside0.mk (Kd.R_lower ho0 (below_size (by repeat (first|(with_reducible first|exact HB.out|apply xa|apply xb|apply xc|refine below_set ?_ GE221.out)|exact HB.out))))
           have n2_ := Aside0.mk (blk_below (g := gb221) (o := .cells #[.int .i64 0, .slice Ao17 y218.length co17] 24 (0, 0)) (by (with_reducible repeat (first|apply blk_drewN|apply blk_drew|apply blk_alloc));exact BK221.out) hb)
           have n3_ := Aside0.mk (below_step (by repeat (first|(with_reducible first|exact HB.out|apply xa|apply xb|apply xc|refine below_set ?_ GE221.out)|exact HB.out)) hb)
           clear HO220
           clear BK221
           clear HB
           have HO220 := n0_
           have HO224 := n1_
           have BK221 := n2_
           have HB := n3_
           clear n0_ n1_ n2_ n3_
           (try clear hb)
           (try clear hb2)
           (try clear hk)
           (try clear hi)
           (try clear ho0)
           refine hK.out _ _ ⟨(blk_cell BK221.out 0).trans rfl, (blk_cell BK221.out 1).trans rfl⟩ (fun hHeld => ?_)
           clear hK K
           refine norm_ (a' := ?_) ?_ ?_
           rotate_left
           ·show Act.put _ (some 10) _ = _
            simp only [Act.put, List.setIfInBounds_toArray, List.set_cons_zero, List.set_cons_succ, i64_w, i32_w]
            rfl
           refine one_ (i := 3) (N := some 12) #[true, true, true, true, false, false] rfl rfl (by kernel_rfl) (by decide) (fun K hK => ?_)
           refine goes_ Try.func25 (by kernel_rfl) rfl #[.agg #[.int .i64 0, .slice Ao17 y218.length co17], .int .i64 3] (by rfl) rfl rfl (by (try simp only [List.map_toArray, List.map_cons, List.map_nil]);first|done|rfl|(simp only [List.length_drop, List.length_take];rfl)) ?_
           with_reducible refine (lint_Must.calls k 0 _ _ y218 3 t225 _ ?side1 ?side2 A2.out).mono ?_
           (case side1 => repeat (first|exact (Kd.R_reads' HO220.out).2.2|(with_reducible refine Kd.C_alloc ?_ _)|(with_reducible refine Kd.C_drewN ?_ _)|(with_reducible refine Kd.C_drew ?_)))
           (case side2 => exact (Kd.R_reads' HO220.out).2.1)
           rintro e w23 ⟨v226, rfl, ho0, hb⟩
           refine ⟨_, rfl, ?_⟩
           have n0_ := Aside0.mk (Kd.R_below (by (with_reducible repeat (first|apply Kd.R_alloc|apply Kd.R_drewN|apply Kd.R_drew));exact HO220.out) hb)
           have n1_ := Aside0.mk (Kd.R_elder' (by (with_reducible repeat (first|apply Kd.R_alloc|apply Kd.R_drewN|apply Kd.R_drew));exact HO224.out) (Kd.R_base ho0) hb)
           have n2_ := Aside0.mk (Kd.R_lower (Kd.R_new' ho0 (Kd.R_lt (by (with_reducible repeat (first|apply Kd.R_alloc|apply Kd.R_drewN|apply Kd.R_drew));exact HO224.out))) (below_size (by repeat (first|(with_reducible first|exact HB.out|apply xa|apply xb|apply xc|refine below_set ?_ GE221.out)|exact HB.out))))
           have n3_ := Aside0.mk (blk_below (g := gb221) (o := .cells #[.int .i64 0, .slice Ao17 y218.length co17] 24 (0, 0)) (by (with_reducible repeat (first|apply blk_drewN|apply blk_drew|apply blk_alloc));exact BK221.out) hb)
           have n4_ := Aside0.mk (below_step (by repeat (first|(with_reducible first|exact HB.out|apply xa|apply xb|apply xc|refine below_set ?_ GE221.out)|exact HB.out)) hb)
           clear HO220
           clear HO224
           clear BK221
           clear HB
           have HO220 := n0_
           have HO224 := n1_
           have HO227 := n2_
           have BK221 := n3_
           have HB := n4_
           clear n0_ n1_ n2_ n3_ n4_
           (try clear hb)
           (try clear hb2)
           (try clear hk)
           (try clear hi)
           (try clear ho0)
           refine hK.out _ _ ⟨(blk_cell BK221.out 0).trans rfl, (blk_cell BK221.out 1).trans rfl⟩ (fun hHeld => ?_)
           clear hK K
           refine norm_ (a' := ?_) ?_ ?_
           rotate_left
           ·show Act.put _ (some 12) _ = _
            simp only [Act.put, List.setIfInBounds_toArray, List.set_cons_zero, List.set_cons_succ, i64_w, i32_w]
            rfl
           refine pure_ (i := 4) (N := some 2) (v := ?_) (a' := ?_) #[true, true, true, true, true, false] rfl rfl (by kernel_rfl) (fun _ _ _ h => h) (Or.inl ⟨by rfl, ?_⟩) ?_ ?_
           rotate_left
           ·intro w'
            go_simp
            with_reducible rfl
           rotate_left
           ·simp only [Act.put, List.setIfInBounds_toArray, List.set_cons_zero, List.set_cons_succ, i64_w, i32_w]
            rfl
           refine pure_ (i := 5) (N := some 3) (v := ?_) (a' := ?_) #[true, true, true, true, true, true] rfl rfl (by kernel_rfl) (fun _ _ _ h => h) (Or.inl ⟨by rfl, ?_⟩) ?_ ?_
           rotate_left
           ·intro w'
            go_simp
            with_reducible rfl
           rotate_left
           ·simp only [Act.put, List.setIfInBounds_toArray, List.set_cons_zero, List.set_cons_succ, i64_w, i32_w]
            rfl
           refine done_ (by kernel_rfl) ?_
           obtain ⟨Ao24, co24, eo24⟩ := Kd.R_slice HO224.out
           subst eo24
           obtain ⟨Ao25, co25, eo25⟩ := Kd.R_slice HO227.out
           subst eo25
           have p228 : 0 ≤ (0 : Int) := (by omega)
           have q228 : 0 < (t222.length : Int) := of_decide_eq_true (by assumption)
           obtain ⟨ad228, e228, hx228_0⟩ := Kd.at_int (Kd.R_reads' HO224.out).2.2 0 p228 q228
           cases e228
           have qi228 : (0 < t222.length) = True := eq_true (by omega)
           (try rw [show ((0 : Int)).toNat = 0 from rfl] at hx228_0)
           (try rw [Addr.add_zero'] at hx228_0)
           replace p228 := eq_true p228
           replace q228 := eq_true q228
           have p229 : 0 ≤ (1 : Int) := (by omega)
           have q229 : 1 < (t222.length : Int) := of_decide_eq_true (by assumption)
           obtain ⟨ad229, e229, hx229_0⟩ := Kd.at_int (Kd.R_reads' HO224.out).2.2 1 p229 q229
           obtain rfl : ad228 = ad229 := (by injection e229)
           (try simp only [show (1 : Int).toNat = 1 from rfl, Nat.reduceMul, Nat.reduceEqDiff, Go.Addr.add, ↓reduceIte] at hx229_0)
           have qi229 : (1 < t222.length) = True := eq_true (by omega)
           (try rw [show ((1 : Int)).toNat = 1 from rfl] at hx229_0)
           replace p229 := eq_true p229
           replace q229 := eq_true q229
           have p230 : 0 ≤ (2 : Int) := (by omega)
           have q230 : 2 < (t222.length : Int) := of_decide_eq_true (by assumption)
           obtain ⟨ad230, e230, hx230_0⟩ := Kd.at_int (Kd.R_reads' HO224.out).2.2 2 p230 q230
           obtain rfl : ad228 = ad230 := (by injection e230)
           (try simp only [show (2 : Int).toNat = 2 from rfl, Nat.reduceMul, Nat.reduceEqDiff, Go.Addr.add, ↓reduceIte] at hx230_0)
           have qi230 : (2 < t222.length) = True := eq_true (by omega)
           (try rw [show ((2 : Int)).toNat = 2 from rfl] at hx230_0)
           replace p230 := eq_true p230
           replace q230 := eq_true q230
           have p231 : 0 ≤ (2 : Int) := (by omega)
           have q231 : 2 < (t225.length : Int) := of_decide_eq_true (by assumption)
           obtain ⟨ad231, e231, hx231_0⟩ := Kd.at_int (Kd.R_reads' HO227.out).2.2 2 p231 q231
           cases e231
           (try simp only [show (2 : Int).toNat = 2 from rfl, Nat.reduceMul, Nat.reduceEqDiff, Go.Addr.add, ↓reduceIte] at hx231_0)
           have qi231 : (2 < t225.length) = True := eq_true (by omega)
           (try rw [show ((2 : Int)).toNat = 2 from rfl] at hx231_0)
           replace p231 := eq_true p231
           replace q231 := eq_true q231
           have hcz26_0 : w23.cell? ⟨gb221, 0, none⟩ = some (.int .i64 0) := (blk_cell BK221.out 0).trans rfl
           have hcz26_1 : w23.cell? ⟨gb221, 1, none⟩ = some (.slice Ao17 y218.length co17) := (blk_cell BK221.out 1).trans rfl
           have hfz26_0 := blk_frozen BK221.out 0
           have hfz26_1 := blk_frozen BK221.out 1
           try go_wp2_with (first|(go_at_call 26;(with_reducible refine (lint_Leaks.calls k 0 _ _ y218 3 t232 _ ?side1 ?side2 A13.out).mono ?_);(case side1 => repeat (first|exact (Kd.R_reads' HO220.out).2.2|(with_reducible refine Kd.C_alloc ?_ _)|(with_reducible refine Kd.C_drewN ?_ _)|(with_reducible refine Kd.C_drew ?_)));(case side2 => exact (Kd.R_reads' HO220.out).2.1);rintro e w27 ⟨v233, rfl, ho0, hb⟩;have n0_ := Aside0.mk (Kd.R_below (by (with_reducible repeat (first|apply Kd.R_alloc|apply Kd.R_drewN|apply Kd.R_drew));exact HO220.out) hb);have n1_ := Aside0.mk (Kd.R_below (by (with_reducible repeat (first|apply Kd.R_alloc|apply Kd.R_drewN|apply Kd.R_drew));exact HO224.out) hb);have n2_ := Aside0.mk (Kd.R_below (by (with_reducible repeat (first|apply Kd.R_alloc|apply Kd.R_drewN|apply Kd.R_drew));exact HO227.out) hb);have n3_ := Aside0.mk (Kd.R_lower ho0 (below_size (by repeat (first|(with_reducible first|exact HB.out|apply xa|apply xb|apply xc|refine below_set ?_ GE221.out)|exact HB.out))));have n4_ := Aside0.mk (blk_below (g := gb221) (o := .cells #[.int .i64 0, .slice Ao17 y218.length co17] 24 (0, 0)) (by (with_reducible repeat (first|apply blk_drewN|apply blk_drew|apply blk_alloc));exact BK221.out) hb);have n5_ := Aside0.mk (below_step (by repeat (first|(with_reducible first|exact HB.out|apply xa|apply xb|apply xc|refine below_set ?_ GE221.out)|exact HB.out)) hb);clear HO220;clear HO224;clear HO227;clear BK221;clear HB;have HO220 := n0_;have HO224 := n1_;have HO227 := n2_;have HO234 := n3_;have BK221 := n4_;have HB := n5_;clear n0_ n1_ n2_ n3_ n4_ n5_;(try clear hb);(try clear hb2);(try clear hk);(try clear hi);(try clear ho0))|((with_reducible refine gate_dst (N := 48) rfl ?_);(try (refine gate_guard (by rfl) ?_;dsimp only));refine Kd.R_lit (Kd.int .i64) _ 3 ?hg (N := 48) ?hd (xs := ([2] : List Int)) (inner := [.int .i64 2]) (ok := fun _ => True) (okp := fun _ => True) ?hr ?hp (fun _ hk => hk) trivial (Below.refl _ _) (Nat.le_refl _) (by simp) ?_;(case hd => rfl);(case hg => rfl);(case hr => first|(go_simp;done)|(go_simp;rfl));(case hp => exact (Reps.one (show Kd.M (Kd.int .i64) _ _ _ 2 [.int .i64 2] from rfl) (Reps.none _ _)));intro v236 w28 ho29 hb hg_ hnew_;clear hg_ hnew_;(first|rw [← Ny235.out] at ho29|(simp only [Int.reduceToNat] at ho29;rw [← Ny235.out] at ho29));have n0_ := Aside0.mk (Kd.R_below (by (with_reducible repeat (first|apply Kd.R_alloc|apply Kd.R_drewN|apply Kd.R_drew));exact HO220.out) hb);have n1_ := Aside0.mk (Kd.R_below (by (with_reducible repeat (first|apply Kd.R_alloc|apply Kd.R_drewN|apply Kd.R_drew));exact HO224.out) hb);have n2_ := Aside0.mk (Kd.R_below (by (with_reducible repeat (first|apply Kd.R_alloc|apply Kd.R_drewN|apply Kd.R_drew));exact HO227.out) hb);have n3_ := Aside0.mk (Kd.R_elder' (by (with_reducible repeat (first|apply Kd.R_alloc|apply Kd.R_drewN|apply Kd.R_drew));exact HO234.out) (Kd.R_base ho29) hb);have n4_ := Aside0.mk (Kd.R_lower (Kd.R_new' ho29 (Kd.R_lt (by (with_reducible repeat (first|apply Kd.R_alloc|apply Kd.R_drewN|apply Kd.R_drew));exact HO234.out))) (below_size (by repeat (first|(with_reducible first|exact HB.out|apply xa|apply xb|apply xc|refine below_set ?_ GE221.out)|exact HB.out))));have n5_ := Aside0.mk (blk_below (g := gb221) (o := .cells #[.int .i64 0, .slice Ao17 y218.length co17] 24 (0, 0)) (by (with_reducible repeat (first|apply blk_drewN|apply blk_drew|apply blk_alloc));exact BK221.out) hb);have n6_ := Aside0.mk (below_step (by repeat (first|(with_reducible first|exact HB.out|apply xa|apply xb|apply xc|refine below_set ?_ GE221.out)|exact HB.out)) hb);clear HO220;clear HO224;clear HO227;clear HO234;clear BK221;clear HB;have HO220 := n0_;have HO224 := n1_;have HO227 := n2_;have HO234 := n3_;have HO237 := n4_;have BK221 := n5_;have HB := n6_;clear n0_ n1_ n2_ n3_ n4_ n5_ n6_;clear hb ho29;obtain ⟨Ao30, co30, eo30⟩ := Kd.R_slice HO234.out;subst eo30;obtain ⟨Ao31, co31, eo31⟩ := Kd.R_slice HO237.out;subst eo31)|(go_at_call 20;(with_reducible refine (pinfoldref04_Same.calls k _ _ t232 _ _ y235 t238 _ ?side1 ?side2 ?side3 ?side4 A14.out).mono ?_);(case side1 => repeat (first|exact (Kd.R_reads' HO234.out).2.2|(with_reducible refine Kd.C_alloc ?_ _)|(with_reducible refine Kd.C_drewN ?_ _)|(with_reducible refine Kd.C_drew ?_)));(case side2 => exact (Kd.R_reads' HO234.out).2.1);(case side3 => repeat (first|exact (Kd.R_reads' HO237.out).2.2|(with_reducible refine Kd.C_alloc ?_ _)|(with_reducible refine Kd.C_drewN ?_ _)|(with_reducible refine Kd.C_drew ?_)));(case side4 => exact (Kd.R_reads' HO237.out).2.1);rintro e w' ⟨rfl, ⟨nd, rfl⟩⟩))
           go_ret
           exact ⟨by first|rfl|(simp [errW_none, errW_some] <;> rfl)|(simp [*, errW_none, errW_some] <;> rfl), by repeat (first|(with_reducible first|exact HB.out|apply xa|apply xb|apply xc|refine below_set ?_ GE221.out)|exact HB.out)⟩
          ·rw [if_neg c12] at H
           have c12b0 : ((rd t225 2) == 4) = false := beq_eq_false_iff_ne.mpr c12
           have c12b1 : ((rd t225 2) != 4) = true := bne_iff_ne.mpr c12
           obtain rfl := Option.some.inj H
           go_enter Try.func16, Try.ntmps16
           try go_wp2_with (first|((with_reducible refine gate_dst (N := 7) rfl ?_);(try (refine gate_guard (by rfl) ?_;dsimp only));refine Kd.R_lit k41 _ 41 ?hg (N := 7) ?hd (xs := ([(⟨9, 0, 0, 2⟩ : S41), (⟨13, 0, 0, 0⟩ : S41), (⟨14, 0, 0, 0⟩ : S41)] : List (S41))) (inner := [.int .i64 9, .int .i64 0, .int .i64 0, .int .i32 2, .int .i64 13, .int .i64 0, .int .i64 0, .int .i32 0, .int .i64 14, .int .i64 0, .int .i64 0, .int .i32 0]) (ok := fun _ => True) (okp := fun _ => True) ?hr ?hp (fun _ hk => hk) trivial (Below.refl _ _) (Nat.le_refl _) (by simp) ?_;(case hd => rfl);(case hg => rfl);(case hr => first|(go_simp;done)|(go_simp;rfl));(case hp => exact (Reps.c4 (show Kd.M k41 _ _ _ (⟨9, 0, 0, 2⟩ : S41) [.int .i64 9, .int .i64 0, .int .i64 0, .int .i32 2] from (k41_mkM _ _ _ (⟨9, 0, 0, 2⟩ : S41) )) (Reps.c4 (show Kd.M k41 _ _ _ (⟨13, 0, 0, 0⟩ : S41) [.int .i64 13, .int .i64 0, .int .i64 0, .int .i32 0] from (k41_mkM _ _ _ (⟨13, 0, 0, 0⟩ : S41) )) (Reps.c4 (show Kd.M k41 _ _ _ (⟨14, 0, 0, 0⟩ : S41) [.int .i64 14, .int .i64 0, .int .i64 0, .int .i32 0] from (k41_mkM _ _ _ (⟨14, 0, 0, 0⟩ : S41) )) (Reps.none _ _)))));intro v219 w32 ho33 hb hg_ hnew_;clear hg_ hnew_;(first|rw [← Ny218.out] at ho33|(simp only [Int.reduceToNat] at ho33;rw [← Ny218.out] at ho33));have n0_ := Aside0.mk (Kd.R_lower ho33 (below_size (by repeat (with_reducible first|exact HB.out|apply xa|apply xb|apply xc))));have n1_ := Aside0.mk (below_step (by repeat (with_reducible first|exact HB.out|apply xa|apply xb|apply xc)) hb);clear HB;have HO220 := n0_;have HB := n1_;clear n0_ n1_;clear hb ho33;obtain ⟨Ao34, co34, eo34⟩ := Kd.R_slice HO220.out;subst eo34)|((with_reducible refine gate_dst (N := 1) rfl ?_);(try (refine gate_guard (by rfl) ?_;dsimp only));refine box_event ?hg (N := 1) ?hd (cs := #[.int .i64 0, .slice none 0 0]) (t := 24) ?hr ?_;(case hd => rfl);(case hg => rfl);(case hr => first|(go_simp;done)|(go_simp;rfl));intro gb221 hg w35 hbox hb;have n0_ := Aside0.mk (Kd.R_below (by (with_reducible repeat (first|apply Kd.R_alloc|apply Kd.R_drewN|apply Kd.R_drew));exact HO220.out) hb);have n1_ := Aside0.mk (below_step (by repeat (with_reducible first|exact HB.out|apply xa|apply xb|apply xc)) hb);have n2_ := Aside0.mk (hbox);have n3_ := Aside0.mk ((by rw [hg];exact (below_size (by repeat (with_reducible first|exact HB.out|apply xa|apply xb|apply xc))) : w.heap.size ≤ gb221));have n4_ := Aside0.mk ((by rw [hg];exact (below_size (by repeat (with_reducible first|exact HB.out|apply xa|apply xb|apply xc))) : w.heap.size ≤ gb221));clear HO220;clear HB;have HO220 := n0_;have HB := n1_;have BK221 := n2_;have GW221 := n3_;have GE221 := n4_;clear n0_ n1_ n2_ n3_ n4_;clear hb hbox hg;have hcz36_0 : w35.cell? ⟨gb221, 0, none⟩ = some (.int .i64 0) := (blk_cell BK221.out 0).trans rfl;have hcz36_1 : w35.cell? ⟨gb221, 1, none⟩ = some (.slice none 0 0) := (blk_cell BK221.out 1).trans rfl;have hfz36_0 := blk_frozen BK221.out 0;have hfz36_1 := blk_frozen BK221.out 1))
           have n0_ : Aside0 (Kd.R k41 41 ((w35.setCell ⟨gb221, 0, none⟩ (.int .i64 0)).setCell ⟨gb221, 1, none⟩ (.slice Ao34 y218.length co34)) w.heap.size (fun _ => True) (.slice Ao34 y218.length co34) y218) := ⟨by (with_reducible repeat (first|apply Kd.R_alloc|apply Kd.R_drewN|apply Kd.R_drew));exact Kd.R_mono (Kd.R_far (p := ⟨gb221, 1, none⟩) (Kd.R_far (p := ⟨gb221, 0, none⟩) (Kd.R_types HO220.out BK221.out (by decide)) (fun _ hk => hk.2) (.int .i64 0)) (fun _ hk => hk.2) (.slice Ao34 y218.length co34)) (fun _ hk => trivial)⟩
           have n1_ : Aside0 (((w35.setCell ⟨gb221, 0, none⟩ (.int .i64 0)).setCell ⟨gb221, 1, none⟩ (.slice Ao34 y218.length co34)).heap[gb221]? = some (.cells #[.int .i64 0, .slice Ao34 y218.length co34] 24 (0, 0))) := ⟨by (with_reducible repeat (first|apply blk_drewN|apply blk_drew|apply blk_alloc));refine blk_put (cs := #[.int .i64 0, .slice none 0 0]) ?_ 1 _ rfl;(with_reducible repeat (first|apply blk_drewN|apply blk_drew|apply blk_alloc));refine blk_put (cs := #[.int .i64 0, .slice none 0 0]) ?_ 0 _ rfl;(with_reducible repeat (first|apply blk_drewN|apply blk_drew|apply blk_alloc));exact BK221.out⟩
           have n2_ : Aside0 (Below w.heap.size w ((w35.setCell ⟨gb221, 0, none⟩ (.int .i64 0)).setCell ⟨gb221, 1, none⟩ (.slice Ao34 y218.length co34))) := ⟨by repeat (first|(with_reducible first|exact HB.out|apply xa|apply xb|apply xc|refine below_set ?_ GE221.out)|exact HB.out)⟩
           (try clear HO220)
           (try clear BK221)
           (try clear HB)
           generalize ((w35.setCell ⟨gb221, 0, none⟩ (.int .i64 0)).setCell ⟨gb221, 1, none⟩ (.slice Ao34 y218.length co34)) = w37 at n0_ n1_ n2_ ⊢
           have HO220 := n0_
           have BK221 := n1_
           have HB := n2_
           clear n0_ n1_ n2_
           have n0_ := Aside0.mk (Kd.R_drew HO220.out)
           have n1_ := Aside0.mk (blk_drew BK221.out)
           have n2_ := Aside0.mk (below_drew1 HB.out)
           clear HO220
           clear BK221
           clear HB
           have HO220 := n0_
           have BK221 := n1_
           have HB := n2_
           clear n0_ n1_ n2_
           refine start_ (n := 6) (S := fun w' => w'.cell? ⟨gb221, 0, none⟩ = some (.int .i64 0) ∧ w'.cell? ⟨gb221, 1, none⟩ = some (.slice Ao34 y218.length co34)) (ds := []) #[false, false, false, false, false, false] (by kernel_rfl) rfl rfl ⟨(blk_cell BK221.out 0).trans rfl, (blk_cell BK221.out 1).trans rfl⟩ (fun hHeld => ?_)
           generalize w37.drew = w38 at HO220 BK221 HB hHeld ⊢
           refine take_ (i := 0) (N := some 9) (v := ?_) (a' := ?_) #[true, false, false, false, false, false] rfl rfl (by kernel_rfl) (fun _ _ _ h => h) (Or.inl ⟨by rfl, ?_⟩) hHeld ?_ ?_
           rotate_left
           ·rintro w' ⟨s0, s1⟩
            go_simp
            with_reducible rfl
           rotate_left
           ·simp only [Act.put, List.setIfInBounds_toArray, List.set_cons_zero, List.set_cons_succ, i64_w, i32_w]
            rfl
           refine take_ (i := 2) (N := some 11) (v := ?_) (a' := ?_) #[true, false, true, false, false, false] rfl rfl (by kernel_rfl) (fun _ _ _ h => h) (Or.inl ⟨by rfl, ?_⟩) hHeld ?_ ?_
           rotate_left
           ·rintro w' ⟨s0, s1⟩
            go_simp
            with_reducible rfl
           rotate_left
           ·simp only [Act.put, List.setIfInBounds_toArray, List.set_cons_zero, List.set_cons_succ, i64_w, i32_w]
            rfl
           refine one_ (i := 1) (N := some 10) #[true, true, true, false, false, false] rfl rfl (by kernel_rfl) (by decide) (fun K hK => ?_)
           refine goes_ Try.func24 (by kernel_rfl) rfl #[.agg #[.int .i64 0, .slice Ao34 y218.length co34], .int .i64 3] (by rfl) rfl rfl (by (try simp only [List.map_toArray, List.map_cons, List.map_nil]);first|done|rfl|(simp only [List.length_drop, List.length_take];rfl)) ?_
           with_reducible refine (lint_May.calls k 0 _ _ y218 3 t222 _ ?side1 ?side2 A1.out).mono ?_
           (case side1 => repeat (first|exact (Kd.R_reads' HO220.out).2.2|(with_reducible refine Kd.C_alloc ?_ _)|(with_reducible refine Kd.C_drewN ?_ _)|(with_reducible refine Kd.C_drew ?_)))
           (case side2 => exact (Kd.R_reads' HO220.out).2.1)
           rintro e w39 ⟨v223, rfl, ho0, hb⟩
           refine ⟨_, rfl, ?_⟩
           have n0_ := Aside0.mk (Kd.R_below (by (with_reducible repeat (first|apply Kd.R_alloc|apply Kd.R_drewN|apply Kd.R_drew));exact HO220.out) hb)
           have n1_ := Aside0.mk (Kd.R_lower ho0 (below_size (by repeat (first|(with_reducible first|exact HB.out|apply xa|apply xb|apply xc|refine below_set ?_ GE221.out)|exact HB.out))))
           have n2_ := Aside0.mk (blk_below (g := gb221) (o := .cells #[.int .i64 0, .slice Ao34 y218.length co34] 24 (0, 0)) (by (with_reducible repeat (first|apply blk_drewN|apply blk_drew|apply blk_alloc));exact BK221.out) hb)
           have n3_ := Aside0.mk (below_step (by repeat (first|(with_reducible first|exact HB.out|apply xa|apply xb|apply xc|refine below_set ?_ GE221.out)|exact HB.out)) hb)
           clear HO220
           clear BK221
           clear HB
           have HO220 := n0_
           have HO224 := n1_
           have BK221 := n2_
           have HB := n3_
           clear n0_ n1_ n2_ n3_
           (try clear hb)
           (try clear hb2)
           (try clear hk)
           (try clear hi)
           (try clear ho0)
           refine hK.out _ _ ⟨(blk_cell BK221.out 0).trans rfl, (blk_cell BK221.out 1).trans rfl⟩ (fun hHeld => ?_)
           clear hK K
           refine norm_ (a' := ?_) ?_ ?_
           rotate_left
           ·show Act.put _ (some 10) _ = _
            simp only [Act.put, List.setIfInBounds_toArray, List.set_cons_zero, List.set_cons_succ, i64_w, i32_w]
            rfl
           refine one_ (i := 3) (N := some 12) #[true, true, true, true, false, false] rfl rfl (by kernel_rfl) (by decide) (fun K hK => ?_)
           refine goes_ Try.func25 (by kernel_rfl) rfl #[.agg #[.int .i64 0, .slice Ao34 y218.length co34], .int .i64 3] (by rfl) rfl rfl (by (try simp only [List.map_toArray, List.map_cons, List.map_nil]);first|done|rfl|(simp only [List.length_drop, List.length_take];rfl)) ?_
           with_reducible refine (lint_Must.calls k 0 _ _ y218 3 t225 _ ?side1 ?side2 A2.out).mono ?_
           (case side1 => repeat (first|exact (Kd.R_reads' HO220.out).2.2|(with_reducible refine Kd.C_alloc ?_ _)|(with_reducible refine Kd.C_drewN ?_ _)|(with_reducible refine Kd.C_drew ?_)))
           (case side2 => exact (Kd.R_reads' HO220.out).2.1)
           rintro e w40 ⟨v226, rfl, ho0, hb⟩
           refine ⟨_, rfl, ?_⟩
           have n0_ := Aside0.mk (Kd.R_below (by (with_reducible repeat (first|apply Kd.R_alloc|apply Kd.R_drewN|apply Kd.R_drew));exact HO220.out) hb)
           have n1_ := Aside0.mk (Kd.R_elder' (by (with_reducible repeat (first|apply Kd.R_alloc|apply Kd.R_drewN|apply Kd.R_drew));exact HO224.out) (Kd.R_base ho0) hb)
           have n2_ := Aside0.mk (Kd.R_lower (Kd.R_new' ho0 (Kd.R_lt (by (with_reducible repeat (first|apply Kd.R_alloc|apply Kd.R_drewN|apply Kd.R_drew));exact HO224.out))) (below_size (by repeat (first|(with_reducible first|exact HB.out|apply xa|apply xb|apply xc|refine below_set ?_ GE221.out)|exact HB.out))))
           have n3_ := Aside0.mk (blk_below (g := gb221) (o := .cells #[.int .i64 0, .slice Ao34 y218.length co34] 24 (0, 0)) (by (with_reducible repeat (first|apply blk_drewN|apply blk_drew|apply blk_alloc));exact BK221.out) hb)
           have n4_ := Aside0.mk (below_step (by repeat (first|(with_reducible first|exact HB.out|apply xa|apply xb|apply xc|refine below_set ?_ GE221.out)|exact HB.out)) hb)
           clear HO220
           clear HO224
           clear BK221
           clear HB
           have HO220 := n0_
           have HO224 := n1_
           have HO227 := n2_
           have BK221 := n3_
           have HB := n4_
           clear n0_ n1_ n2_ n3_ n4_
           (try clear hb)
           (try clear hb2)
           (try clear hk)
           (try clear hi)
           (try clear ho0)
           refine hK.out _ _ ⟨(blk_cell BK221.out 0).trans rfl, (blk_cell BK221.out 1).trans rfl⟩ (fun hHeld => ?_)
           clear hK K
           refine norm_ (a' := ?_) ?_ ?_
           rotate_left
           ·show Act.put _ (some 12) _ = _
            simp only [Act.put, List.setIfInBounds_toArray, List.set_cons_zero, List.set_cons_succ, i64_w, i32_w]
            rfl
           refine pure_ (i := 4) (N := some 2) (v := ?_) (a' := ?_) #[true, true, true, true, true, false] rfl rfl (by kernel_rfl) (fun _ _ _ h => h) (Or.inl ⟨by rfl, ?_⟩) ?_ ?_
           rotate_left
           ·intro w'
            go_simp
            with_reducible rfl
           rotate_left
           ·simp only [Act.put, List.setIfInBounds_toArray, List.set_cons_zero, List.set_cons_succ, i64_w, i32_w]
            rfl
           refine pure_ (i := 5) (N := some 3) (v := ?_) (a' := ?_) #[true, true, true, true, true, true] rfl rfl (by kernel_rfl) (fun _ _ _ h => h) (Or.inl ⟨by rfl, ?_⟩) ?_ ?_
           rotate_left
           ·intro w'
            go_simp
            with_reducible rfl
           rotate_left
           ·simp only [Act.put, List.setIfInBounds_toArray, List.set_cons_zero, List.set_cons_succ, i64_w, i32_w]
            rfl
           refine done_ (by kernel_rfl) ?_
           obtain ⟨Ao41, co41, eo41⟩ := Kd.R_slice HO224.out
           subst eo41
           obtain ⟨Ao42, co42, eo42⟩ := Kd.R_slice HO227.out
           subst eo42
           have p228 : 0 ≤ (0 : Int) := (by omega)
           have q228 : 0 < (t222.length : Int) := of_decide_eq_true (by assumption)
           obtain ⟨ad228, e228, hx228_0⟩ := Kd.at_int (Kd.R_reads' HO224.out).2.2 0 p228 q228
           cases e228
           have qi228 : (0 < t222.length) = True := eq_true (by omega)
           (try rw [show ((0 : Int)).toNat = 0 from rfl] at hx228_0)
           (try rw [Addr.add_zero'] at hx228_0)
           replace p228 := eq_true p228
           replace q228 := eq_true q228
           have p229 : 0 ≤ (1 : Int) := (by omega)
           have q229 : 1 < (t222.length : Int) := of_decide_eq_true (by assumption)
           obtain ⟨ad229, e229, hx229_0⟩ := Kd.at_int (Kd.R_reads' HO224.out).2.2 1 p229 q229
           obtain rfl : ad228 = ad229 := (by injection e229)
           (try simp only [show (1 : Int).toNat = 1 from rfl, Nat.reduceMul, Nat.reduceEqDiff, Go.Addr.add, ↓reduceIte] at hx229_0)
           have qi229 : (1 < t222.length) = True := eq_true (by omega)
           (try rw [show ((1 : Int)).toNat = 1 from rfl] at hx229_0)
           replace p229 := eq_true p229
           replace q229 := eq_true q229
           have p230 : 0 ≤ (2 : Int) := (by omega)
           have q230 : 2 < (t222.length : Int) := of_decide_eq_true (by assumption)
           obtain ⟨ad230, e230, hx230_0⟩ := Kd.at_int (Kd.R_reads' HO224.out).2.2 2 p230 q230
           obtain rfl : ad228 = ad230 := (by injection e230)
           (try simp only [show (2 : Int).toNat = 2 from rfl, Nat.reduceMul, Nat.reduceEqDiff, Go.Addr.add, ↓reduceIte] at hx230_0)
           have qi230 : (2 < t222.length) = True := eq_true (by omega)
           (try rw [show ((2 : Int)).toNat = 2 from rfl] at hx230_0)
           replace p230 := eq_true p230
           replace q230 := eq_true q230
           have p231 : 0 ≤ (2 : Int) := (by omega)
           have q231 : 2 < (t225.length : Int) := of_decide_eq_true (by assumption)
           obtain ⟨ad231, e231, hx231_0⟩ := Kd.at_int (Kd.R_reads' HO227.out).2.2 2 p231 q231
           cases e231
           (try simp only [show (2 : Int).toNat = 2 from rfl, Nat.reduceMul, Nat.reduceEqDiff, Go.Addr.add, ↓reduceIte] at hx231_0)
           have qi231 : (2 < t225.length) = True := eq_true (by omega)
           (try rw [show ((2 : Int)).toNat = 2 from rfl] at hx231_0)
           replace p231 := eq_true p231
           replace q231 := eq_true q231
           try go_wp2
           go_ret
           exact ⟨by first|rfl|(simp [errW_none, errW_some] <;> rfl)|(simp [*, errW_none, errW_some] <;> rfl), by repeat (first|(with_reducible first|exact HB.out|apply xa|apply xb|apply xc|refine below_set ?_ GE221.out)|exact HB.out)⟩
         ·rw [if_neg c11] at H
          exact absurd H (by simp)
        ·rw [if_neg c10] at H
         have c10b0 : ((rd t222 2) == 4) = false := beq_eq_false_iff_ne.mpr c10
         have c10b1 : ((rd t222 2) != 4) = true := bne_iff_ne.mpr c10
         obtain rfl := Option.some.inj H
         go_enter Try.func16, Try.ntmps16
         try go_wp2_with (first|((with_reducible refine gate_dst (N := 7) rfl ?_);(try (refine gate_guard (by rfl) ?_;dsimp only));refine Kd.R_lit k41 _ 41 ?hg (N := 7) ?hd (xs := ([(⟨9, 0, 0, 2⟩ : S41), (⟨13, 0, 0, 0⟩ : S41), (⟨14, 0, 0, 0⟩ : S41)] : List (S41))) (inner := [.int .i64 9, .int .i64 0, .int .i64 0, .int .i32 2, .int .i64 13, .int .i64 0, .int .i64 0, .int .i32 0, .int .i64 14, .int .i64 0, .int .i64 0, .int .i32 0]) (ok := fun _ => True) (okp := fun _ => True) ?hr ?hp (fun _ hk => hk) trivial (Below.refl _ _) (Nat.le_refl _) (by simp) ?_;(case hd => rfl);(case hg => rfl);(case hr => first|(go_simp;done)|(go_simp;rfl));(case hp => exact (Reps.c4 (show Kd.M k41 _ _ _ (⟨9, 0, 0, 2⟩ : S41) [.int .i64 9, .int .i64 0, .int .i64 0, .int .i32 2] from (k41_mkM _ _ _ (⟨9, 0, 0, 2⟩ : S41) )) (Reps.c4 (show Kd.M k41 _ _ _ (⟨13, 0, 0, 0⟩ : S41) [.int .i64 13, .int .i64 0, .int .i64 0, .int .i32 0] from (k41_mkM _ _ _ (⟨13, 0, 0, 0⟩ : S41) )) (Reps.c4 (show Kd.M k41 _ _ _ (⟨14, 0, 0, 0⟩ : S41) [.int .i64 14, .int .i64 0, .int .i64 0, .int .i32 0] from (k41_mkM _ _ _ (⟨14, 0, 0, 0⟩ : S41) )) (Reps.none _ _)))));intro v219 w43 ho44 hb hg_ hnew_;clear hg_ hnew_;(first|rw [← Ny218.out] at ho44|(simp only [Int.reduceToNat] at ho44;rw [← Ny218.out] at ho44));have n0_ := Aside0.mk (Kd.R_lower ho44 (below_size (by repeat (with_reducible first|exact HB.out|apply xa|apply xb|apply xc))));have n1_ := Aside0.mk (below_step (by repeat (with_reducible first|exact HB.out|apply xa|apply xb|apply xc)) hb);clear HB;have HO220 := n0_;have HB := n1_;clear n0_ n1_;clear hb ho44;obtain ⟨Ao45, co45, eo45⟩ := Kd.R_slice HO220.out;subst eo45)|((with_reducible refine gate_dst (N := 1) rfl ?_);(try (refine gate_guard (by rfl) ?_;dsimp only));refine box_event ?hg (N := 1) ?hd (cs := #[.int .i64 0, .slice none 0 0]) (t := 24) ?hr ?_;(case hd => rfl);(case hg => rfl);(case hr => first|(go_simp;done)|(go_simp;rfl));intro gb221 hg w46 hbox hb;have n0_ := Aside0.mk (Kd.R_below (by (with_reducible repeat (first|apply Kd.R_alloc|apply Kd.R_drewN|apply Kd.R_drew));exact HO220.out) hb);have n1_ := Aside0.mk (below_step (by repeat (with_reducible first|exact HB.out|apply xa|apply xb|apply xc)) hb);have n2_ := Aside0.mk (hbox);have n3_ := Aside0.mk ((by rw [hg];exact (below_size (by repeat (with_reducible first|exact HB.out|apply xa|apply xb|apply xc))) : w.heap.size ≤ gb221));have n4_ := Aside0.mk ((by rw [hg];exact (below_size (by repeat (with_reducible first|exact HB.out|apply xa|apply xb|apply xc))) : w.heap.size ≤ gb221));clear HO220;clear HB;have HO220 := n0_;have HB := n1_;have BK221 := n2_;have GW221 := n3_;have GE221 := n4_;clear n0_ n1_ n2_ n3_ n4_;clear hb hbox hg;have hcz47_0 : w46.cell? ⟨gb221, 0, none⟩ = some (.int .i64 0) := (blk_cell BK221.out 0).trans rfl;have hcz47_1 : w46.cell? ⟨gb221, 1, none⟩ = some (.slice none 0 0) := (blk_cell BK221.out 1).trans rfl;have hfz47_0 := blk_frozen BK221.out 0;have hfz47_1 := blk_frozen BK221.out 1))
         have n0_ : Aside0 (Kd.R k41 41 ((w46.setCell ⟨gb221, 0, none⟩ (.int .i64 0)).setCell ⟨gb221, 1, none⟩ (.slice Ao45 y218.length co45)) w.heap.size (fun _ => True) (.slice Ao45 y218.length co45) y218) := ⟨by (with_reducible repeat (first|apply Kd.R_alloc|apply Kd.R_drewN|apply Kd.R_drew));exact Kd.R_mono (Kd.R_far (p := ⟨gb221, 1, none⟩) (Kd.R_far (p := ⟨gb221, 0, none⟩) (Kd.R_types HO220.out BK221.out (by decide)) (fun _ hk => hk.2) (.int .i64 0)) (fun _ hk => hk.2) (.slice Ao45 y218.length co45)) (fun _ hk => trivial)⟩
         have n1_ : Aside0 (((w46.setCell ⟨gb221, 0, none⟩ (.int .i64 0)).setCell ⟨gb221, 1, none⟩ (.slice Ao45 y218.length co45)).heap[gb221]? = some (.cells #[.int .i64 0, .slice Ao45 y218.length co45] 24 (0, 0))) := ⟨by (with_reducible repeat (first|apply blk_drewN|apply blk_drew|apply blk_alloc));refine blk_put (cs := #[.int .i64 0, .slice none 0 0]) ?_ 1 _ rfl;(with_reducible repeat (first|apply blk_drewN|apply blk_drew|apply blk_alloc));refine blk_put (cs := #[.int .i64 0, .slice none 0 0]) ?_ 0 _ rfl;(with_reducible repeat (first|apply blk_drewN|apply blk_drew|apply blk_alloc));exact BK221.out⟩
         have n2_ : Aside0 (Below w.heap.size w ((w46.setCell ⟨gb221, 0, none⟩ (.int .i64 0)).setCell ⟨gb221, 1, none⟩ (.slice Ao45 y218.length co45))) := ⟨by repeat (first|(with_reducible first|exact HB.out|apply xa|apply xb|apply xc|refine below_set ?_ GE221.out)|exact HB.out)⟩
         (try clear HO220)
         (try clear BK221)
         (try clear HB)
         generalize ((w46.setCell ⟨gb221, 0, none⟩ (.int .i64 0)).setCell ⟨gb221, 1, none⟩ (.slice Ao45 y218.length co45)) = w48 at n0_ n1_ n2_ ⊢
         have HO220 := n0_
         have BK221 := n1_
         have HB := n2_
         clear n0_ n1_ n2_
         have n0_ := Aside0.mk (Kd.R_drew HO220.out)
         have n1_ := Aside0.mk (blk_drew BK221.out)
         have n2_ := Aside0.mk (below_drew1 HB.out)
         clear HO220
         clear BK221
         clear HB
         have HO220 := n0_
         have BK221 := n1_
         have HB := n2_
         clear n0_ n1_ n2_
         refine start_ (n := 6) (S := fun w' => w'.cell? ⟨gb221, 0, none⟩ = some (.int .i64 0) ∧ w'.cell? ⟨gb221, 1, none⟩ = some (.slice Ao45 y218.length co45)) (ds := []) #[false, false, false, false, false, false] (by kernel_rfl) rfl rfl ⟨(blk_cell BK221.out 0).trans rfl, (blk_cell BK221.out 1).trans rfl⟩ (fun hHeld => ?_)
         generalize w48.drew = w49 at HO220 BK221 HB hHeld ⊢
         refine take_ (i := 0) (N := some 9) (v := ?_) (a' := ?_) #[true, false, false, false, false, false] rfl rfl (by kernel_rfl) (fun _ _ _ h => h) (Or.inl ⟨by rfl, ?_⟩) hHeld ?_ ?_
         rotate_left
         ·rintro w' ⟨s0, s1⟩
          go_simp
          with_reducible rfl
         rotate_left
         ·simp only [Act.put, List.setIfInBounds_toArray, List.set_cons_zero, List.set_cons_succ, i64_w, i32_w]
          rfl
         refine take_ (i := 2) (N := some 11) (v := ?_) (a' := ?_) #[true, false, true, false, false, false] rfl rfl (by kernel_rfl) (fun _ _ _ h => h) (Or.inl ⟨by rfl, ?_⟩) hHeld ?_ ?_
         rotate_left
         ·rintro w' ⟨s0, s1⟩
          go_simp
          with_reducible rfl
         rotate_left
         ·simp only [Act.put, List.setIfInBounds_toArray, List.set_cons_zero, List.set_cons_succ, i64_w, i32_w]
          rfl
         refine one_ (i := 1) (N := some 10) #[true, true, true, false, false, false] rfl rfl (by kernel_rfl) (by decide) (fun K hK => ?_)
         refine goes_ Try.func24 (by kernel_rfl) rfl #[.agg #[.int .i64 0, .slice Ao45 y218.length co45], .int .i64 3] (by rfl) rfl rfl (by (try simp only [List.map_toArray, List.map_cons, List.map_nil]);first|done|rfl|(simp only [List.length_drop, List.length_take];rfl)) ?_
         with_reducible refine (lint_May.calls k 0 _ _ y218 3 t222 _ ?side1 ?side2 A1.out).mono ?_
         (case side1 => repeat (first|exact (Kd.R_reads' HO220.out).2.2|(with_reducible refine Kd.C_alloc ?_ _)|(with_reducible refine Kd.C_drewN ?_ _)|(with_reducible refine Kd.C_drew ?_)))
         (case side2 => exact (Kd.R_reads' HO220.out).2.1)
         rintro e w50 ⟨v223, rfl, ho0, hb⟩
         refine ⟨_, rfl, ?_⟩
         have n0_ := Aside0.mk (Kd.R_below (by (with_reducible repeat (first|apply Kd.R_alloc|apply Kd.R_drewN|apply Kd.R_drew));exact HO220.out) hb)
         have n1_ := Aside0.mk (Kd.R_lower ho0 (below_size (by repeat (first|(with_reducible first|exact HB.out|apply xa|apply xb|apply xc|refine below_set ?_ GE221.out)|exact HB.out))))
         have n2_ := Aside0.mk (blk_below (g := gb221) (o := .cells #[.int .i64 0, .slice Ao45 y218.length co45] 24 (0, 0)) (by (with_reducible repeat (first|apply blk_drewN|apply blk_drew|apply blk_alloc));exact BK221.out) hb)
         have n3_ := Aside0.mk (below_step (by repeat (first|(with_reducible first|exact HB.out|apply xa|apply xb|apply xc|refine below_set ?_ GE221.out)|exact HB.out)) hb)
         clear HO220
         clear BK221
         clear HB
         have HO220 := n0_
         have HO224 := n1_
         have BK221 := n2_
         have HB := n3_
         clear n0_ n1_ n2_ n3_
         (try clear hb)
         (try clear hb2)
         (try clear hk)
         (try clear hi)
         (try clear ho0)
         refine hK.out _ _ ⟨(blk_cell BK221.out 0).trans rfl, (blk_cell BK221.out 1).trans rfl⟩ (fun hHeld => ?_)
         clear hK K
         refine norm_ (a' := ?_) ?_ ?_
         rotate_left
         ·show Act.put _ (some 10) _ = _
          simp only [Act.put, List.setIfInBounds_toArray, List.set_cons_zero, List.set_cons_succ, i64_w, i32_w]
          rfl
         refine one_ (i := 3) (N := some 12) #[true, true, true, true, false, false] rfl rfl (by kernel_rfl) (by decide) (fun K hK => ?_)
         refine goes_ Try.func25 (by kernel_rfl) rfl #[.agg #[.int .i64 0, .slice Ao45 y218.length co45], .int .i64 3] (by rfl) rfl rfl (by (try simp only [List.map_toArray, List.map_cons, List.map_nil]);first|done|rfl|(simp only [List.length_drop, List.length_take];rfl)) ?_
         with_reducible refine (lint_Must.calls k 0 _ _ y218 3 t225 _ ?side1 ?side2 A2.out).mono ?_
         (case side1 => repeat (first|exact (Kd.R_reads' HO220.out).2.2|(with_reducible refine Kd.C_alloc ?_ _)|(with_reducible refine Kd.C_drewN ?_ _)|(with_reducible refine Kd.C_drew ?_)))
         (case side2 => exact (Kd.R_reads' HO220.out).2.1)
         rintro e w51 ⟨v226, rfl, ho0, hb⟩
         refine ⟨_, rfl, ?_⟩
         have n0_ := Aside0.mk (Kd.R_below (by (with_reducible repeat (first|apply Kd.R_alloc|apply Kd.R_drewN|apply Kd.R_drew));exact HO220.out) hb)
         have n1_ := Aside0.mk (Kd.R_elder' (by (with_reducible repeat (first|apply Kd.R_alloc|apply Kd.R_drewN|apply Kd.R_drew));exact HO224.out) (Kd.R_base ho0) hb)
         have n2_ := Aside0.mk (Kd.R_lower (Kd.R_new' ho0 (Kd.R_lt (by (with_reducible repeat (first|apply Kd.R_alloc|apply Kd.R_drewN|apply Kd.R_drew));exact HO224.out))) (below_size (by repeat (first|(with_reducible first|exact HB.out|apply xa|apply xb|apply xc|refine below_set ?_ GE221.out)|exact HB.out))))
         have n3_ := Aside0.mk (blk_below (g := gb221) (o := .cells #[.int .i64 0, .slice Ao45 y218.length co45] 24 (0, 0)) (by (with_reducible repeat (first|apply blk_drewN|apply blk_drew|apply blk_alloc));exact BK221.out) hb)
         have n4_ := Aside0.mk (below_step (by repeat (first|(with_reducible first|exact HB.out|apply xa|apply xb|apply xc|refine below_set ?_ GE221.out)|exact HB.out)) hb)
         clear HO220
         clear HO224
         clear BK221
         clear HB
         have HO220 := n0_
         have HO224 := n1_
         have HO227 := n2_
         have BK221 := n3_
         have HB := n4_
         clear n0_ n1_ n2_ n3_ n4_
         (try clear hb)
         (try clear hb2)
         (try clear hk)
         (try clear hi)
         (try clear ho0)
         refine hK.out _ _ ⟨(blk_cell BK221.out 0).trans rfl, (blk_cell BK221.out 1).trans rfl⟩ (fun hHeld => ?_)
         clear hK K
         refine norm_ (a' := ?_) ?_ ?_
         rotate_left
         ·show Act.put _ (some 12) _ = _
          simp only [Act.put, List.setIfInBounds_toArray, List.set_cons_zero, List.set_cons_succ, i64_w, i32_w]
          rfl
         refine pure_ (i := 4) (N := some 2) (v := ?_) (a' := ?_) #[true, true, true, true, true, false] rfl rfl (by kernel_rfl) (fun _ _ _ h => h) (Or.inl ⟨by rfl, ?_⟩) ?_ ?_
         rotate_left
         ·intro w'
          go_simp
          with_reducible rfl
         rotate_left
         ·simp only [Act.put, List.setIfInBounds_toArray, List.set_cons_zero, List.set_cons_succ, i64_w, i32_w]
          rfl
         refine pure_ (i := 5) (N := some 3) (v := ?_) (a' := ?_) #[true, true, true, true, true, true] rfl rfl (by kernel_rfl) (fun _ _ _ h => h) (Or.inl ⟨by rfl, ?_⟩) ?_ ?_
         rotate_left
         ·intro w'
          go_simp
          with_reducible rfl
         rotate_left
         ·simp only [Act.put, List.setIfInBounds_toArray, List.set_cons_zero, List.set_cons_succ, i64_w, i32_w]
          rfl
         refine done_ (by kernel_rfl) ?_
         obtain ⟨Ao52, co52, eo52⟩ := Kd.R_slice HO224.out
         subst eo52
         obtain ⟨Ao53, co53, eo53⟩ := Kd.R_slice HO227.out
         subst eo53
         have p228 : 0 ≤ (0 : Int) := (by omega)
         have q228 : 0 < (t222.length : Int) := of_decide_eq_true (by assumption)
         obtain ⟨ad228, e228, hx228_0⟩ := Kd.at_int (Kd.R_reads' HO224.out).2.2 0 p228 q228
         cases e228
         have qi228 : (0 < t222.length) = True := eq_true (by omega)
         (try rw [show ((0 : Int)).toNat = 0 from rfl] at hx228_0)
         (try rw [Addr.add_zero'] at hx228_0)
         replace p228 := eq_true p228
         replace q228 := eq_true q228
         have p229 : 0 ≤ (1 : Int) := (by omega)
         have q229 : 1 < (t222.length : Int) := of_decide_eq_true (by assumption)
         obtain ⟨ad229, e229, hx229_0⟩ := Kd.at_int (Kd.R_reads' HO224.out).2.2 1 p229 q229
         obtain rfl : ad228 = ad229 := (by injection e229)
         (try simp only [show (1 : Int).toNat = 1 from rfl, Nat.reduceMul, Nat.reduceEqDiff, Go.Addr.add, ↓reduceIte] at hx229_0)
         have qi229 : (1 < t222.length) = True := eq_true (by omega)
         (try rw [show ((1 : Int)).toNat = 1 from rfl] at hx229_0)
         replace p229 := eq_true p229
         replace q229 := eq_true q229
         have p230 : 0 ≤ (2 : Int) := (by omega)
         have q230 : 2 < (t222.length : Int) := of_decide_eq_true (by assumption)
         obtain ⟨ad230, e230, hx230_0⟩ := Kd.at_int (Kd.R_reads' HO224.out).2.2 2 p230 q230
         obtain rfl : ad228 = ad230 := (by injection e230)
         (try simp only [show (2 : Int).toNat = 2 from rfl, Nat.reduceMul, Nat.reduceEqDiff, Go.Addr.add, ↓reduceIte] at hx230_0)
         have qi230 : (2 < t222.length) = True := eq_true (by omega)
         (try rw [show ((2 : Int)).toNat = 2 from rfl] at hx230_0)
         replace p230 := eq_true p230
         replace q230 := eq_true q230
         try go_wp2
         go_ret
         exact ⟨by first|rfl|(simp [errW_none, errW_some] <;> rfl)|(simp [*, errW_none, errW_some] <;> rfl), by repeat (first|(with_reducible first|exact HB.out|apply xa|apply xb|apply xc|refine below_set ?_ GE221.out)|exact HB.out)⟩
       ·rw [if_neg c9] at H
        exact absurd H (by simp)
      ·rw [if_neg c8] at H
       have c8b0 : ((rd t222 1) == 4) = false := beq_eq_false_iff_ne.mpr c8
       have c8b1 : ((rd t222 1) != 4) = true := bne_iff_ne.mpr c8
       obtain rfl := Option.some.inj H
       go_enter Try.func16, Try.ntmps16
       try go_wp2_with (first|((with_reducible refine gate_dst (N := 7) rfl ?_);(try (refine gate_guard (by rfl) ?_;dsimp only));refine Kd.R_lit k41 _ 41 ?hg (N := 7) ?hd (xs := ([(⟨9, 0, 0, 2⟩ : S41), (⟨13, 0, 0, 0⟩ : S41), (⟨14, 0, 0, 0⟩ : S41)] : List (S41))) (inner := [.int .i64 9, .int .i64 0, .int .i64 0, .int .i32 2, .int .i64 13, .int .i64 0, .int .i64 0, .int .i32 0, .int .i64 14, .int .i64 0, .int .i64 0, .int .i32 0]) (ok := fun _ => True) (okp := fun _ => True) ?hr ?hp (fun _ hk => hk) trivial (Below.refl _ _) (Nat.le_refl _) (by simp) ?_;(case hd => rfl);(case hg => rfl);(case hr => first|(go_simp;done)|(go_simp;rfl));(case hp => exact (Reps.c4 (show Kd.M k41 _ _ _ (⟨9, 0, 0, 2⟩ : S41) [.int .i64 9, .int .i64 0, .int .i64 0, .int .i32 2] from (k41_mkM _ _ _ (⟨9, 0, 0, 2⟩ : S41) )) (Reps.c4 (show Kd.M k41 _ _ _ (⟨13, 0, 0, 0⟩ : S41) [.int .i64 13, .int .i64 0, .int .i64 0, .int .i32 0] from (k41_mkM _ _ _ (⟨13, 0, 0, 0⟩ : S41) )) (Reps.c4 (show Kd.M k41 _ _ _ (⟨14, 0, 0, 0⟩ : S41) [.int .i64 14, .int .i64 0, .int .i64 0, .int .i32 0] from (k41_mkM _ _ _ (⟨14, 0, 0, 0⟩ : S41) )) (Reps.none _ _)))));intro v219 w54 ho55 hb hg_ hnew_;clear hg_ hnew_;(first|rw [← Ny218.out] at ho55|(simp only [Int.reduceToNat] at ho55;rw [← Ny218.out] at ho55));have n0_ := Aside0.mk (Kd.R_lower ho55 (below_size (by repeat (with_reducible first|exact HB.out|apply xa|apply xb|apply xc))));have n1_ := Aside0.mk (below_step (by repeat (with_reducible first|exact HB.out|apply xa|apply xb|apply xc)) hb);clear HB;have HO220 := n0_;have HB := n1_;clear n0_ n1_;clear hb ho55;obtain ⟨Ao56, co56, eo56⟩ := Kd.R_slice HO220.out;subst eo56)|((with_reducible refine gate_dst (N := 1) rfl ?_);(try (refine gate_guard (by rfl) ?_;dsimp only));refine box_event ?hg (N := 1) ?hd (cs := #[.int .i64 0, .slice none 0 0]) (t := 24) ?hr ?_;(case hd => rfl);(case hg => rfl);(case hr => first|(go_simp;done)|(go_simp;rfl));intro gb221 hg w57 hbox hb;have n0_ := Aside0.mk (Kd.R_below (by (with_reducible repeat (first|apply Kd.R_alloc|apply Kd.R_drewN|apply Kd.R_drew));exact HO220.out) hb);have n1_ := Aside0.mk (below_step (by repeat (with_reducible first|exact HB.out|apply xa|apply xb|apply xc)) hb);have n2_ := Aside0.mk (hbox);have n3_ := Aside0.mk ((by rw [hg];exact (below_size (by repeat (with_reducible first|exact HB.out|apply xa|apply xb|apply xc))) : w.heap.size ≤ gb221));have n4_ := Aside0.mk ((by rw [hg];exact (below_size (by repeat (with_reducible first|exact HB.out|apply xa|apply xb|apply xc))) : w.heap.size ≤ gb221));clear HO220;clear HB;have HO220 := n0_;have HB := n1_;have BK221 := n2_;have GW221 := n3_;have GE221 := n4_;clear n0_ n1_ n2_ n3_ n4_;clear hb hbox hg;have hcz58_0 : w57.cell? ⟨gb221, 0, none⟩ = some (.int .i64 0) := (blk_cell BK221.out 0).trans rfl;have hcz58_1 : w57.cell? ⟨gb221, 1, none⟩ = some (.slice none 0 0) := (blk_cell BK221.out 1).trans rfl;have hfz58_0 := blk_frozen BK221.out 0;have hfz58_1 := blk_frozen BK221.out 1))
       have n0_ : Aside0 (Kd.R k41 41 ((w57.setCell ⟨gb221, 0, none⟩ (.int .i64 0)).setCell ⟨gb221, 1, none⟩ (.slice Ao56 y218.length co56)) w.heap.size (fun _ => True) (.slice Ao56 y218.length co56) y218) := ⟨by (with_reducible repeat (first|apply Kd.R_alloc|apply Kd.R_drewN|apply Kd.R_drew));exact Kd.R_mono (Kd.R_far (p := ⟨gb221, 1, none⟩) (Kd.R_far (p := ⟨gb221, 0, none⟩) (Kd.R_types HO220.out BK221.out (by decide)) (fun _ hk => hk.2) (.int .i64 0)) (fun _ hk => hk.2) (.slice Ao56 y218.length co56)) (fun _ hk => trivial)⟩
       have n1_ : Aside0 (((w57.setCell ⟨gb221, 0, none⟩ (.int .i64 0)).setCell ⟨gb221, 1, none⟩ (.slice Ao56 y218.length co56)).heap[gb221]? = some (.cells #[.int .i64 0, .slice Ao56 y218.length co56] 24 (0, 0))) := ⟨by (with_reducible repeat (first|apply blk_drewN|apply blk_drew|apply blk_alloc));refine blk_put (cs := #[.int .i64 0, .slice none 0 0]) ?_ 1 _ rfl;(with_reducible repeat (first|apply blk_drewN|apply blk_drew|apply blk_alloc));refine blk_put (cs := #[.int .i64 0, .slice none 0 0]) ?_ 0 _ rfl;(with_reducible repeat (first|apply blk_drewN|apply blk_drew|apply blk_alloc));exact BK221.out⟩
       have n2_ : Aside0 (Below w.heap.size w ((w57.setCell ⟨gb221, 0, none⟩ (.int .i64 0)).setCell ⟨gb221, 1, none⟩ (.slice Ao56 y218.length co56))) := ⟨by repeat (first|(with_reducible first|exact HB.out|apply xa|apply xb|apply xc|refine below_set ?_ GE221.out)|exact HB.out)⟩
       (try clear HO220)
       (try clear BK221)
       (try clear HB)
       generalize ((w57.setCell ⟨gb221, 0, none⟩ (.int .i64 0)).setCell ⟨gb221, 1, none⟩ (.slice Ao56 y218.length co56)) = w59 at n0_ n1_ n2_ ⊢
       have HO220 := n0_
       have BK221 := n1_
       have HB := n2_
       clear n0_ n1_ n2_
       have n0_ := Aside0.mk (Kd.R_drew HO220.out)
       have n1_ := Aside0.mk (blk_drew BK221.out)
       have n2_ := Aside0.mk (below_drew1 HB.out)
       clear HO220
       clear BK221
       clear HB
       have HO220 := n0_
       have BK221 := n1_
       have HB := n2_
       clear n0_ n1_ n2_
       refine start_ (n := 6) (S := fun w' => w'.cell? ⟨gb221, 0, none⟩ = some (.int .i64 0) ∧ w'.cell? ⟨gb221, 1, none⟩ = some (.slice Ao56 y218.length co56)) (ds := []) #[false, false, false, false, false, false] (by kernel_rfl) rfl rfl ⟨(blk_cell BK221.out 0).trans rfl, (blk_cell BK221.out 1).trans rfl⟩ (fun hHeld => ?_)
       generalize w59.drew = w60 at HO220 BK221 HB hHeld ⊢
       refine take_ (i := 0) (N := some 9) (v := ?_) (a' := ?_) #[true, false, false, false, false, false] rfl rfl (by kernel_rfl) (fun _ _ _ h => h) (Or.inl ⟨by rfl, ?_⟩) hHeld ?_ ?_
       rotate_left
       ·rintro w' ⟨s0, s1⟩
        go_simp
        with_reducible rfl
       rotate_left
       ·simp only [Act.put, List.setIfInBounds_toArray, List.set_cons_zero, List.set_cons_succ, i64_w, i32_w]
        rfl
       refine take_ (i := 2) (N := some 11) (v := ?_) (a' := ?_) #[true, false, true, false, false, false] rfl rfl (by kernel_rfl) (fun _ _ _ h => h) (Or.inl ⟨by rfl, ?_⟩) hHeld ?_ ?_
       rotate_left
       ·rintro w' ⟨s0, s1⟩
        go_simp
        with_reducible rfl
       rotate_left
       ·simp only [Act.put, List.setIfInBounds_toArray, List.set_cons_zero, List.set_cons_succ, i64_w, i32_w]
        rfl
       refine one_ (i := 1) (N := some 10) #[true, true, true, false, false, false] rfl rfl (by kernel_rfl) (by decide) (fun K hK => ?_)
       refine goes_ Try.func24 (by kernel_rfl) rfl #[.agg #[.int .i64 0, .slice Ao56 y218.length co56], .int .i64 3] (by rfl) rfl rfl (by (try simp only [List.map_toArray, List.map_cons, List.map_nil]);first|done|rfl|(simp only [List.length_drop, List.length_take];rfl)) ?_
       with_reducible refine (lint_May.calls k 0 _ _ y218 3 t222 _ ?side1 ?side2 A1.out).mono ?_
       (case side1 => repeat (first|exact (Kd.R_reads' HO220.out).2.2|(with_reducible refine Kd.C_alloc ?_ _)|(with_reducible refine Kd.C_drewN ?_ _)|(with_reducible refine Kd.C_drew ?_)))
       (case side2 => exact (Kd.R_reads' HO220.out).2.1)
       rintro e w61 ⟨v223, rfl, ho0, hb⟩
       refine ⟨_, rfl, ?_⟩
       have n0_ := Aside0.mk (Kd.R_below (by (with_reducible repeat (first|apply Kd.R_alloc|apply Kd.R_drewN|apply Kd.R_drew));exact HO220.out) hb)
       have n1_ := Aside0.mk (Kd.R_lower ho0 (below_size (by repeat (first|(with_reducible first|exact HB.out|apply xa|apply xb|apply xc|refine below_set ?_ GE221.out)|exact HB.out))))
       have n2_ := Aside0.mk (blk_below (g := gb221) (o := .cells #[.int .i64 0, .slice Ao56 y218.length co56] 24 (0, 0)) (by (with_reducible repeat (first|apply blk_drewN|apply blk_drew|apply blk_alloc));exact BK221.out) hb)
       have n3_ := Aside0.mk (below_step (by repeat (first|(with_reducible first|exact HB.out|apply xa|apply xb|apply xc|refine below_set ?_ GE221.out)|exact HB.out)) hb)
       clear HO220
       clear BK221
       clear HB
       have HO220 := n0_
       have HO224 := n1_
       have BK221 := n2_
       have HB := n3_
       clear n0_ n1_ n2_ n3_
       (try clear hb)
       (try clear hb2)
       (try clear hk)
       (try clear hi)
       (try clear ho0)
       refine hK.out _ _ ⟨(blk_cell BK221.out 0).trans rfl, (blk_cell BK221.out 1).trans rfl⟩ (fun hHeld => ?_)
       clear hK K
       refine norm_ (a' := ?_) ?_ ?_
       rotate_left
       ·show Act.put _ (some 10) _ = _
        simp only [Act.put, List.setIfInBounds_toArray, List.set_cons_zero, List.set_cons_succ, i64_w, i32_w]
        rfl
       refine one_ (i := 3) (N := some 12) #[true, true, true, true, false, false] rfl rfl (by kernel_rfl) (by decide) (fun K hK => ?_)
       refine goes_ Try.func25 (by kernel_rfl) rfl #[.agg #[.int .i64 0, .slice Ao56 y218.length co56], .int .i64 3] (by rfl) rfl rfl (by (try simp only [List.map_toArray, List.map_cons, List.map_nil]);first|done|rfl|(simp only [List.length_drop, List.length_take];rfl)) ?_
       with_reducible refine (lint_Must.calls k 0 _ _ y218 3 t225 _ ?side1 ?side2 A2.out).mono ?_
       (case side1 => repeat (first|exact (Kd.R_reads' HO220.out).2.2|(with_reducible refine Kd.C_alloc ?_ _)|(with_reducible refine Kd.C_drewN ?_ _)|(with_reducible refine Kd.C_drew ?_)))
       (case side2 => exact (Kd.R_reads' HO220.out).2.1)
       rintro e w62 ⟨v226, rfl, ho0, hb⟩
       refine ⟨_, rfl, ?_⟩
       have n0_ := Aside0.mk (Kd.R_below (by (with_reducible repeat (first|apply Kd.R_alloc|apply Kd.R_drewN|apply Kd.R_drew));exact HO220.out) hb)
       have n1_ := Aside0.mk (Kd.R_elder' (by (with_reducible repeat (first|apply Kd.R_alloc|apply Kd.R_drewN|apply Kd.R_drew));exact HO224.out) (Kd.R_base ho0) hb)
       have n2_ := Aside0.mk (Kd.R_lower (Kd.R_new' ho0 (Kd.R_lt (by (with_reducible repeat (first|apply Kd.R_alloc|apply Kd.R_drewN|apply Kd.R_drew));exact HO224.out))) (below_size (by repeat (first|(with_reducible first|exact HB.out|apply xa|apply xb|apply xc|refine below_set ?_ GE221.out)|exact HB.out))))
       have n3_ := Aside0.mk (blk_below (g := gb221) (o := .cells #[.int .i64 0, .slice Ao56 y218.length co56] 24 (0, 0)) (by (with_reducible repeat (first|apply blk_drewN|apply blk_drew|apply blk_alloc));exact BK221.out) hb)
       have n4_ := Aside0.mk (below_step (by repeat (first|(with_reducible first|exact HB.out|apply xa|apply xb|apply xc|refine below_set ?_ GE221.out)|exact HB.out)) hb)
       clear HO220
       clear HO224
       clear BK221
       clear HB
       have HO220 := n0_
       have HO224 := n1_
       have HO227 := n2_
       have BK221 := n3_
       have HB := n4_
       clear n0_ n1_ n2_ n3_ n4_
       (try clear hb)
       (try clear hb2)
       (try clear hk)
       (try clear hi)
       (try clear ho0)
       refine hK.out _ _ ⟨(blk_cell BK221.out 0).trans rfl, (blk_cell BK221.out 1).trans rfl⟩ (fun hHeld => ?_)
       clear hK K
       refine norm_ (a' := ?_) ?_ ?_
       rotate_left
       ·show Act.put _ (some 12) _ = _
        simp only [Act.put, List.setIfInBounds_toArray, List.set_cons_zero, List.set_cons_succ, i64_w, i32_w]
        rfl
       refine pure_ (i := 4) (N := some 2) (v := ?_) (a' := ?_) #[true, true, true, true, true, false] rfl rfl (by kernel_rfl) (fun _ _ _ h => h) (Or.inl ⟨by rfl, ?_⟩) ?_ ?_
       rotate_left
       ·intro w'
        go_simp
        with_reducible rfl
       rotate_left
       ·simp only [Act.put, List.setIfInBounds_toArray, List.set_cons_zero, List.set_cons_succ, i64_w, i32_w]
        rfl
       refine pure_ (i := 5) (N := some 3) (v := ?_) (a' := ?_) #[true, true, true, true, true, true] rfl rfl (by kernel_rfl) (fun _ _ _ h => h) (Or.inl ⟨by rfl, ?_⟩) ?_ ?_
       rotate_left
       ·intro w'
        go_simp
        with_reducible rfl
       rotate_left
       ·simp only [Act.put, List.setIfInBounds_toArray, List.set_cons_zero, List.set_cons_succ, i64_w, i32_w]
        rfl
       refine done_ (by kernel_rfl) ?_
       obtain ⟨Ao63, co63, eo63⟩ := Kd.R_slice HO224.out
       subst eo63
       obtain ⟨Ao64, co64, eo64⟩ := Kd.R_slice HO227.out
       subst eo64
       have p228 : 0 ≤ (0 : Int) := (by omega)
       have q228 : 0 < (t222.length : Int) := of_decide_eq_true (by assumption)
       obtain ⟨ad228, e228, hx228_0⟩ := Kd.at_int (Kd.R_reads' HO224.out).2.2 0 p228 q228
       cases e228
       have qi228 : (0 < t222.length) = True := eq_true (by omega)
       (try rw [show ((0 : Int)).toNat = 0 from rfl] at hx228_0)
       (try rw [Addr.add_zero'] at hx228_0)
       replace p228 := eq_true p228
       replace q228 := eq_true q228
       have p229 : 0 ≤ (1 : Int) := (by omega)
       have q229 : 1 < (t222.length : Int) := of_decide_eq_true (by assumption)
       obtain ⟨ad229, e229, hx229_0⟩ := Kd.at_int (Kd.R_reads' HO224.out).2.2 1 p229 q229
       obtain rfl : ad228 = ad229 := (by injection e229)
       (try simp only [show (1 : Int).toNat = 1 from rfl, Nat.reduceMul, Nat.reduceEqDiff, Go.Addr.add, ↓reduceIte] at hx229_0)
       have qi229 : (1 < t222.length) = True := eq_true (by omega)
       (try rw [show ((1 : Int)).toNat = 1 from rfl] at hx229_0)
       replace p229 := eq_true p229
       replace q229 := eq_true q229
       try go_wp2
       go_ret
       exact ⟨by first|rfl|(simp [errW_none, errW_some] <;> rfl)|(simp [*, errW_none, errW_some] <;> rfl), by repeat (first|(with_reducible first|exact HB.out|apply xa|apply xb|apply xc|refine below_set ?_ GE221.out)|exact HB.out)⟩
     ·rw [if_neg c7] at H
      exact absurd H (by simp)
    ·rw [if_neg c6] at H
     have c6b0 : ((rd t222 0) == 0) = false := beq_eq_false_iff_ne.mpr c6
     have c6b1 : ((rd t222 0) != 0) = true := bne_iff_ne.mpr c6
     obtain rfl := Option.some.inj H
     go_enter Try.func16, Try.ntmps16
     try go_wp2_with (first|((with_reducible refine gate_dst (N := 7) rfl ?_);(try (refine gate_guard (by rfl) ?_;dsimp only));refine Kd.R_lit k41 _ 41 ?hg (N := 7) ?hd (xs := ([(⟨9, 0, 0, 2⟩ : S41), (⟨13, 0, 0, 0⟩ : S41), (⟨14, 0, 0, 0⟩ : S41)] : List (S41))) (inner := [.int .i64 9, .int .i64 0, .int .i64 0, .int .i32 2, .int .i64 13, .int .i64 0, .int .i64 0, .int .i32 0, .int .i64 14, .int .i64 0, .int .i64 0, .int .i32 0]) (ok := fun _ => True) (okp := fun _ => True) ?hr ?hp (fun _ hk => hk) trivial (Below.refl _ _) (Nat.le_refl _) (by simp) ?_;(case hd => rfl);(case hg => rfl);(case hr => first|(go_simp;done)|(go_simp;rfl));(case hp => exact (Reps.c4 (show Kd.M k41 _ _ _ (⟨9, 0, 0, 2⟩ : S41) [.int .i64 9, .int .i64 0, .int .i64 0, .int .i32 2] from (k41_mkM _ _ _ (⟨9, 0, 0, 2⟩ : S41) )) (Reps.c4 (show Kd.M k41 _ _ _ (⟨13, 0, 0, 0⟩ : S41) [.int .i64 13, .int .i64 0, .int .i64 0, .int .i32 0] from (k41_mkM _ _ _ (⟨13, 0, 0, 0⟩ : S41) )) (Reps.c4 (show Kd.M k41 _ _ _ (⟨14, 0, 0, 0⟩ : S41) [.int .i64 14, .int .i64 0, .int .i64 0, .int .i32 0] from (k41_mkM _ _ _ (⟨14, 0, 0, 0⟩ : S41) )) (Reps.none _ _)))));intro v219 w65 ho66 hb hg_ hnew_;clear hg_ hnew_;(first|rw [← Ny218.out] at ho66|(simp only [Int.reduceToNat] at ho66;rw [← Ny218.out] at ho66));have n0_ := Aside0.mk (Kd.R_lower ho66 (below_size (by repeat (with_reducible first|exact HB.out|apply xa|apply xb|apply xc))));have n1_ := Aside0.mk (below_step (by repeat (with_reducible first|exact HB.out|apply xa|apply xb|apply xc)) hb);clear HB;have HO220 := n0_;have HB := n1_;clear n0_ n1_;clear hb ho66;obtain ⟨Ao67, co67, eo67⟩ := Kd.R_slice HO220.out;subst eo67)|((with_reducible refine gate_dst (N := 1) rfl ?_);(try (refine gate_guard (by rfl) ?_;dsimp only));refine box_event ?hg (N := 1) ?hd (cs := #[.int .i64 0, .slice none 0 0]) (t := 24) ?hr ?_;(case hd => rfl);(case hg => rfl);(case hr => first|(go_simp;done)|(go_simp;rfl));intro gb221 hg w68 hbox hb;have n0_ := Aside0.mk (Kd.R_below (by (with_reducible repeat (first|apply Kd.R_alloc|apply Kd.R_drewN|apply Kd.R_drew));exact HO220.out) hb);have n1_ := Aside0.mk (below_step (by repeat (with_reducible first|exact HB.out|apply xa|apply xb|apply xc)) hb);have n2_ := Aside0.mk (hbox);have n3_ := Aside0.mk ((by rw [hg];exact (below_size (by repeat (with_reducible first|exact HB.out|apply xa|apply xb|apply xc))) : w.heap.size ≤ gb221));have n4_ := Aside0.mk ((by rw [hg];exact (below_size (by repeat (with_reducible first|exact HB.out|apply xa|apply xb|apply xc))) : w.heap.size ≤ gb221));clear HO220;clear HB;have HO220 := n0_;have HB := n1_;have BK221 := n2_;have GW221 := n3_;have GE221 := n4_;clear n0_ n1_ n2_ n3_ n4_;clear hb hbox hg;have hcz69_0 : w68.cell? ⟨gb221, 0, none⟩ = some (.int .i64 0) := (blk_cell BK221.out 0).trans rfl;have hcz69_1 : w68.cell? ⟨gb221, 1, none⟩ = some (.slice none 0 0) := (blk_cell BK221.out 1).trans rfl;have hfz69_0 := blk_frozen BK221.out 0;have hfz69_1 := blk_frozen BK221.out 1))
     have n0_ : Aside0 (Kd.R k41 41 ((w68.setCell ⟨gb221, 0, none⟩ (.int .i64 0)).setCell ⟨gb221, 1, none⟩ (.slice Ao67 y218.length co67)) w.heap.size (fun _ => True) (.slice Ao67 y218.length co67) y218) := ⟨by (with_reducible repeat (first|apply Kd.R_alloc|apply Kd.R_drewN|apply Kd.R_drew));exact Kd.R_mono (Kd.R_far (p := ⟨gb221, 1, none⟩) (Kd.R_far (p := ⟨gb221, 0, none⟩) (Kd.R_types HO220.out BK221.out (by decide)) (fun _ hk => hk.2) (.int .i64 0)) (fun _ hk => hk.2) (.slice Ao67 y218.length co67)) (fun _ hk => trivial)⟩
     have n1_ : Aside0 (((w68.setCell ⟨gb221, 0, none⟩ (.int .i64 0)).setCell ⟨gb221, 1, none⟩ (.slice Ao67 y218.length co67)).heap[gb221]? = some (.cells #[.int .i64 0, .slice Ao67 y218.length co67] 24 (0, 0))) := ⟨by (with_reducible repeat (first|apply blk_drewN|apply blk_drew|apply blk_alloc));refine blk_put (cs := #[.int .i64 0, .slice none 0 0]) ?_ 1 _ rfl;(with_reducible repeat (first|apply blk_drewN|apply blk_drew|apply blk_alloc));refine blk_put (cs := #[.int .i64 0, .slice none 0 0]) ?_ 0 _ rfl;(with_reducible repeat (first|apply blk_drewN|apply blk_drew|apply blk_alloc));exact BK221.out⟩
     have n2_ : Aside0 (Below w.heap.size w ((w68.setCell ⟨gb221, 0, none⟩ (.int .i64 0)).setCell ⟨gb221, 1, none⟩ (.slice Ao67 y218.length co67))) := ⟨by repeat (first|(with_reducible first|exact HB.out|apply xa|apply xb|apply xc|refine below_set ?_ GE221.out)|exact HB.out)⟩
     (try clear HO220)
     (try clear BK221)
     (try clear HB)
     generalize ((w68.setCell ⟨gb221, 0, none⟩ (.int .i64 0)).setCell ⟨gb221, 1, none⟩ (.slice Ao67 y218.length co67)) = w70 at n0_ n1_ n2_ ⊢
     have HO220 := n0_
     have BK221 := n1_
     have HB := n2_
     clear n0_ n1_ n2_
     have n0_ := Aside0.mk (Kd.R_drew HO220.out)
     have n1_ := Aside0.mk (blk_drew BK221.out)
     have n2_ := Aside0.mk (below_drew1 HB.out)
     clear HO220
     clear BK221
     clear HB
     have HO220 := n0_
     have BK221 := n1_
     have HB := n2_
     clear n0_ n1_ n2_
     refine start_ (n := 6) (S := fun w' => w'.cell? ⟨gb221, 0, none⟩ = some (.int .i64 0) ∧ w'.cell? ⟨gb221, 1, none⟩ = some (.slice Ao67 y218.length co67)) (ds := []) #[false, false, false, false, false, false] (by kernel_rfl) rfl rfl ⟨(blk_cell BK221.out 0).trans rfl, (blk_cell BK221.out 1).trans rfl⟩ (fun hHeld => ?_)
     generalize w70.drew = w71 at HO220 BK221 HB hHeld ⊢
     refine take_ (i := 0) (N := some 9) (v := ?_) (a' := ?_) #[true, false, false, false, false, false] rfl rfl (by kernel_rfl) (fun _ _ _ h => h) (Or.inl ⟨by rfl, ?_⟩) hHeld ?_ ?_
     rotate_left
     ·rintro w' ⟨s0, s1⟩
      go_simp
      with_reducible rfl
     rotate_left
     ·simp only [Act.put, List.setIfInBounds_toArray, List.set_cons_zero, List.set_cons_succ, i64_w, i32_w]
      rfl
     refine take_ (i := 2) (N := some 11) (v := ?_) (a' := ?_) #[true, false, true, false, false, false] rfl rfl (by kernel_rfl) (fun _ _ _ h => h) (Or.inl ⟨by rfl, ?_⟩) hHeld ?_ ?_
     rotate_left
     ·rintro w' ⟨s0, s1⟩
      go_simp
      with_reducible rfl
     rotate_left
     ·simp only [Act.put, List.setIfInBounds_toArray, List.set_cons_zero, List.set_cons_succ, i64_w, i32_w]
      rfl
     refine one_ (i := 1) (N := some 10) #[true, true, true, false, false, false] rfl rfl (by kernel_rfl) (by decide) (fun K hK => ?_)
     refine goes_ Try.func24 (by kernel_rfl) rfl #[.agg #[.int .i64 0, .slice Ao67 y218.length co67], .int .i64 3] (by rfl) rfl rfl (by (try simp only [List.map_toArray, List.map_cons, List.map_nil]);first|done|rfl|(simp only [List.length_drop, List.length_take];rfl)) ?_
     with_reducible refine (lint_May.calls k 0 _ _ y218 3 t222 _ ?side1 ?side2 A1.out).mono ?_
     (case side1 => repeat (first|exact (Kd.R_reads' HO220.out).2.2|(with_reducible refine Kd.C_alloc ?_ _)|(with_reducible refine Kd.C_drewN ?_ _)|(with_reducible refine Kd.C_drew ?_)))
     (case side2 => exact (Kd.R_reads' HO220.out).2.1)
     rintro e w72 ⟨v223, rfl, ho0, hb⟩
     refine ⟨_, rfl, ?_⟩
     have n0_ := Aside0.mk (Kd.R_below (by (with_reducible repeat (first|apply Kd.R_alloc|apply Kd.R_drewN|apply Kd.R_drew));exact HO220.out) hb)
     have n1_ := Aside0.mk (Kd.R_lower ho0 (below_size (by repeat (first|(with_reducible first|exact HB.out|apply xa|apply xb|apply xc|refine below_set ?_ GE221.out)|exact HB.out))))
     have n2_ := Aside0.mk (blk_below (g := gb221) (o := .cells #[.int .i64 0, .slice Ao67 y218.length co67] 24 (0, 0)) (by (with_reducible repeat (first|apply blk_drewN|apply blk_drew|apply blk_alloc));exact BK221.out) hb)
     have n3_ := Aside0.mk (below_step (by repeat (first|(with_reducible first|exact HB.out|apply xa|apply xb|apply xc|refine below_set ?_ GE221.out)|exact HB.out)) hb)
     clear HO220
     clear BK221
     clear HB
     have HO220 := n0_
     have HO224 := n1_
     have BK221 := n2_
     have HB := n3_
     clear n0_ n1_ n2_ n3_
     (try clear hb)
     (try clear hb2)
     (try clear hk)
     (try clear hi)
     (try clear ho0)
     refine hK.out _ _ ⟨(blk_cell BK221.out 0).trans rfl, (blk_cell BK221.out 1).trans rfl⟩ (fun hHeld => ?_)
     clear hK K
     refine norm_ (a' := ?_) ?_ ?_
     rotate_left
     ·show Act.put _ (some 10) _ = _
      simp only [Act.put, List.setIfInBounds_toArray, List.set_cons_zero, List.set_cons_succ, i64_w, i32_w]
      rfl
     refine one_ (i := 3) (N := some 12) #[true, true, true, true, false, false] rfl rfl (by kernel_rfl) (by decide) (fun K hK => ?_)
     refine goes_ Try.func25 (by kernel_rfl) rfl #[.agg #[.int .i64 0, .slice Ao67 y218.length co67], .int .i64 3] (by rfl) rfl rfl (by (try simp only [List.map_toArray, List.map_cons, List.map_nil]);first|done|rfl|(simp only [List.length_drop, List.length_take];rfl)) ?_
     with_reducible refine (lint_Must.calls k 0 _ _ y218 3 t225 _ ?side1 ?side2 A2.out).mono ?_
     (case side1 => repeat (first|exact (Kd.R_reads' HO220.out).2.2|(with_reducible refine Kd.C_alloc ?_ _)|(with_reducible refine Kd.C_drewN ?_ _)|(with_reducible refine Kd.C_drew ?_)))
     (case side2 => exact (Kd.R_reads' HO220.out).2.1)
     rintro e w73 ⟨v226, rfl, ho0, hb⟩
     refine ⟨_, rfl, ?_⟩
     have n0_ := Aside0.mk (Kd.R_below (by (with_reducible repeat (first|apply Kd.R_alloc|apply Kd.R_drewN|apply Kd.R_drew));exact HO220.out) hb)
     have n1_ := Aside0.mk (Kd.R_elder' (by (with_reducible repeat (first|apply Kd.R_alloc|apply Kd.R_drewN|apply Kd.R_drew));exact HO224.out) (Kd.R_base ho0) hb)
     have n2_ := Aside0.mk (Kd.R_lower (Kd.R_new' ho0 (Kd.R_lt (by (with_reducible repeat (first|apply Kd.R_alloc|apply Kd.R_drewN|apply Kd.R_drew));exact HO224.out))) (below_size (by repeat (first|(with_reducible first|exact HB.out|apply xa|apply xb|apply xc|refine below_set ?_ GE221.out)|exact HB.out))))
     have n3_ := Aside0.mk (blk_below (g := gb221) (o := .cells #[.int .i64 0, .slice Ao67 y218.length co67] 24 (0, 0)) (by (with_reducible repeat (first|apply blk_drewN|apply blk_drew|apply blk_alloc));exact BK221.out) hb)
     have n4_ := Aside0.mk (below_step (by repeat (first|(with_reducible first|exact HB.out|apply xa|apply xb|apply xc|refine below_set ?_ GE221.out)|exact HB.out)) hb)
     clear HO220
     clear HO224
     clear BK221
     clear HB
     have HO220 := n0_
     have HO224 := n1_
     have HO227 := n2_
     have BK221 := n3_
     have HB := n4_
     clear n0_ n1_ n2_ n3_ n4_
     (try clear hb)
     (try clear hb2)
     (try clear hk)
     (try clear hi)
     (try clear ho0)
     refine hK.out _ _ ⟨(blk_cell BK221.out 0).trans rfl, (blk_cell BK221.out 1).trans rfl⟩ (fun hHeld => ?_)
     clear hK K
     refine norm_ (a' := ?_) ?_ ?_
     rotate_left
     ·show Act.put _ (some 12) _ = _
      simp only [Act.put, List.setIfInBounds_toArray, List.set_cons_zero, List.set_cons_succ, i64_w, i32_w]
      rfl
     refine pure_ (i := 4) (N := some 2) (v := ?_) (a' := ?_) #[true, true, true, true, true, false] rfl rfl (by kernel_rfl) (fun _ _ _ h => h) (Or.inl ⟨by rfl, ?_⟩) ?_ ?_
     rotate_left
     ·intro w'
      go_simp
      with_reducible rfl
     rotate_left
     ·simp only [Act.put, List.setIfInBounds_toArray, List.set_cons_zero, List.set_cons_succ, i64_w, i32_w]
      rfl
     refine pure_ (i := 5) (N := some 3) (v := ?_) (a' := ?_) #[true, true, true, true, true, true] rfl rfl (by kernel_rfl) (fun _ _ _ h => h) (Or.inl ⟨by rfl, ?_⟩) ?_ ?_
     rotate_left
     ·intro w'
      go_simp
      with_reducible rfl
     rotate_left
     ·simp only [Act.put, List.setIfInBounds_toArray, List.set_cons_zero, List.set_cons_succ, i64_w, i32_w]
      rfl
     refine done_ (by kernel_rfl) ?_
     obtain ⟨Ao74, co74, eo74⟩ := Kd.R_slice HO224.out
     subst eo74
     obtain ⟨Ao75, co75, eo75⟩ := Kd.R_slice HO227.out
     subst eo75
     have p228 : 0 ≤ (0 : Int) := (by omega)
     have q228 : 0 < (t222.length : Int) := of_decide_eq_true (by assumption)
     obtain ⟨ad228, e228, hx228_0⟩ := Kd.at_int (Kd.R_reads' HO224.out).2.2 0 p228 q228
     cases e228
     have qi228 : (0 < t222.length) = True := eq_true (by omega)
     (try rw [show ((0 : Int)).toNat = 0 from rfl] at hx228_0)
     (try rw [Addr.add_zero'] at hx228_0)
     replace p228 := eq_true p228
     replace q228 := eq_true q228
     try go_wp2
     go_ret
     exact ⟨by first|rfl|(simp [errW_none, errW_some] <;> rfl)|(simp [*, errW_none, errW_some] <;> rfl), by repeat (first|(with_reducible first|exact HB.out|apply xa|apply xb|apply xc|refine below_set ?_ GE221.out)|exact HB.out)⟩
   ·rw [if_neg c5] at H
    exact absurd H (by simp)
  ·rw [if_neg c4] at H
   have c4b0 : ((t225.length : Int) == 3) = false := beq_eq_false_iff_ne.mpr c4
   have c4b1 : ((t225.length : Int) != 3) = true := bne_iff_ne.mpr c4
   obtain rfl := Option.some.inj H
   go_enter Try.func16, Try.ntmps16
   try go_wp2_with (first|((with_reducible refine gate_dst (N := 7) rfl ?_);(try (refine gate_guard (by rfl) ?_;dsimp only));refine Kd.R_lit k41 _ 41 ?hg (N := 7) ?hd (xs := ([(⟨9, 0, 0, 2⟩ : S41), (⟨13, 0, 0, 0⟩ : S41), (⟨14, 0, 0, 0⟩ : S41)] : List (S41))) (inner := [.int .i64 9, .int .i64 0, .int .i64 0, .int .i32 2, .int .i64 13, .int .i64 0, .int .i64 0, .int .i32 0, .int .i64 14, .int .i64 0, .int .i64 0, .int .i32 0]) (ok := fun _ => True) (okp := fun _ => True) ?hr ?hp (fun _ hk => hk) trivial (Below.refl _ _) (Nat.le_refl _) (by simp) ?_;(case hd => rfl);(case hg => rfl);(case hr => first|(go_simp;done)|(go_simp;rfl));(case hp => exact (Reps.c4 (show Kd.M k41 _ _ _ (⟨9, 0, 0, 2⟩ : S41) [.int .i64 9, .int .i64 0, .int .i64 0, .int .i32 2] from (k41_mkM _ _ _ (⟨9, 0, 0, 2⟩ : S41) )) (Reps.c4 (show Kd.M k41 _ _ _ (⟨13, 0, 0, 0⟩ : S41) [.int .i64 13, .int .i64 0, .int .i64 0, .int .i32 0] from (k41_mkM _ _ _ (⟨13, 0, 0, 0⟩ : S41) )) (Reps.c4 (show Kd.M k41 _ _ _ (⟨14, 0, 0, 0⟩ : S41) [.int .i64 14, .int .i64 0, .int .i64 0, .int .i32 0] from (k41_mkM _ _ _ (⟨14, 0, 0, 0⟩ : S41) )) (Reps.none _ _)))));intro v219 w76 ho77 hb hg_ hnew_;clear hg_ hnew_;(first|rw [← Ny218.out] at ho77|(simp only [Int.reduceToNat] at ho77;rw [← Ny218.out] at ho77));have n0_ := Aside0.mk (Kd.R_lower ho77 (below_size (by repeat (with_reducible first|exact HB.out|apply xa|apply xb|apply xc))));have n1_ := Aside0.mk (below_step (by repeat (with_reducible first|exact HB.out|apply xa|apply xb|apply xc)) hb);clear HB;have HO220 := n0_;have HB := n1_;clear n0_ n1_;clear hb ho77;obtain ⟨Ao78, co78, eo78⟩ := Kd.R_slice HO220.out;subst eo78)|((with_reducible refine gate_dst (N := 1) rfl ?_);(try (refine gate_guard (by rfl) ?_;dsimp only));refine box_event ?hg (N := 1) ?hd (cs := #[.int .i64 0, .slice none 0 0]) (t := 24) ?hr ?_;(case hd => rfl);(case hg => rfl);(case hr => first|(go_simp;done)|(go_simp;rfl));intro gb221 hg w79 hbox hb;have n0_ := Aside0.mk (Kd.R_below (by (with_reducible repeat (first|apply Kd.R_alloc|apply Kd.R_drewN|apply Kd.R_drew));exact HO220.out) hb);have n1_ := Aside0.mk (below_step (by repeat (with_reducible first|exact HB.out|apply xa|apply xb|apply xc)) hb);have n2_ := Aside0.mk (hbox);have n3_ := Aside0.mk ((by rw [hg];exact (below_size (by repeat (with_reducible first|exact HB.out|apply xa|apply xb|apply xc))) : w.heap.size ≤ gb221));have n4_ := Aside0.mk ((by rw [hg];exact (below_size (by repeat (with_reducible first|exact HB.out|apply xa|apply xb|apply xc))) : w.heap.size ≤ gb221));clear HO220;clear HB;have HO220 := n0_;have HB := n1_;have BK221 := n2_;have GW221 := n3_;have GE221 := n4_;clear n0_ n1_ n2_ n3_ n4_;clear hb hbox hg;have hcz80_0 : w79.cell? ⟨gb221, 0, none⟩ = some (.int .i64 0) := (blk_cell BK221.out 0).trans rfl;have hcz80_1 : w79.cell? ⟨gb221, 1, none⟩ = some (.slice none 0 0) := (blk_cell BK221.out 1).trans rfl;have hfz80_0 := blk_frozen BK221.out 0;have hfz80_1 := blk_frozen BK221.out 1))
   have n0_ : Aside0 (Kd.R k41 41 ((w79.setCell ⟨gb221, 0, none⟩ (.int .i64 0)).setCell ⟨gb221, 1, none⟩ (.slice Ao78 y218.length co78)) w.heap.size (fun _ => True) (.slice Ao78 y218.length co78) y218) := ⟨by (with_reducible repeat (first|apply Kd.R_alloc|apply Kd.R_drewN|apply Kd.R_drew));exact Kd.R_mono (Kd.R_far (p := ⟨gb221, 1, none⟩) (Kd.R_far (p := ⟨gb221, 0, none⟩) (Kd.R_types HO220.out BK221.out (by decide)) (fun _ hk => hk.2) (.int .i64 0)) (fun _ hk => hk.2) (.slice Ao78 y218.length co78)) (fun _ hk => trivial)⟩
   have n1_ : Aside0 (((w79.setCell ⟨gb221, 0, none⟩ (.int .i64 0)).setCell ⟨gb221, 1, none⟩ (.slice Ao78 y218.length co78)).heap[gb221]? = some (.cells #[.int .i64 0, .slice Ao78 y218.length co78] 24 (0, 0))) := ⟨by (with_reducible repeat (first|apply blk_drewN|apply blk_drew|apply blk_alloc));refine blk_put (cs := #[.int .i64 0, .slice none 0 0]) ?_ 1 _ rfl;(with_reducible repeat (first|apply blk_drewN|apply blk_drew|apply blk_alloc));refine blk_put (cs := #[.int .i64 0, .slice none 0 0]) ?_ 0 _ rfl;(with_reducible repeat (first|apply blk_drewN|apply blk_drew|apply blk_alloc));exact BK221.out⟩
   have n2_ : Aside0 (Below w.heap.size w ((w79.setCell ⟨gb221, 0, none⟩ (.int .i64 0)).setCell ⟨gb221, 1, none⟩ (.slice Ao78 y218.length co78))) := ⟨by repeat (first|(with_reducible first|exact HB.out|apply xa|apply xb|apply xc|refine below_set ?_ GE221.out)|exact HB.out)⟩
   (try clear HO220)
   (try clear BK221)
   (try clear HB)
   generalize ((w79.setCell ⟨gb221, 0, none⟩ (.int .i64 0)).setCell ⟨gb221, 1, none⟩ (.slice Ao78 y218.length co78)) = w81 at n0_ n1_ n2_ ⊢
   have HO220 := n0_
   have BK221 := n1_
   have HB := n2_
   clear n0_ n1_ n2_
   have n0_ := Aside0.mk (Kd.R_drew HO220.out)
   have n1_ := Aside0.mk (blk_drew BK221.out)
   have n2_ := Aside0.mk (below_drew1 HB.out)
   clear HO220
   clear BK221
   clear HB
   have HO220 := n0_
   have BK221 := n1_
   have HB := n2_
   clear n0_ n1_ n2_
   refine start_ (n := 6) (S := fun w' => w'.cell? ⟨gb221, 0, none⟩ = some (.int .i64 0) ∧ w'.cell? ⟨gb221, 1, none⟩ = some (.slice Ao78 y218.length co78)) (ds := []) #[false, false, false, false, false, false] (by kernel_rfl) rfl rfl ⟨(blk_cell BK221.out 0).trans rfl, (blk_cell BK221.out 1).trans rfl⟩ (fun hHeld => ?_)
   generalize w81.drew = w82 at HO220 BK221 HB hHeld ⊢
   refine take_ (i := 0) (N := some 9) (v := ?_) (a' := ?_) #[true, false, false, false, false, false] rfl rfl (by kernel_rfl) (fun _ _ _ h => h) (Or.inl ⟨by rfl, ?_⟩) hHeld ?_ ?_
   rotate_left
   ·rintro w' ⟨s0, s1⟩
    go_simp
    with_reducible rfl
   rotate_left
   ·simp only [Act.put, List.setIfInBounds_toArray, List.set_cons_zero, List.set_cons_succ, i64_w, i32_w]
    rfl
   refine take_ (i := 2) (N := some 11) (v := ?_) (a' := ?_) #[true, false, true, false, false, false] rfl rfl (by kernel_rfl) (fun _ _ _ h => h) (Or.inl ⟨by rfl, ?_⟩) hHeld ?_ ?_
   rotate_left
   ·rintro w' ⟨s0, s1⟩
    go_simp
    with_reducible rfl
   rotate_left
   ·simp only [Act.put, List.setIfInBounds_toArray, List.set_cons_zero, List.set_cons_succ, i64_w, i32_w]
    rfl
   refine one_ (i := 1) (N := some 10) #[true, true, true, false, false, false] rfl rfl (by kernel_rfl) (by decide) (fun K hK => ?_)
   refine goes_ Try.func24 (by kernel_rfl) rfl #[.agg #[.int .i64 0, .slice Ao78 y218.length co78], .int .i64 3] (by rfl) rfl rfl (by (try simp only [List.map_toArray, List.map_cons, List.map_nil]);first|done|rfl|(simp only [List.length_drop, List.length_take];rfl)) ?_
   with_reducible refine (lint_May.calls k 0 _ _ y218 3 t222 _ ?side1 ?side2 A1.out).mono ?_
   (case side1 => repeat (first|exact (Kd.R_reads' HO220.out).2.2|(with_reducible refine Kd.C_alloc ?_ _)|(with_reducible refine Kd.C_drewN ?_ _)|(with_reducible refine Kd.C_drew ?_)))
   (case side2 => exact (Kd.R_reads' HO220.out).2.1)
   rintro e w83 ⟨v223, rfl, ho0, hb⟩
   refine ⟨_, rfl, ?_⟩
   have n0_ := Aside0.mk (Kd.R_below (by (with_reducible repeat (first|apply Kd.R_alloc|apply Kd.R_drewN|apply Kd.R_drew));exact HO220.out) hb)
   have n1_ := Aside0.mk (Kd.R_lower ho0 (below_size (by repeat (first|(with_reducible first|exact HB.out|apply xa|apply xb|apply xc|refine below_set ?_ GE221.out)|exact HB.out))))
   have n2_ := Aside0.mk (blk_below (g := gb221) (o := .cells #[.int .i64 0, .slice Ao78 y218.length co78] 24 (0, 0)) (by (with_reducible repeat (first|apply blk_drewN|apply blk_drew|apply blk_alloc));exact BK221.out) hb)
   have n3_ := Aside0.mk (below_step (by repeat (first|(with_reducible first|exact HB.out|apply xa|apply xb|apply xc|refine below_set ?_ GE221.out)|exact HB.out)) hb)
   clear HO220
   clear BK221
   clear HB
   have HO220 := n0_
   have HO224 := n1_
   have BK221 := n2_
   have HB := n3_
   clear n0_ n1_ n2_ n3_
   (try clear hb)
   (try clear hb2)
   (try clear hk)
   (try clear hi)
   (try clear ho0)
   refine hK.out _ _ ⟨(blk_cell BK221.out 0).trans rfl, (blk_cell BK221.out 1).trans rfl⟩ (fun hHeld => ?_)
   clear hK K
   refine norm_ (a' := ?_) ?_ ?_
   rotate_left
   ·show Act.put _ (some 10) _ = _
    simp only [Act.put, List.setIfInBounds_toArray, List.set_cons_zero, List.set_cons_succ, i64_w, i32_w]
    rfl
   refine one_ (i := 3) (N := some 12) #[true, true, true, true, false, false] rfl rfl (by kernel_rfl) (by decide) (fun K hK => ?_)
   refine goes_ Try.func25 (by kernel_rfl) rfl #[.agg #[.int .i64 0, .slice Ao78 y218.length co78], .int .i64 3] (by rfl) rfl rfl (by (try simp only [List.map_toArray, List.map_cons, List.map_nil]);first|done|rfl|(simp only [List.length_drop, List.length_take];rfl)) ?_
   with_reducible refine (lint_Must.calls k 0 _ _ y218 3 t225 _ ?side1 ?side2 A2.out).mono ?_
   (case side1 => repeat (first|exact (Kd.R_reads' HO220.out).2.2|(with_reducible refine Kd.C_alloc ?_ _)|(with_reducible refine Kd.C_drewN ?_ _)|(with_reducible refine Kd.C_drew ?_)))
   (case side2 => exact (Kd.R_reads' HO220.out).2.1)
   rintro e w84 ⟨v226, rfl, ho0, hb⟩
   refine ⟨_, rfl, ?_⟩
   have n0_ := Aside0.mk (Kd.R_below (by (with_reducible repeat (first|apply Kd.R_alloc|apply Kd.R_drewN|apply Kd.R_drew));exact HO220.out) hb)
   have n1_ := Aside0.mk (Kd.R_elder' (by (with_reducible repeat (first|apply Kd.R_alloc|apply Kd.R_drewN|apply Kd.R_drew));exact HO224.out) (Kd.R_base ho0) hb)
   have n2_ := Aside0.mk (Kd.R_lower (Kd.R_new' ho0 (Kd.R_lt (by (with_reducible repeat (first|apply Kd.R_alloc|apply Kd.R_drewN|apply Kd.R_drew));exact HO224.out))) (below_size (by repeat (first|(with_reducible first|exact HB.out|apply xa|apply xb|apply xc|refine below_set ?_ GE221.out)|exact HB.out))))
   have n3_ := Aside0.mk (blk_below (g := gb221) (o := .cells #[.int .i64 0, .slice Ao78 y218.length co78] 24 (0, 0)) (by (with_reducible repeat (first|apply blk_drewN|apply blk_drew|apply blk_alloc));exact BK221.out) hb)
   have n4_ := Aside0.mk (below_step (by repeat (first|(with_reducible first|exact HB.out|apply xa|apply xb|apply xc|refine below_set ?_ GE221.out)|exact HB.out)) hb)
   clear HO220
   clear HO224
   clear BK221
   clear HB
   have HO220 := n0_
   have HO224 := n1_
   have HO227 := n2_
   have BK221 := n3_
   have HB := n4_
   clear n0_ n1_ n2_ n3_ n4_
   (try clear hb)
   (try clear hb2)
   (try clear hk)
   (try clear hi)
   (try clear ho0)
   refine hK.out _ _ ⟨(blk_cell BK221.out 0).trans rfl, (blk_cell BK221.out 1).trans rfl⟩ (fun hHeld => ?_)
   clear hK K
   refine norm_ (a' := ?_) ?_ ?_
   rotate_left
   ·show Act.put _ (some 12) _ = _
    simp only [Act.put, List.setIfInBounds_toArray, List.set_cons_zero, List.set_cons_succ, i64_w, i32_w]
    rfl
   refine pure_ (i := 4) (N := some 2) (v := ?_) (a' := ?_) #[true, true, true, true, true, false] rfl rfl (by kernel_rfl) (fun _ _ _ h => h) (Or.inl ⟨by rfl, ?_⟩) ?_ ?_
   rotate_left
   ·intro w'
    go_simp
    with_reducible rfl
   rotate_left
   ·simp only [Act.put, List.setIfInBounds_toArray, List.set_cons_zero, List.set_cons_succ, i64_w, i32_w]
    rfl
   refine pure_ (i := 5) (N := some 3) (v := ?_) (a' := ?_) #[true, true, true, true, true, true] rfl rfl (by kernel_rfl) (fun _ _ _ h => h) (Or.inl ⟨by rfl, ?_⟩) ?_ ?_
   rotate_left
   ·intro w'
    go_simp
    with_reducible rfl
   rotate_left
   ·simp only [Act.put, List.setIfInBounds_toArray, List.set_cons_zero, List.set_cons_succ, i64_w, i32_w]
    rfl
   refine done_ (by kernel_rfl) ?_
   obtain ⟨Ao85, co85, eo85⟩ := Kd.R_slice HO224.out
   subst eo85
   obtain ⟨Ao86, co86, eo86⟩ := Kd.R_slice HO227.out
   subst eo86
   try go_wp2
   go_ret
   exact ⟨by first|rfl|(simp [errW_none, errW_some] <;> rfl)|(simp [*, errW_none, errW_some] <;> rfl), by repeat (first|(with_reducible first|exact HB.out|apply xa|apply xb|apply xc|refine below_set ?_ GE221.out)|exact HB.out)⟩
 ·rw [if_neg c3] at H
  have c3b0 : ((t222.length : Int) == 3) = false := beq_eq_false_iff_ne.mpr c3
  have c3b1 : ((t222.length : Int) != 3) = true := bne_iff_ne.mpr c3
  obtain rfl := Option.some.inj H
  go_enter Try.func16, Try.ntmps16
  try go_wp2_with (first|((with_reducible refine gate_dst (N := 7) rfl ?_);(try (refine gate_guard (by rfl) ?_;dsimp only));refine Kd.R_lit k41 _ 41 ?hg (N := 7) ?hd (xs := ([(⟨9, 0, 0, 2⟩ : S41), (⟨13, 0, 0, 0⟩ : S41), (⟨14, 0, 0, 0⟩ : S41)] : List (S41))) (inner := [.int .i64 9, .int .i64 0, .int .i64 0, .int .i32 2, .int .i64 13, .int .i64 0, .int .i64 0, .int .i32 0, .int .i64 14, .int .i64 0, .int .i64 0, .int .i32 0]) (ok := fun _ => True) (okp := fun _ => True) ?hr ?hp (fun _ hk => hk) trivial (Below.refl _ _) (Nat.le_refl _) (by simp) ?_;(case hd => rfl);(case hg => rfl);(case hr => first|(go_simp;done)|(go_simp;rfl));(case hp => exact (Reps.c4 (show Kd.M k41 _ _ _ (⟨9, 0, 0, 2⟩ : S41) [.int .i64 9, .int .i64 0, .int .i64 0, .int .i32 2] from (k41_mkM _ _ _ (⟨9, 0, 0, 2⟩ : S41) )) (Reps.c4 (show Kd.M k41 _ _ _ (⟨13, 0, 0, 0⟩ : S41) [.int .i64 13, .int .i64 0, .int .i64 0, .int .i32 0] from (k41_mkM _ _ _ (⟨13, 0, 0, 0⟩ : S41) )) (Reps.c4 (show Kd.M k41 _ _ _ (⟨14, 0, 0, 0⟩ : S41) [.int .i64 14, .int .i64 0, .int .i64 0, .int .i32 0] from (k41_mkM _ _ _ (⟨14, 0, 0, 0⟩ : S41) )) (Reps.none _ _)))));intro v219 w87 ho88 hb hg_ hnew_;clear hg_ hnew_;(first|rw [← Ny218.out] at ho88|(simp only [Int.reduceToNat] at ho88;rw [← Ny218.out] at ho88));have n0_ := Aside0.mk (Kd.R_lower ho88 (below_size (by repeat (with_reducible first|exact HB.out|apply xa|apply xb|apply xc))));have n1_ := Aside0.mk (below_step (by repeat (with_reducible first|exact HB.out|apply xa|apply xb|apply xc)) hb);clear HB;have HO220 := n0_;have HB := n1_;clear n0_ n1_;clear hb ho88;obtain ⟨Ao89, co89, eo89⟩ := Kd.R_slice HO220.out;subst eo89)|((with_reducible refine gate_dst (N := 1) rfl ?_);(try (refine gate_guard (by rfl) ?_;dsimp only));refine box_event ?hg (N := 1) ?hd (cs := #[.int .i64 0, .slice none 0 0]) (t := 24) ?hr ?_;(case hd => rfl);(case hg => rfl);(case hr => first|(go_simp;done)|(go_simp;rfl));intro gb221 hg w90 hbox hb;have n0_ := Aside0.mk (Kd.R_below (by (with_reducible repeat (first|apply Kd.R_alloc|apply Kd.R_drewN|apply Kd.R_drew));exact HO220.out) hb);have n1_ := Aside0.mk (below_step (by repeat (with_reducible first|exact HB.out|apply xa|apply xb|apply xc)) hb);have n2_ := Aside0.mk (hbox);have n3_ := Aside0.mk ((by rw [hg];exact (below_size (by repeat (with_reducible first|exact HB.out|apply xa|apply xb|apply xc))) : w.heap.size ≤ gb221));have n4_ := Aside0.mk ((by rw [hg];exact (below_size (by repeat (with_reducible first|exact HB.out|apply xa|apply xb|apply xc))) : w.heap.size ≤ gb221));clear HO220;clear HB;have HO220 := n0_;have HB := n1_;have BK221 := n2_;have GW221 := n3_;have GE221 := n4_;clear n0_ n1_ n2_ n3_ n4_;clear hb hbox hg;have hcz91_0 : w90.cell? ⟨gb221, 0, none⟩ = some (.int .i64 0) := (blk_cell BK221.out 0).trans rfl;have hcz91_1 : w90.cell? ⟨gb221, 1, none⟩ = some (.slice none 0 0) := (blk_cell BK221.out 1).trans rfl;have hfz91_0 := blk_frozen BK221.out 0;have hfz91_1 := blk_frozen BK221.out 1))
  have n0_ : Aside0 (Kd.R k41 41 ((w90.setCell ⟨gb221, 0, none⟩ (.int .i64 0)).setCell ⟨gb221, 1, none⟩ (.slice Ao89 y218.length co89)) w.heap.size (fun _ => True) (.slice Ao89 y218.length co89) y218) := ⟨by (with_reducible repeat (first|apply Kd.R_alloc|apply Kd.R_drewN|apply Kd.R_drew));exact Kd.R_mono (Kd.R_far (p := ⟨gb221, 1, none⟩) (Kd.R_far (p := ⟨gb221, 0, none⟩) (Kd.R_types HO220.out BK221.out (by decide)) (fun _ hk => hk.2) (.int .i64 0)) (fun _ hk => hk.2) (.slice Ao89 y218.length co89)) (fun _ hk => trivial)⟩
  have n1_ : Aside0 (((w90.setCell ⟨gb221, 0, none⟩ (.int .i64 0)).setCell ⟨gb221, 1, none⟩ (.slice Ao89 y218.length co89)).heap[gb221]? = some (.cells #[.int .i64 0, .slice Ao89 y218.length co89] 24 (0, 0))) := ⟨by (with_reducible repeat (first|apply blk_drewN|apply blk_drew|apply blk_alloc));refine blk_put (cs := #[.int .i64 0, .slice none 0 0]) ?_ 1 _ rfl;(with_reducible repeat (first|apply blk_drewN|apply blk_drew|apply blk_alloc));refine blk_put (cs := #[.int .i64 0, .slice none 0 0]) ?_ 0 _ rfl;(with_reducible repeat (first|apply blk_drewN|apply blk_drew|apply blk_alloc));exact BK221.out⟩
  have n2_ : Aside0 (Below w.heap.size w ((w90.setCell ⟨gb221, 0, none⟩ (.int .i64 0)).setCell ⟨gb221, 1, none⟩ (.slice Ao89 y218.length co89))) := ⟨by repeat (first|(with_reducible first|exact HB.out|apply xa|apply xb|apply xc|refine below_set ?_ GE221.out)|exact HB.out)⟩
  (try clear HO220)
  (try clear BK221)
  (try clear HB)
  generalize ((w90.setCell ⟨gb221, 0, none⟩ (.int .i64 0)).setCell ⟨gb221, 1, none⟩ (.slice Ao89 y218.length co89)) = w92 at n0_ n1_ n2_ ⊢
  have HO220 := n0_
  have BK221 := n1_
  have HB := n2_
  clear n0_ n1_ n2_
  have n0_ := Aside0.mk (Kd.R_drew HO220.out)
  have n1_ := Aside0.mk (blk_drew BK221.out)
  have n2_ := Aside0.mk (below_drew1 HB.out)
  clear HO220
  clear BK221
  clear HB
  have HO220 := n0_
  have BK221 := n1_
  have HB := n2_
  clear n0_ n1_ n2_
  refine start_ (n := 6) (S := fun w' => w'.cell? ⟨gb221, 0, none⟩ = some (.int .i64 0) ∧ w'.cell? ⟨gb221, 1, none⟩ = some (.slice Ao89 y218.length co89)) (ds := []) #[false, false, false, false, false, false] (by kernel_rfl) rfl rfl ⟨(blk_cell BK221.out 0).trans rfl, (blk_cell BK221.out 1).trans rfl⟩ (fun hHeld => ?_)
  generalize w92.drew = w93 at HO220 BK221 HB hHeld ⊢
  refine take_ (i := 0) (N := some 9) (v := ?_) (a' := ?_) #[true, false, false, false, false, false] rfl rfl (by kernel_rfl) (fun _ _ _ h => h) (Or.inl ⟨by rfl, ?_⟩) hHeld ?_ ?_
  rotate_left
  ·rintro w' ⟨s0, s1⟩
   go_simp
   with_reducible rfl
  rotate_left
  ·simp only [Act.put, List.setIfInBounds_toArray, List.set_cons_zero, List.set_cons_succ, i64_w, i32_w]
   rfl
  refine take_ (i := 2) (N := some 11) (v := ?_) (a' := ?_) #[true, false, true, false, false, false] rfl rfl (by kernel_rfl) (fun _ _ _ h => h) (Or.inl ⟨by rfl, ?_⟩) hHeld ?_ ?_
  rotate_left
  ·rintro w' ⟨s0, s1⟩
   go_simp
   with_reducible rfl
  rotate_left
  ·simp only [Act.put, List.setIfInBounds_toArray, List.set_cons_zero, List.set_cons_succ, i64_w, i32_w]
   rfl
  refine one_ (i := 1) (N := some 10) #[true, true, true, false, false, false] rfl rfl (by kernel_rfl) (by decide) (fun K hK => ?_)
  refine goes_ Try.func24 (by kernel_rfl) rfl #[.agg #[.int .i64 0, .slice Ao89 y218.length co89], .int .i64 3] (by rfl) rfl rfl (by (try simp only [List.map_toArray, List.map_cons, List.map_nil]);first|done|rfl|(simp only [List.length_drop, List.length_take];rfl)) ?_
  with_reducible refine (lint_May.calls k 0 _ _ y218 3 t222 _ ?side1 ?side2 A1.out).mono ?_
  (case side1 => repeat (first|exact (Kd.R_reads' HO220.out).2.2|(with_reducible refine Kd.C_alloc ?_ _)|(with_reducible refine Kd.C_drewN ?_ _)|(with_reducible refine Kd.C_drew ?_)))
  (case side2 => exact (Kd.R_reads' HO220.out).2.1)
  rintro e w94 ⟨v223, rfl, ho0, hb⟩
  refine ⟨_, rfl, ?_⟩
  have n0_ := Aside0.mk (Kd.R_below (by (with_reducible repeat (first|apply Kd.R_alloc|apply Kd.R_drewN|apply Kd.R_drew));exact HO220.out) hb)
  have n1_ := Aside0.mk (Kd.R_lower ho0 (below_size (by repeat (first|(with_reducible first|exact HB.out|apply xa|apply xb|apply xc|refine below_set ?_ GE221.out)|exact HB.out))))
  have n2_ := Aside0.mk (blk_below (g := gb221) (o := .cells #[.int .i64 0, .slice Ao89 y218.length co89] 24 (0, 0)) (by (with_reducible repeat (first|apply blk_drewN|apply blk_drew|apply blk_alloc));exact BK221.out) hb)
  have n3_ := Aside0.mk (below_step (by repeat (first|(with_reducible first|exact HB.out|apply xa|apply xb|apply xc|refine below_set ?_ GE221.out)|exact HB.out)) hb)
  clear HO220
  clear BK221
  clear HB
  have HO220 := n0_
  have HO224 := n1_
  have BK221 := n2_
  have HB := n3_
  clear n0_ n1_ n2_ n3_
  (try clear hb)
  (try clear hb2)
  (try clear hk)
  (try clear hi)
  (try clear ho0)
  refine hK.out _ _ ⟨(blk_cell BK221.out 0).trans rfl, (blk_cell BK221.out 1).trans rfl⟩ (fun hHeld => ?_)
  clear hK K
  refine norm_ (a' := ?_) ?_ ?_
  rotate_left
  ·show Act.put _ (some 10) _ = _
   simp only [Act.put, List.setIfInBounds_toArray, List.set_cons_zero, List.set_cons_succ, i64_w, i32_w]
   rfl
  refine one_ (i := 3) (N := some 12) #[true, true, true, true, false, false] rfl rfl (by kernel_rfl) (by decide) (fun K hK => ?_)
  refine goes_ Try.func25 (by kernel_rfl) rfl #[.agg #[.int .i64 0, .slice Ao89 y218.length co89], .int .i64 3] (by rfl) rfl rfl (by (try simp only [List.map_toArray, List.map_cons, List.map_nil]);first|done|rfl|(simp only [List.length_drop, List.length_take];rfl)) ?_
  with_reducible refine (lint_Must.calls k 0 _ _ y218 3 t225 _ ?side1 ?side2 A2.out).mono ?_
  (case side1 => repeat (first|exact (Kd.R_reads' HO220.out).2.2|(with_reducible refine Kd.C_alloc ?_ _)|(with_reducible refine Kd.C_drewN ?_ _)|(with_reducible refine Kd.C_drew ?_)))
  (case side2 => exact (Kd.R_reads' HO220.out).2.1)
  rintro e w95 ⟨v226, rfl, ho0, hb⟩
  refine ⟨_, rfl, ?_⟩
  have n0_ := Aside0.mk (Kd.R_below (by (with_reducible repeat (first|apply Kd.R_alloc|apply Kd.R_drewN|apply Kd.R_drew));exact HO220.out) hb)
  have n1_ := Aside0.mk (Kd.R_elder' (by (with_reducible repeat (first|apply Kd.R_alloc|apply Kd.R_drewN|apply Kd.R_drew));exact HO224.out) (Kd.R_base ho0) hb)
  have n2_ := Aside0.mk (Kd.R_lower (Kd.R_new' ho0 (Kd.R_lt (by (with_reducible repeat (first|apply Kd.R_alloc|apply Kd.R_drewN|apply Kd.R_drew));exact HO224.out))) (below_size (by repeat (first|(with_reducible first|exact HB.out|apply xa|apply xb|apply xc|refine below_set ?_ GE221.out)|exact HB.out))))
  have n3_ := Aside0.mk (blk_below (g := gb221) (o := .cells #[.int .i64 0, .slice Ao89 y218.length co89] 24 (0, 0)) (by (with_reducible repeat (first|apply blk_drewN|apply blk_drew|apply blk_alloc));exact BK221.out) hb)
  have n4_ := Aside0.mk (below_step (by repeat (first|(with_reducible first|exact HB.out|apply xa|apply xb|apply xc|refine below_set ?_ GE221.out)|exact HB.out)) hb)
  clear HO220
  clear HO224
  clear BK221
  clear HB
  have HO220 := n0_
  have HO224 := n1_
  have HO227 := n2_
  have BK221 := n3_
  have HB := n4_
  clear n0_ n1_ n2_ n3_ n4_
  (try clear hb)
  (try clear hb2)
  (try clear hk)
  (try clear hi)
  (try clear ho0)
  refine hK.out _ _ ⟨(blk_cell BK221.out 0).trans rfl, (blk_cell BK221.out 1).trans rfl⟩ (fun hHeld => ?_)
  clear hK K
  refine norm_ (a' := ?_) ?_ ?_
  rotate_left
  ·show Act.put _ (some 12) _ = _
   simp only [Act.put, List.setIfInBounds_toArray, List.set_cons_zero, List.set_cons_succ, i64_w, i32_w]
   rfl
  refine pure_ (i := 4) (N := some 2) (v := ?_) (a' := ?_) #[true, true, true, true, true, false] rfl rfl (by kernel_rfl) (fun _ _ _ h => h) (Or.inl ⟨by rfl, ?_⟩) ?_ ?_
  rotate_left
  ·intro w'
   go_simp
   with_reducible rfl
  rotate_left
  ·simp only [Act.put, List.setIfInBounds_toArray, List.set_cons_zero, List.set_cons_succ, i64_w, i32_w]
   rfl
  refine pure_ (i := 5) (N := some 3) (v := ?_) (a' := ?_) #[true, true, true, true, true, true] rfl rfl (by kernel_rfl) (fun _ _ _ h => h) (Or.inl ⟨by rfl, ?_⟩) ?_ ?_
  rotate_left
  ·intro w'
   go_simp
   with_reducible rfl
  rotate_left
  ·simp only [Act.put, List.setIfInBounds_toArray, List.set_cons_zero, List.set_cons_succ, i64_w, i32_w]
   rfl
  refine done_ (by kernel_rfl) ?_
  obtain ⟨Ao96, co96, eo96⟩ := Kd.R_slice HO224.out
  subst eo96
  try go_wp2
  go_ret
  exact ⟨by first|rfl|(simp [errW_none, errW_some] <;> rfl)|(simp [*, errW_none, errW_some] <;> rfl), by repeat (first|(with_reducible first|exact HB.out|apply xa|apply xb|apply xc|refine below_set ?_ GE221.out)|exact HB.out)⟩

end Go.Proofs.Ytgiimdoabkcoaaa.PLint
