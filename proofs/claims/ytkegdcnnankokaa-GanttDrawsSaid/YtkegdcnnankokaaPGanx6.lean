/- Functions of the program as Lean functions, and proofs that the code comes to their answers: printed by this session's program. -/
import Derived.Test.YtkegdcnnankokaaGDraw
import Derived.Test.YtkegdcnnankokaaGGanttFn
import Derived.Test.YtkegdcnnankokaaPGanx0
import Derived.Test.YtkegdcnnankokaaPGanx4
import Derived.Test.YtkegdcnnankokaaPGanx5
namespace Go.Proofs.Ytkegdcnnankokaa.PGan
open Go.RowKit Go.Proofs.YtkegdcnnankokaaW.PrintWords Go.Proofs.YtkegdcnnankokaaW.PrintLast Go.Proofs.YtkegdcnnankokaaW.PrintMore
attribute [local go_sem] max2_int min2_int max_two min_two max_three min_three max_four min_four   -- for this text's walks alone
set_option linter.unusedVariables false
set_option linter.unusedSimpArgs false

/-! ### pinfoldlaw30_GanttDraws: function 4 -/
def pinfoldlaw30_GanttDraws.l0 : Nat → List (S36) → Int → List ByteArray → List Int → Int → Int → Option (Bool)
 | 0, _, _, _, _, _, _ => none
 | k + 1, x0, x2, x7, x26, x27, x28 => if x28 < x27 then (if 0 ≤ x28 then (if x28 < (x26.length : Int) then (if x28 < (x7.length : Int) then ((pinfoldref30_Line.f k x0 (rd x26 x28) x2).bind fun t169 => (if (rdOf ByteArray.empty x7 x28).toList = t169.toList then (pinfoldlaw30_GanttDraws.l0 k x0 x2 x7 x26 x27 (wrap64 (x28 + 1))) else (some false))) else (none)) else (none)) else (none)) else ((pinfoldlaw30_lives.f).bind fun t170 => (some t170))
def pinfoldlaw30_GanttDraws.f (k : Nat) (l0 : List (S36)) (l1 : List Int) (a2 : Int) : Option (Bool) := if 0 ≤ (mn (l0.length : Int) 60) then (if (mn (l0.length : Int) 60) ≤ (l0.length : Int) then ((some (l0.take ((mn (l0.length : Int) 60) : Int).toNat : List (S36))).bind fun y159 => (if 0 ≤ (mn (l1.length : Int) 10) then (if (mn (l1.length : Int) 10) ≤ (l1.length : Int) then ((gantt_Draw.f y159 (l1.take ((mn (l1.length : Int) 10) : Int).toNat) a2).bind fun t164 => (if (t164.length : Int) = ((l1.take ((mn (l1.length : Int) 10) : Int).toNat).length : Int) then (pinfoldlaw30_GanttDraws.l0 k y159 a2 t164 (l1.take ((mn (l1.length : Int) 10) : Int).toNat) ((l1.take ((mn (l1.length : Int) 10) : Int).toNat).length : Int) 0) else (some false))) else (none)) else (none))) else (none)) else (none)
theorem pinfoldlaw30_GanttDraws.mono_l : ∀ k, (∀ y0 y1 y2 y3 y4 y5, LeO (pinfoldlaw30_GanttDraws.l0 k y0 y1 y2 y3 y4 y5) (pinfoldlaw30_GanttDraws.l0 (k + 1) y0 y1 y2 y3 y4 y5))
 | 0 => fun _ _ _ _ _ _ r h => by simp [pinfoldlaw30_GanttDraws.l0] at h
 | k + 1 => by
  have ih0 := pinfoldlaw30_GanttDraws.mono_l k
  ·intro y0 y1 y2 y3 y4 y5
   unfold pinfoldlaw30_GanttDraws.l0
   repeat' first
   | (with_reducible exact ih0 _ _ _ _ _ _)
   | (with_reducible exact pinfoldref30_Line.mono _ _ _ _)
   | (with_reducible exact LeO.refl _)
   | (with_reducible exact LeO.none _)
   | (with_reducible refine LeO.ite ?_ ?_)
   | (with_reducible refine LeO.bind ?_ (fun _ => ?_))
   | exact ih0 _ _ _ _ _ _
   | exact pinfoldref30_Line.mono _ _ _ _
   | exact LeO.none _
   | refine LeO.ite ?_ ?_
   | refine LeO.bind ?_ (fun _ => ?_)
theorem pinfoldlaw30_GanttDraws.mono : ∀ a0 a1 a2 k, LeO (pinfoldlaw30_GanttDraws.f k a0 a1 a2) (pinfoldlaw30_GanttDraws.f (k + 1) a0 a1 a2) := by
 intro a0 a1 a2 k
 have ih0 := pinfoldlaw30_GanttDraws.mono_l k
 unfold pinfoldlaw30_GanttDraws.f
 repeat' first
   | (with_reducible exact ih0 _ _ _ _ _ _)
   | (with_reducible exact pinfoldref30_Line.mono _ _ _ _)
   | (with_reducible exact LeO.refl _)
   | (with_reducible exact LeO.none _)
   | (with_reducible refine LeO.ite ?_ ?_)
   | (with_reducible refine LeO.bind ?_ (fun _ => ?_))
   | exact ih0 _ _ _ _ _ _
   | exact pinfoldref30_Line.mono _ _ _ _
   | exact LeO.none _
   | refine LeO.ite ?_ ?_
   | refine LeO.bind ?_ (fun _ => ?_)
def pinfoldlaw30_GanttDraws.T8 : Bool × List (List Nat × List Nat) := (true, [([], []), ([], []), ([0, 1], [0, 1]), ([2], [2]), ([], []), ([], []), ([], []), ([4, 5, 6], [4, 5, 6]), ([3, 7], [3, 7])])
def pinfoldlaw30_GanttDraws.B8 : List Nat := [0, 0, 3, 7, 0, 0, 0, 112, 255]
theorem pinfoldlaw30_GanttDraws.tab8 : rtab .any (opsOf Try.f4 8) = pinfoldlaw30_GanttDraws.T8 := by kernel_rfl
theorem pinfoldlaw30_GanttDraws.bits8 : waitsOk pinfoldlaw30_GanttDraws.T8.2 pinfoldlaw30_GanttDraws.B8 = true := by kernel_rfl
set_option maxHeartbeats 8000000 in
set_option maxRecDepth 100000 in
theorem pinfoldlaw30_GanttDraws.calls (k : Nat) (A0 : Option Addr) (c0 : Nat) (l0 : List (S36)) (A1 : Option Addr) (c1 : Nat) (l1 : List Int) (a2 : Int) (r : Bool) (w : World) (hr0 : Kd.C k36 w A0 l0.length l0) (hc0 : l0.length ≤ c0) (hr1 : Kd.C (Kd.int .i64) w A1 l1.length l1) (hc1 : l1.length ≤ c1) (h : pinfoldlaw30_GanttDraws.f k l0 l1 a2 = some r) :
  Calls Try.prog 4 #[.slice A0 l0.length c0, .slice A1 l1.length c1, .int .i64 a2] w fun e w' => e = .returned (.bool r) ∧ Below w.heap.size w w' := by
 have HR0 := Aside0.mk hr0
 have HC0 := Aside0.mk hc0
 clear hr0 hc0
 have HR1 := Aside0.mk hr1
 have HC1 := Aside0.mk hc1
 clear hr1 hc1
 have HB := Aside0.mk (Below.refl w.heap.size w)
 have H : (if 0 ≤ (mn (l0.length : Int) 60) then (if (mn (l0.length : Int) 60) ≤ (l0.length : Int) then ((some (l0.take ((mn (l0.length : Int) 60) : Int).toNat : List (S36))).bind fun y159 => (if 0 ≤ (mn (l1.length : Int) 10) then (if (mn (l1.length : Int) 10) ≤ (l1.length : Int) then ((gantt_Draw.f y159 (l1.take ((mn (l1.length : Int) 10) : Int).toNat) a2).bind fun t164 => (if (t164.length : Int) = ((l1.take ((mn (l1.length : Int) 10) : Int).toNat).length : Int) then (pinfoldlaw30_GanttDraws.l0 k y159 a2 t164 (l1.take ((mn (l1.length : Int) 10) : Int).toNat) ((l1.take ((mn (l1.length : Int) 10) : Int).toNat).length : Int) 0) else (some false))) else (none)) else (none))) else (none)) else (none)) = some r := h
 clear h
 obtain ⟨ji4, hji4⟩ : ∃ j_ : Int, (mn (l0.length : Int) 60) = j_ := ⟨_, rfl⟩
 replace H : (if 0 ≤ (ji4) then (if (ji4) ≤ (l0.length : Int) then ((some (l0.take ((ji4) : Int).toNat : List (S36))).bind fun y159 => (if 0 ≤ (mn (l1.length : Int) 10) then (if (mn (l1.length : Int) 10) ≤ (l1.length : Int) then ((gantt_Draw.f y159 (l1.take ((mn (l1.length : Int) 10) : Int).toNat) a2).bind fun t164 => (if (t164.length : Int) = ((l1.take ((mn (l1.length : Int) 10) : Int).toNat).length : Int) then (pinfoldlaw30_GanttDraws.l0 k y159 a2 t164 (l1.take ((mn (l1.length : Int) 10) : Int).toNat) ((l1.take ((mn (l1.length : Int) 10) : Int).toNat).length : Int) 0) else (some false))) else (none)) else (none))) else (none)) else (none)) = some r := by first|(rw [hji4] at H;exact H)|(simp only [hji4] at H ⊢;exact H)
 (try (have hji4h : ji4 ≤ 60 := by (rw [← hji4];unfold mn;(repeat' split) <;> omega)))
 (try (have hji4g : ji4 ≤ 64 := by omega))
 (try (have hji4l : 0 ≤ ji4 := by (rw [← hji4];unfold mn;(repeat' split) <;> omega)))
 (try (have hji4m : 0 ≤ ji4 := by omega))
 have hji4_ : (if 60 < (l0.length : Int) then 60 else (l0.length : Int)) = ji4 := hji4
 by_cases c5 : 0 ≤ (ji4)
 ·rw [if_pos c5] at H
  have c5b0 := eq_true c5
  have c5b1 : decide (0 ≤ (ji4)) = true := decide_eq_true c5
  clear c5
  by_cases c6 : (ji4) ≤ (l0.length : Int)
  ·rw [if_pos c6] at H
   have c6b0 := eq_true c6
   have c6b1 : decide ((ji4) ≤ (l0.length : Int)) = true := decide_eq_true c6
   clear c6
   obtain ⟨y159, hy159⟩ : ∃ y_ : List (S36), y_ = (l0.take ((ji4) : Int).toNat) := ⟨_, rfl⟩
   replace H : (if 0 ≤ (mn (l1.length : Int) 10) then (if (mn (l1.length : Int) 10) ≤ (l1.length : Int) then ((gantt_Draw.f y159 (l1.take ((mn (l1.length : Int) 10) : Int).toNat) a2).bind fun t164 => (if (t164.length : Int) = ((l1.take ((mn (l1.length : Int) 10) : Int).toNat).length : Int) then (pinfoldlaw30_GanttDraws.l0 k y159 a2 t164 (l1.take ((mn (l1.length : Int) 10) : Int).toNat) ((l1.take ((mn (l1.length : Int) 10) : Int).toNat).length : Int) 0) else (some false))) else (none)) else (none)) = some r := by first|(rw [hy159];with_reducible exact H)|(have H2_ := (Option.bind_some _ _).symm.trans H;rw [hy159];with_reducible exact H2_)|(have H2_ := (Option.bind_some _ _).symm.trans H;with_reducible exact H2_)|with_reducible exact H|(rw [hy159];exact H)|exact H
   have Ny159 := Aside0.mk hy159
   have KCUT := Aside0.mk (show y159.length = min l0.length 60 from by rw [hy159, ← hji4];exact cut_len l0)
   clear hy159
   obtain ⟨ji7, hji7⟩ : ∃ j_ : Int, (mn (l1.length : Int) 10) = j_ := ⟨_, rfl⟩
   replace H : (if 0 ≤ (ji7) then (if (ji7) ≤ (l1.length : Int) then ((gantt_Draw.f y159 (l1.take ((ji7) : Int).toNat) a2).bind fun t164 => (if (t164.length : Int) = ((l1.take ((ji7) : Int).toNat).length : Int) then (pinfoldlaw30_GanttDraws.l0 k y159 a2 t164 (l1.take ((ji7) : Int).toNat) ((l1.take ((ji7) : Int).toNat).length : Int) 0) else (some false))) else (none)) else (none)) = some r := by first|(rw [hji7] at H;exact H)|(simp only [hji7] at H ⊢;exact H)
   (try (have hji7h : ji7 ≤ 10 := by (rw [← hji7];unfold mn;(repeat' split) <;> omega)))
   (try (have hji7g : ji7 ≤ 64 := by omega))
   (try (have hji7l : 0 ≤ ji7 := by (rw [← hji7];unfold mn;(repeat' split) <;> omega)))
   (try (have hji7m : 0 ≤ ji7 := by omega))
   have hji7_ : (if 10 < (l1.length : Int) then 10 else (l1.length : Int)) = ji7 := hji7
   by_cases c8 : 0 ≤ (ji7)
   ·rw [if_pos c8] at H
    have c8b0 := eq_true c8
    have c8b1 : decide (0 ≤ (ji7)) = true := decide_eq_true c8
    clear c8
    by_cases c9 : (ji7) ≤ (l1.length : Int)
    ·rw [if_pos c9] at H
     have c9b0 := eq_true c9
     have c9b1 : decide ((ji7) ≤ (l1.length : Int)) = true := decide_eq_true c9
     clear c9
     replace H := Option.bind_eq_some_iff.mp H
     obtain ⟨t164, A100, H⟩ := H
     replace H : (if (t164.length : Int) = ((l1.take ((ji7) : Int).toNat).length : Int) then (pinfoldlaw30_GanttDraws.l0 k y159 a2 t164 (l1.take ((ji7) : Int).toNat) ((l1.take ((ji7) : Int).toNat).length : Int) 0) else (some false)) = some r := H
     have A10 := Aside0.mk A100
     clear A100
     obtain ⟨yL1, hyL1⟩ : ∃ y_, l1.take ((ji7) : Int).toNat = y_ := ⟨_, rfl⟩
     rw [hyL1] at H A10
     have KYL1 := Aside0.mk hyL1
     clear hyL1
     by_cases c11 : (t164.length : Int) = (yL1.length : Int)
     ·rw [if_pos c11] at H
      have c11b0 : ((t164.length : Int) == (yL1.length : Int)) = true := beq_iff_eq.mpr c11
      have c11b1 : ((t164.length : Int) != (yL1.length : Int)) = false := bne_eq_false_iff_eq.mpr c11
      have c11b2 : (t164.length == yL1.length) = true := by first|simpa using c11|(simp at c11 ⊢;omega)
      clear c11
      have H' := Aside0.mk H
      clear H
      go_enter Try.func4, Try.ntmps4
      try go_wp2
      have n0_ := Aside0.mk (below_drew1 HB.out)
      clear HB
      have HB := n0_
      clear n0_
      have q13 : ((ji4) : Int) ≤ ((l0.length : Int) : Int) := of_decide_eq_true (by assumption)
      obtain ⟨i013, hi013, _, hsz13, _⟩ := info_parts info36
      have hroom13 : l0.length ≤ c0 := HC0.out
      have hC13 : Kd.C k36 _ A0 l0.length l0 := HR0.out
      have hcut13 := cut_to (P := Try.prog) 22 36 .i64 Try.underlying22 hi013 A0 l0.length c0 (ji4) (of_decide_eq_true (by assumption)) q13 hroom13
      have hr13 := Kd.C_take (m := ((ji4) : Int).toNat) hC13 (by omega)
      have hy13 : y159.length = ((ji4) : Int).toNat := (by rw [Ny159.out, List.length_take];omega)
      rw [← Ny159.out] at hr13
      rw [← hy13] at hcut13
      have HR162 := Aside0.mk hr13
      have HC162 := Aside0.mk (show y159.length ≤ c0 from by omega)
      clear hr13 hC13 hroom13 hi013 hsz13
      have KY13 := Aside0.mk hy13
      clear hy13
      replace q13 := eq_true q13
      obtain ⟨i014, hi014, _, hsz14, _⟩ := info_parts info3
      obtain ⟨hcut14, hA14, hC14⟩ := print_take_of (P := Try.prog) (Value.int .i64) 0 30 3 .i64 Try.underlying30 hi014 hsz14 A1 c1 l1 (ji7) (of_decide_eq_true (by assumption)) (of_decide_eq_true (by assumption)) HC1.out
      rw [KYL1.out] at hcut14 hA14 hC14
      have HR163 := Aside0.mk (Kd.C_of_reads (h1 := fun _ => rfl) (hA14 _ (Kd.reads_of_C HR1.out)))
      have HC163 := Aside0.mk hC14
      clear hA14 hC14 hi014 hsz14
      go_quiet ((go_at_call 14;exact Calls.quiet_of_same (cut_any A0 c0 l0 _ _ HC0.out KCUT.out)))
      clear HB
      have HB := Aside0.mk (pw_below_drewN (Below.refl w.heap.size w) nq)
      generalize w.drewN nq = w12 at HB ⊢
      try go_wp2_with (first|((with_reducible refine gate_callee (f := 18) rfl ?_);refine goesL_ (some 20) rfl rfl Try.func18 (by kernel_rfl) rfl #[.slice A0 y159.length c0, .slice A1 yL1.length c1, .int .i64 a2] rfl (by (try simp only [List.map_toArray, List.map_cons, List.map_nil]);first|done|(rw [show yL1.length = (ji7).toNat from (by rw [List.length_take];have h_ : ((ji7) : Int) ≤ (l1.length : Int) := of_decide_eq_true (by assumption);omega)] <;> rfl)|(simp only [hji7];rfl)|rfl|(simp only [List.length_drop, List.length_take];rfl)) ?_;(with_reducible refine (gantt_Draw.calls _ _ y159 _ _ yL1 a2 t164 _ ?side1 ?side2 ?side3 ?side4 A10.out).mono ?_);(case side1 => repeat (first|exact (Kd.C_below HR162.out HB.out)|(with_reducible refine Kd.C_alloc ?_ _)|(with_reducible refine Kd.C_drewN ?_ _)|(with_reducible refine Kd.C_drew ?_)));(case side2 => exact HC162.out);(case side3 => repeat (first|exact (Kd.C_below HR163.out HB.out)|(with_reducible refine Kd.C_alloc ?_ _)|(with_reducible refine Kd.C_drewN ?_ _)|(with_reducible refine Kd.C_drew ?_)));(case side4 => exact HC163.out);rintro e w15 ⟨v165, rfl, ho0, hb⟩;refine ⟨_, rfl, ?_⟩;have n0_ := Aside0.mk (Kd.R_lower ho0 (below_size (by repeat (with_reducible first|exact HB.out|apply xa|apply xb|apply xc))));have n1_ := Aside0.mk (below_step (by repeat (with_reducible first|exact HB.out|apply xa|apply xb|apply xc)) hb);clear HB;have HO166 := n0_;have HB := n1_;clear n0_ n1_;(try clear hb);(try clear hb2);(try clear hk);(try clear hi);(try clear ho0);obtain ⟨Ao16, co16, eo16⟩ := Kd.R_slice HO166.out;subst eo16))
      go_loopg [28] k (fun kq v28 w' => ∃ (x28_1 : Int), v28 = .int .i64 x28_1 ∧ Aside0 (pinfoldlaw30_GanttDraws.l0 kq y159 a2 t164 yL1 (yL1.length : Int) x28_1 = some r) ∧ Aside0 (kq ≤ k) ∧ Aside0 (Kd.R Kd.string 9 w' w.heap.size (fun _ => True) (.slice Ao16 t164.length co16) t164) ∧ Aside0 (Below w.heap.size w w'))
      case atStart => exact ⟨(0), (by first|rfl|(simp;done)|(simp [*];done)), H', ⟨Nat.le_refl _⟩, ⟨by (with_reducible repeat (first|apply Kd.R_alloc|apply Kd.R_drewN|apply Kd.R_drew));exact HO166.out⟩, ⟨by repeat (with_reducible first|exact HB.out|apply xa|apply xb|apply xc)⟩⟩
      case round =>
       clear H'
       try clear c1
       try clear q1
       try clear p2
       try clear c4
       try clear c5
       try clear c5b0
       try clear c5b1
       try clear c6
       try clear c6b0
       try clear c6b1
       try clear c8
       try clear c8b0
       try clear c8b1
       try clear c9
       try clear c9b0
       try clear c9b1
       try clear c11
       try clear c11b0
       try clear c11b1
       try clear c11b2
       try clear q13
       try clear q13
       obtain ⟨x28_1, rfl, HA, HK1, HO_7, HB⟩ := hrel
       cases gk with
       | zero => exact absurd HA.out (by simp [pinfoldlaw30_GanttDraws.l0])
       | succ k1 =>
        have H := HA.out
        clear HA
        simp only [pinfoldlaw30_GanttDraws.l0] at H
        by_cases c17 : x28_1 < (yL1.length : Int)
        ·rw [if_pos c17] at H
         have c17b0 : decide (x28_1 < (yL1.length : Int)) = true := decide_eq_true c17
         clear c17
         by_cases c18 : 0 ≤ x28_1
         ·rw [if_pos c18] at H
          have c18b0 : decide (0 ≤ x28_1) = true := decide_eq_true c18
          clear c18
          by_cases c19 : x28_1 < (yL1.length : Int)
          ·rw [if_pos c19] at H
           have c19b0 : decide (x28_1 < (yL1.length : Int)) = true := decide_eq_true c19
           clear c19
           by_cases c20 : x28_1 < (t164.length : Int)
           ·rw [if_pos c20] at H
            have c20b0 : decide (x28_1 < (t164.length : Int)) = true := decide_eq_true c20
            clear c20
            replace H := Option.bind_eq_some_iff.mp H
            obtain ⟨t169, A210, H⟩ := H
            replace H : (if (rdOf ByteArray.empty t164 x28_1).toList = t169.toList then (pinfoldlaw30_GanttDraws.l0 k1 y159 a2 t164 yL1 (yL1.length : Int) (wrap64 (x28_1 + 1))) else (some false)) = some r := H
            have A21 := Aside0.mk A210
            clear A210
            by_cases c22 : (rdOf ByteArray.empty t164 x28_1).toList = t169.toList
            ·rw [if_pos c22] at H
             have c22b0 : ((rdOf ByteArray.empty t164 x28_1).toList == t169.toList) = true := beq_iff_eq.mpr c22
             have c22b1 : ((rdOf ByteArray.empty t164 x28_1).toList != t169.toList) = false := bne_eq_false_iff_eq.mpr c22
             clear c22
             have H' := Aside0.mk H
             clear H
             have p167 : 0 ≤ (x28_1 : Int) := of_decide_eq_true (by assumption)
             have q167 : x28_1 < (yL1.length : Int) := of_decide_eq_true (by assumption)
             obtain ⟨ad167, e167, hx167_0⟩ := Kd.at_int HR163.out x28_1 p167 q167
             cases e167
             replace hx167_0 := (HB.out.cell (World.block_lt_of_cell? w _ hx167_0)).trans hx167_0
             replace p167 := eq_true p167
             replace q167 := eq_true q167
             try go_wp2
             have n0_ := Aside0.mk (Kd.R_drew HO_7.out)
             have n1_ := Aside0.mk (below_drew1 HB.out)
             clear HO_7
             clear HB
             have HO_7 := n0_
             have HB := n1_
             clear n0_ n1_
             have p168 : 0 ≤ (x28_1 : Int) := of_decide_eq_true (by assumption)
             have q168 : x28_1 < (t164.length : Int) := of_decide_eq_true (by assumption)
             obtain ⟨ad168, e168, hx168_0⟩ := Kd.at_string (Kd.R_reads' HO_7.out).2.2 x28_1 p168 q168
             cases e168
             replace p168 := eq_true p168
             replace q168 := eq_true q168
             refine start_ (n := 9) (S := fun w' => w'.cell? (ad168.add (x28_1).toNat) = some (.string (rdOf ByteArray.empty t164 x28_1))) (ds := []) #[false, false, false, false, false, false, false, false, false] (by kernel_rfl) rfl rfl (hx168_0) (fun hHeld => ?_);refine with_tabW pinfoldlaw30_GanttDraws.tab8 pinfoldlaw30_GanttDraws.bits8 (fun HT_ HW_ => ?_)
             generalize wr.drew = w23 at HO_7 HB hx168_0 hHeld ⊢
             refine pure_ (i := 0) (N := some 33) (v := ?_) (a' := ?_) #[true, false, false, false, false, false, false, false, false] rfl rfl (any_of HT_.out (by kernel_rfl)) (fun _ _ _ h => h) (Or.inl ⟨by rfl, ?_⟩) ?_ ?_
             rotate_left
             ·intro w'
              go_simp
              with_reducible rfl
             rotate_left
             ·simp only [Act.put, List.setIfInBounds_toArray, List.set_cons_zero, List.set_cons_succ, i64_w, i32_w]
              rfl
             refine pure_ (i := 1) (N := some 34) (v := ?_) (a' := ?_) #[true, true, false, false, false, false, false, false, false] rfl rfl (any_of HT_.out (by kernel_rfl)) (fun _ _ _ h => h) (Or.inl ⟨by rfl, ?_⟩) ?_ ?_
             rotate_left
             ·intro w'
              go_simp
              with_reducible rfl
             rotate_left
             ·simp only [Act.put, List.setIfInBounds_toArray, List.set_cons_zero, List.set_cons_succ, i64_w, i32_w]
              rfl
             refine pure_ (i := 2) (N := some 35) (v := ?_) (a' := ?_) #[true, true, true, false, false, false, false, false, false] rfl rfl (any_of HT_.out (by kernel_rfl)) (fun _ _ _ h => h) (Or.inl ⟨by rfl, ?_⟩) ?_ ?_
             rotate_left
             ·intro w'
              go_simp
              with_reducible rfl
             rotate_left
             ·simp only [Act.put, List.setIfInBounds_toArray, List.set_cons_zero, List.set_cons_succ, i64_w, i32_w]
              rfl
             refine pure_ (i := 4) (N := some 37) (v := ?_) (a' := ?_) #[true, true, true, false, true, false, false, false, false] rfl rfl (any_of HT_.out (by kernel_rfl)) (fun _ _ _ h => h) (Or.inl ⟨by rfl, ?_⟩) ?_ ?_
             rotate_left
             ·intro w'
              go_simp
              with_reducible rfl
             rotate_left
             ·simp only [Act.put, List.setIfInBounds_toArray, List.set_cons_zero, List.set_cons_succ, i64_w, i32_w]
              rfl
             refine pure_ (i := 5) (N := some 38) (v := ?_) (a' := ?_) #[true, true, true, false, true, true, false, false, false] rfl rfl (any_of HT_.out (by kernel_rfl)) (fun _ _ _ h => h) (Or.inl ⟨by rfl, ?_⟩) ?_ ?_
             rotate_left
             ·intro w'
              go_simp
              with_reducible rfl
             rotate_left
             ·simp only [Act.put, List.setIfInBounds_toArray, List.set_cons_zero, List.set_cons_succ, i64_w, i32_w]
              rfl
             refine pure_ (i := 6) (N := some 39) (v := ?_) (a' := ?_) #[true, true, true, false, true, true, true, false, false] rfl rfl (any_of HT_.out (by kernel_rfl)) (fun _ _ _ h => h) (Or.inl ⟨by rfl, ?_⟩) ?_ ?_
             rotate_left
             ·intro w'
              go_simp
              with_reducible rfl
             rotate_left
             ·simp only [Act.put, List.setIfInBounds_toArray, List.set_cons_zero, List.set_cons_succ, i64_w, i32_w]
              rfl
             refine take_ (i := 3) (N := some 36) (v := ?_) (a' := ?_) #[true, true, true, true, true, true, true, false, false] rfl rfl (take_ofW HT_.out HW_.out (by kernel_rfl)) (fun _ _ _ h => h) (Or.inl ⟨by rfl, ?_⟩) hHeld ?_ ?_
             rotate_left
             ·intro w' s0
              go_simp
              with_reducible rfl
             rotate_left
             ·simp only [Act.put, List.setIfInBounds_toArray, List.set_cons_zero, List.set_cons_succ, i64_w, i32_w]
              rfl
             refine one_ (i := 7) (N := some 40) #[true, true, true, true, true, true, true, true, false] rfl rfl (one_of HT_.out (by kernel_rfl)) (by decide) (fun K hK => ?_)
             refine goes_ Try.func19 (by kernel_rfl) rfl #[.slice A0 y159.length c0, .int .i64 (rd yL1 x28_1), .int .i64 a2] (by rfl) rfl rfl (by (try simp only [List.map_toArray, List.map_cons, List.map_nil]);first|done|(simp only [hji7];rfl)|rfl|(simp only [List.length_drop, List.length_take];rfl)) ?_
             with_reducible refine (pinfoldref30_Line.calls k1 _ _ y159 (rd yL1 x28_1) a2 t169 _ ?side1 ?side2 A21.out).mono ?_
             (case side1 => repeat (first|exact (Kd.C_below HR162.out HB.out)|(with_reducible refine Kd.C_alloc ?_ _)|(with_reducible refine Kd.C_drewN ?_ _)|(with_reducible refine Kd.C_drew ?_)))
             (case side2 => exact HC162.out)
             rintro e w24 ⟨rfl, hb⟩
             have HS0_ := (hb.cell (World.block_lt_of_cell? _ _ (hHeld))).trans (hHeld)
             refine ⟨_, rfl, ?_⟩
             have n0_ := Aside0.mk (Kd.R_below (by (with_reducible repeat (first|apply Kd.R_alloc|apply Kd.R_drewN|apply Kd.R_drew));exact HO_7.out) hb)
             have n1_ := Aside0.mk (below_step (by repeat (with_reducible first|exact HB.out|apply xa|apply xb|apply xc)) hb)
             clear HO_7
             clear HB
             have HO_7 := n0_
             have HB := n1_
             clear n0_ n1_
             (try clear hb)
             (try clear hb2)
             (try clear hk)
             (try clear hi)
             refine hK.out _ _ (HS0_) (fun hHeld => ?_)
             clear hK K
             refine norm_ (a' := ?_) ?_ ?_
             rotate_left
             ·show Act.put _ (some 40) _ = _
              simp only [Act.put, List.setIfInBounds_toArray, List.set_cons_zero, List.set_cons_succ, i64_w, i32_w]
              rfl
             refine pure_ (i := 8) (N := some 41) (v := ?_) (a' := ?_) #[true, true, true, true, true, true, true, true, true] rfl rfl (any_of HT_.out (by kernel_rfl)) (fun _ _ _ h => h) (Or.inl ⟨by rfl, ?_⟩) ?_ ?_
             rotate_left
             ·intro w'
              go_simp
              with_reducible rfl
             rotate_left
             ·simp only [Act.put, List.setIfInBounds_toArray, List.set_cons_zero, List.set_cons_succ, i64_w, i32_w]
              rfl
             refine done_ (done_of HT_.out (by kernel_rfl)) ?_
             try go_wp2
             (try simp only [px_add0] at *)
             go_roundg k1
             case measure => have := HK1.out;omega
             case rel => exact ⟨(wrap64 (x28_1 + 1)), (by first|rfl|(simp;done)|(simp [*];done)), H', ⟨by have := HK1.out;omega⟩, ⟨by (with_reducible repeat (first|apply Kd.R_alloc|apply Kd.R_drewN|apply Kd.R_drew));exact HO_7.out⟩, ⟨by repeat (with_reducible first|exact HB.out|apply xa|apply xb|apply xc)⟩⟩
            ·rw [if_neg c22] at H
             have c22b0 : ((rdOf ByteArray.empty t164 x28_1).toList == t169.toList) = false := beq_eq_false_iff_ne.mpr c22
             have c22b1 : ((rdOf ByteArray.empty t164 x28_1).toList != t169.toList) = true := bne_iff_ne.mpr c22
             obtain rfl := Option.some.inj H
             have p167 : 0 ≤ (x28_1 : Int) := of_decide_eq_true (by assumption)
             have q167 : x28_1 < (yL1.length : Int) := of_decide_eq_true (by assumption)
             obtain ⟨ad167, e167, hx167_0⟩ := Kd.at_int HR163.out x28_1 p167 q167
             cases e167
             replace hx167_0 := (HB.out.cell (World.block_lt_of_cell? w _ hx167_0)).trans hx167_0
             replace p167 := eq_true p167
             replace q167 := eq_true q167
             try go_wp2
             have n0_ := Aside0.mk (Kd.R_drew HO_7.out)
             have n1_ := Aside0.mk (below_drew1 HB.out)
             clear HO_7
             clear HB
             have HO_7 := n0_
             have HB := n1_
             clear n0_ n1_
             have p168 : 0 ≤ (x28_1 : Int) := of_decide_eq_true (by assumption)
             have q168 : x28_1 < (t164.length : Int) := of_decide_eq_true (by assumption)
             obtain ⟨ad168, e168, hx168_0⟩ := Kd.at_string (Kd.R_reads' HO_7.out).2.2 x28_1 p168 q168
             cases e168
             replace p168 := eq_true p168
             replace q168 := eq_true q168
             refine start_ (n := 9) (S := fun w' => w'.cell? (ad168.add (x28_1).toNat) = some (.string (rdOf ByteArray.empty t164 x28_1))) (ds := []) #[false, false, false, false, false, false, false, false, false] (by kernel_rfl) rfl rfl (hx168_0) (fun hHeld => ?_);refine with_tabW pinfoldlaw30_GanttDraws.tab8 pinfoldlaw30_GanttDraws.bits8 (fun HT_ HW_ => ?_)
             generalize wr.drew = w25 at HO_7 HB hx168_0 hHeld ⊢
             refine pure_ (i := 0) (N := some 33) (v := ?_) (a' := ?_) #[true, false, false, false, false, false, false, false, false] rfl rfl (any_of HT_.out (by kernel_rfl)) (fun _ _ _ h => h) (Or.inl ⟨by rfl, ?_⟩) ?_ ?_
             rotate_left
             ·intro w'
              go_simp
              with_reducible rfl
             rotate_left
             ·simp only [Act.put, List.setIfInBounds_toArray, List.set_cons_zero, List.set_cons_succ, i64_w, i32_w]
              rfl
             refine pure_ (i := 1) (N := some 34) (v := ?_) (a' := ?_) #[true, true, false, false, false, false, false, false, false] rfl rfl (any_of HT_.out (by kernel_rfl)) (fun _ _ _ h => h) (Or.inl ⟨by rfl, ?_⟩) ?_ ?_
             rotate_left
             ·intro w'
              go_simp
              with_reducible rfl
             rotate_left
             ·simp only [Act.put, List.setIfInBounds_toArray, List.set_cons_zero, List.set_cons_succ, i64_w, i32_w]
              rfl
             refine pure_ (i := 2) (N := some 35) (v := ?_) (a' := ?_) #[true, true, true, false, false, false, false, false, false] rfl rfl (any_of HT_.out (by kernel_rfl)) (fun _ _ _ h => h) (Or.inl ⟨by rfl, ?_⟩) ?_ ?_
             rotate_left
             ·intro w'
              go_simp
              with_reducible rfl
             rotate_left
             ·simp only [Act.put, List.setIfInBounds_toArray, List.set_cons_zero, List.set_cons_succ, i64_w, i32_w]
              rfl
             refine pure_ (i := 4) (N := some 37) (v := ?_) (a' := ?_) #[true, true, true, false, true, false, false, false, false] rfl rfl (any_of HT_.out (by kernel_rfl)) (fun _ _ _ h => h) (Or.inl ⟨by rfl, ?_⟩) ?_ ?_
             rotate_left
             ·intro w'
              go_simp
              with_reducible rfl
             rotate_left
             ·simp only [Act.put, List.setIfInBounds_toArray, List.set_cons_zero, List.set_cons_succ, i64_w, i32_w]
              rfl
             refine pure_ (i := 5) (N := some 38) (v := ?_) (a' := ?_) #[true, true, true, false, true, true, false, false, false] rfl rfl (any_of HT_.out (by kernel_rfl)) (fun _ _ _ h => h) (Or.inl ⟨by rfl, ?_⟩) ?_ ?_
             rotate_left
             ·intro w'
              go_simp
              with_reducible rfl
             rotate_left
             ·simp only [Act.put, List.setIfInBounds_toArray, List.set_cons_zero, List.set_cons_succ, i64_w, i32_w]
              rfl
             refine pure_ (i := 6) (N := some 39) (v := ?_) (a' := ?_) #[true, true, true, false, true, true, true, false, false] rfl rfl (any_of HT_.out (by kernel_rfl)) (fun _ _ _ h => h) (Or.inl ⟨by rfl, ?_⟩) ?_ ?_
             rotate_left
             ·intro w'
              go_simp
              with_reducible rfl
             rotate_left
             ·simp only [Act.put, List.setIfInBounds_toArray, List.set_cons_zero, List.set_cons_succ, i64_w, i32_w]
              rfl
             refine take_ (i := 3) (N := some 36) (v := ?_) (a' := ?_) #[true, true, true, true, true, true, true, false, false] rfl rfl (take_ofW HT_.out HW_.out (by kernel_rfl)) (fun _ _ _ h => h) (Or.inl ⟨by rfl, ?_⟩) hHeld ?_ ?_
             rotate_left
             ·intro w' s0
              go_simp
              with_reducible rfl
             rotate_left
             ·simp only [Act.put, List.setIfInBounds_toArray, List.set_cons_zero, List.set_cons_succ, i64_w, i32_w]
              rfl
             refine one_ (i := 7) (N := some 40) #[true, true, true, true, true, true, true, true, false] rfl rfl (one_of HT_.out (by kernel_rfl)) (by decide) (fun K hK => ?_)
             refine goes_ Try.func19 (by kernel_rfl) rfl #[.slice A0 y159.length c0, .int .i64 (rd yL1 x28_1), .int .i64 a2] (by rfl) rfl rfl (by (try simp only [List.map_toArray, List.map_cons, List.map_nil]);first|done|(simp only [hji7];rfl)|rfl|(simp only [List.length_drop, List.length_take];rfl)) ?_
             with_reducible refine (pinfoldref30_Line.calls k1 _ _ y159 (rd yL1 x28_1) a2 t169 _ ?side1 ?side2 A21.out).mono ?_
             (case side1 => repeat (first|exact (Kd.C_below HR162.out HB.out)|(with_reducible refine Kd.C_alloc ?_ _)|(with_reducible refine Kd.C_drewN ?_ _)|(with_reducible refine Kd.C_drew ?_)))
             (case side2 => exact HC162.out)
             rintro e w26 ⟨rfl, hb⟩
             have HS0_ := (hb.cell (World.block_lt_of_cell? _ _ (hHeld))).trans (hHeld)
             refine ⟨_, rfl, ?_⟩
             have n0_ := Aside0.mk (Kd.R_below (by (with_reducible repeat (first|apply Kd.R_alloc|apply Kd.R_drewN|apply Kd.R_drew));exact HO_7.out) hb)
             have n1_ := Aside0.mk (below_step (by repeat (with_reducible first|exact HB.out|apply xa|apply xb|apply xc)) hb)
             clear HO_7
             clear HB
             have HO_7 := n0_
             have HB := n1_
             clear n0_ n1_
             (try clear hb)
             (try clear hb2)
             (try clear hk)
             (try clear hi)
             refine hK.out _ _ (HS0_) (fun hHeld => ?_)
             clear hK K
             refine norm_ (a' := ?_) ?_ ?_
             rotate_left
             ·show Act.put _ (some 40) _ = _
              simp only [Act.put, List.setIfInBounds_toArray, List.set_cons_zero, List.set_cons_succ, i64_w, i32_w]
              rfl
             refine pure_ (i := 8) (N := some 41) (v := ?_) (a' := ?_) #[true, true, true, true, true, true, true, true, true] rfl rfl (any_of HT_.out (by kernel_rfl)) (fun _ _ _ h => h) (Or.inl ⟨by rfl, ?_⟩) ?_ ?_
             rotate_left
             ·intro w'
              go_simp
              with_reducible rfl
             rotate_left
             ·simp only [Act.put, List.setIfInBounds_toArray, List.set_cons_zero, List.set_cons_succ, i64_w, i32_w]
              rfl
             refine done_ (done_of HT_.out (by kernel_rfl)) ?_
             try go_wp2
             go_ret
             exact ⟨by first|rfl|(simp [errW_none, errW_some] <;> rfl)|(simp only [← hji4, ← hji7];first|rfl|(simp [errW_none, errW_some] <;> rfl))|(simp [*, errW_none, errW_some] <;> rfl), by repeat (with_reducible first|exact HB.out|apply xa|apply xb|apply xc)⟩
           ·rw [if_neg c20] at H
            exact absurd H (by simp)
          ·rw [if_neg c19] at H
           exact absurd H (by simp)
         ·rw [if_neg c18] at H
          exact absurd H (by simp)
        ·rw [if_neg c17] at H
         have c17b0 : decide (x28_1 < (yL1.length : Int)) = false := decide_eq_false c17
         clear c17
         replace H := Option.bind_eq_some_iff.mp H
         obtain ⟨t170, A270, H⟩ := H
         replace H : (some t170) = some r := H
         have A27 := Aside0.mk A270
         clear A270
         obtain rfl := Option.some.inj H
         go_wp2_with (first|((with_reducible refine gate_callee (f := 17) rfl ?_);refine goesL_ (some 43) rfl rfl Try.func17 (by kernel_rfl) rfl #[] rfl (by (try simp only [List.map_toArray, List.map_cons, List.map_nil]);first|done|rfl|(simp only [List.length_drop, List.length_take];rfl)) ?_;(with_reducible refine (pinfoldlaw30_lives.calls  t170 _ A27.out).mono ?_);rintro e w28 ⟨rfl, hb⟩;refine ⟨_, rfl, ?_⟩;have n0_ := Aside0.mk (Kd.R_below (by (with_reducible repeat (first|apply Kd.R_alloc|apply Kd.R_drewN|apply Kd.R_drew));exact HO_7.out) hb);have n1_ := Aside0.mk (below_step (by repeat (with_reducible first|exact HB.out|apply xa|apply xb|apply xc)) hb);clear HO_7;clear HB;have HO_7 := n0_;have HB := n1_;clear n0_ n1_;(try clear hb);(try clear hb2);(try clear hk);(try clear hi)))
         go_ret
         exact ⟨by first|rfl|(simp [errW_none, errW_some] <;> rfl)|(simp only [← hji4, ← hji7];first|rfl|(simp [errW_none, errW_some] <;> rfl))|(simp [*, errW_none, errW_some] <;> rfl), by repeat (with_reducible first|exact HB.out|apply xa|apply xb|apply xc)⟩
     ·rw [if_neg c11] at H
      have c11b0 : ((t164.length : Int) == (yL1.length : Int)) = false := beq_eq_false_iff_ne.mpr c11
      have c11b1 : ((t164.length : Int) != (yL1.length : Int)) = true := bne_iff_ne.mpr c11
      have c11b2 : (t164.length == yL1.length) = false := by first|simpa using c11|(simp at c11 ⊢;omega)
      obtain rfl := Option.some.inj H
      go_enter Try.func4, Try.ntmps4
      try go_wp2
      have n0_ := Aside0.mk (below_drew1 HB.out)
      clear HB
      have HB := n0_
      clear n0_
      have q30 : ((ji4) : Int) ≤ ((l0.length : Int) : Int) := of_decide_eq_true (by assumption)
      obtain ⟨i030, hi030, _, hsz30, _⟩ := info_parts info36
      have hroom30 : l0.length ≤ c0 := HC0.out
      have hC30 : Kd.C k36 _ A0 l0.length l0 := HR0.out
      have hcut30 := cut_to (P := Try.prog) 22 36 .i64 Try.underlying22 hi030 A0 l0.length c0 (ji4) (of_decide_eq_true (by assumption)) q30 hroom30
      have hr30 := Kd.C_take (m := ((ji4) : Int).toNat) hC30 (by omega)
      have hy30 : y159.length = ((ji4) : Int).toNat := (by rw [Ny159.out, List.length_take];omega)
      rw [← Ny159.out] at hr30
      rw [← hy30] at hcut30
      have HR162 := Aside0.mk hr30
      have HC162 := Aside0.mk (show y159.length ≤ c0 from by omega)
      clear hr30 hC30 hroom30 hi030 hsz30
      have KY30 := Aside0.mk hy30
      clear hy30
      replace q30 := eq_true q30
      obtain ⟨i031, hi031, _, hsz31, _⟩ := info_parts info3
      obtain ⟨hcut31, hA31, hC31⟩ := print_take_of (P := Try.prog) (Value.int .i64) 0 30 3 .i64 Try.underlying30 hi031 hsz31 A1 c1 l1 (ji7) (of_decide_eq_true (by assumption)) (of_decide_eq_true (by assumption)) HC1.out
      rw [KYL1.out] at hcut31 hA31 hC31
      have HR163 := Aside0.mk (Kd.C_of_reads (h1 := fun _ => rfl) (hA31 _ (Kd.reads_of_C HR1.out)))
      have HC163 := Aside0.mk hC31
      clear hA31 hC31 hi031 hsz31
      go_quiet ((go_at_call 14;exact Calls.quiet_of_same (cut_any A0 c0 l0 _ _ HC0.out KCUT.out)))
      clear HB
      have HB := Aside0.mk (pw_below_drewN (Below.refl w.heap.size w) nq)
      generalize w.drewN nq = w12 at HB ⊢
      try go_wp2_with (first|((with_reducible refine gate_callee (f := 18) rfl ?_);refine goesL_ (some 20) rfl rfl Try.func18 (by kernel_rfl) rfl #[.slice A0 y159.length c0, .slice A1 yL1.length c1, .int .i64 a2] rfl (by (try simp only [List.map_toArray, List.map_cons, List.map_nil]);first|done|(rw [show yL1.length = (ji7).toNat from (by rw [List.length_take];have h_ : ((ji7) : Int) ≤ (l1.length : Int) := of_decide_eq_true (by assumption);omega)] <;> rfl)|(simp only [hji7];rfl)|rfl|(simp only [List.length_drop, List.length_take];rfl)) ?_;(with_reducible refine (gantt_Draw.calls _ _ y159 _ _ yL1 a2 t164 _ ?side1 ?side2 ?side3 ?side4 A10.out).mono ?_);(case side1 => repeat (first|exact (Kd.C_below HR162.out HB.out)|(with_reducible refine Kd.C_alloc ?_ _)|(with_reducible refine Kd.C_drewN ?_ _)|(with_reducible refine Kd.C_drew ?_)));(case side2 => exact HC162.out);(case side3 => repeat (first|exact (Kd.C_below HR163.out HB.out)|(with_reducible refine Kd.C_alloc ?_ _)|(with_reducible refine Kd.C_drewN ?_ _)|(with_reducible refine Kd.C_drew ?_)));(case side4 => exact HC163.out);rintro e w32 ⟨v165, rfl, ho0, hb⟩;refine ⟨_, rfl, ?_⟩;have n0_ := Aside0.mk (Kd.R_lower ho0 (below_size (by repeat (with_reducible first|exact HB.out|apply xa|apply xb|apply xc))));have n1_ := Aside0.mk (below_step (by repeat (with_reducible first|exact HB.out|apply xa|apply xb|apply xc)) hb);clear HB;have HO166 := n0_;have HB := n1_;clear n0_ n1_;(try clear hb);(try clear hb2);(try clear hk);(try clear hi);(try clear ho0);obtain ⟨Ao33, co33, eo33⟩ := Kd.R_slice HO166.out;subst eo33))
      go_ret
      exact ⟨by first|rfl|(simp [errW_none, errW_some] <;> rfl)|(simp only [← hji4, ← hji7];first|rfl|(simp [errW_none, errW_some] <;> rfl))|(simp [*, errW_none, errW_some] <;> rfl), by repeat (with_reducible first|exact HB.out|apply xa|apply xb|apply xc)⟩
    ·rw [if_neg c9] at H
     exact absurd H (by simp)
   ·rw [if_neg c8] at H
    exact absurd H (by simp)
  ·rw [if_neg c6] at H
   exact absurd H (by simp)
 ·rw [if_neg c5] at H
  exact absurd H (by simp)

-- GIVEN 56 gantt_Busy_1

/-! ### gantt_count: function 55 -/
def gantt_count.l0 : Nat → Int → Int → List (S36) → Int → Int → Option (Int)
 | 0, _, _, _, _, _ => none
 | k + 1, x1, x4, x7, x8, x9 => if x9 < x8 then (if 0 ≤ x9 then (if x9 < (x7.length : Int) then ((gantt_Busy_1.f ((rd_T36 x7 x9).f0) ((rd_T36 x7 x9).f1) ((rd_T36 x7 x9).f2) ((rd_T36 x7 x9).f3) ((rd_T36 x7 x9).f4) x1).bind fun t176 => (if t176 = true then (gantt_count.l0 k x1 (wrap64 (x4 + 1)) x7 x8 (wrap64 (x9 + 1))) else (gantt_count.l0 k x1 x4 x7 x8 (wrap64 (x9 + 1))))) else (none)) else (none)) else (some x4)
def gantt_count.f (k : Nat) (l0 : List (S36)) (a1 : Int) : Option (Int) := gantt_count.l0 k a1 0 l0 (l0.length : Int) 0
theorem gantt_count.mono_l : ∀ k, (∀ y0 y1 y2 y3 y4, LeO (gantt_count.l0 k y0 y1 y2 y3 y4) (gantt_count.l0 (k + 1) y0 y1 y2 y3 y4))
 | 0 => fun _ _ _ _ _ r h => by simp [gantt_count.l0] at h
 | k + 1 => by
  have ih0 := gantt_count.mono_l k
  ·intro y0 y1 y2 y3 y4
   unfold gantt_count.l0
   repeat' first
   | (with_reducible exact ih0 _ _ _ _ _)
   | (with_reducible exact LeO.refl _)
   | (with_reducible exact LeO.none _)
   | (with_reducible refine LeO.ite ?_ ?_)
   | (with_reducible refine LeO.bind ?_ (fun _ => ?_))
   | exact ih0 _ _ _ _ _
   | exact LeO.none _
   | refine LeO.ite ?_ ?_
   | refine LeO.bind ?_ (fun _ => ?_)
theorem gantt_count.mono : ∀ a0 a1 k, LeO (gantt_count.f k a0 a1) (gantt_count.f (k + 1) a0 a1) := by
 intro a0 a1 k
 have ih0 := gantt_count.mono_l k
 unfold gantt_count.f
 repeat' first
   | (with_reducible exact ih0 _ _ _ _ _)
   | (with_reducible exact LeO.refl _)
   | (with_reducible exact LeO.none _)
   | (with_reducible refine LeO.ite ?_ ?_)
   | (with_reducible refine LeO.bind ?_ (fun _ => ?_))
   | exact ih0 _ _ _ _ _
   | exact LeO.none _
   | refine LeO.ite ?_ ?_
   | refine LeO.bind ?_ (fun _ => ?_)
set_option maxHeartbeats 8000000 in
set_option maxRecDepth 100000 in
theorem gantt_count.calls (k : Nat) (A0 : Option Addr) (c0 : Nat) (l0 : List (S36)) (a1 : Int) (r : Int) (w : World) (hr0 : Kd.C k36 w A0 l0.length l0) (hc0 : l0.length ≤ c0) (h : gantt_count.f k l0 a1 = some r) (cap_ : Addr) (hcap_ : w.cell? cap_ = some (.int .i64 a1)) :
  Calls Try.prog 55 #[.slice A0 l0.length c0, .func (.func 56) #[] #[.pointer (some cap_)]] w fun e w' => e = .returned (.int .i64 r) ∧ Below w.heap.size w w' := by
 have hu36 := Try.underlying36
 have HR0 := Aside0.mk hr0
 have HC0 := Aside0.mk hc0
 clear hr0 hc0
 have HB := Aside0.mk (Below.refl w.heap.size w)
 have HCAP := Aside0.mk hcap_
 clear hcap_
 have H : (gantt_count.l0 k a1 0 l0 (l0.length : Int) 0) = some r := h
 clear h
 have H' := Aside0.mk H
 clear H
 go_enter Try.func55, Try.ntmps55
 go_wp2
 go_loopg [4, 9] k (fun kq v4 v9 w' => ∃ (x4_1 : Int) (x9_1 : Int), v4 = .int .i64 x4_1 ∧ v9 = .int .i64 x9_1 ∧ Aside0 (gantt_count.l0 kq a1 x4_1 l0 (l0.length : Int) x9_1 = some r) ∧ Aside0 (kq ≤ k) ∧ Aside0 (Below w.heap.size w w'))
 case atStart => exact ⟨(0), (0), (by first|rfl|(simp;done)|(simp [*];done)), (by first|rfl|(simp;done)|(simp [*];done)), H', ⟨Nat.le_refl _⟩, ⟨by repeat (with_reducible first|exact HB.out|apply xa|apply xb|apply xc)⟩⟩
 case round =>
  clear H'
  try clear p2
  obtain ⟨x4_1, x9_1, rfl, rfl, HA, HK1, HB⟩ := hrel
  cases gk with
  | zero => exact absurd HA.out (by simp [gantt_count.l0])
  | succ k1 =>
   have H := HA.out
   clear HA
   simp only [gantt_count.l0] at H
   by_cases c3 : x9_1 < (l0.length : Int)
   ·rw [if_pos c3] at H
    have c3b0 : decide (x9_1 < (l0.length : Int)) = true := decide_eq_true c3
    clear c3
    by_cases c4 : 0 ≤ x9_1
    ·rw [if_pos c4] at H
     have c4b0 : decide (0 ≤ x9_1) = true := decide_eq_true c4
     clear c4
     by_cases c5 : x9_1 < (l0.length : Int)
     ·rw [if_pos c5] at H
      have c5b0 : decide (x9_1 < (l0.length : Int)) = true := decide_eq_true c5
      clear c5
      replace H := Option.bind_eq_some_iff.mp H
      obtain ⟨t176, A60, H⟩ := H
      replace H : (if t176 = true then (gantt_count.l0 k1 a1 (wrap64 (x4_1 + 1)) l0 (l0.length : Int) (wrap64 (x9_1 + 1))) else (gantt_count.l0 k1 a1 x4_1 l0 (l0.length : Int) (wrap64 (x9_1 + 1)))) = some r := H
      have A6 := Aside0.mk A60
      clear A60
      by_cases c7 : t176 = true
      ·subst c7
       have H1 : (gantt_count.l0 k1 a1 (wrap64 (x4_1 + 1)) l0 (l0.length : Int) (wrap64 (x9_1 + 1))) = some r := by rw [if_pos rfl] at H;exact H
       clear H
       have H := H1
       clear H1
       have H' := Aside0.mk H
       clear H
       have p174 : 0 ≤ (x9_1 : Int) := of_decide_eq_true (by assumption)
       have q174 : x9_1 < (l0.length : Int) := of_decide_eq_true (by assumption)
       obtain ⟨ad174, e174, hx174_0, hx174_1, hx174_2, hx174_3, hx174_4⟩ := at_T36 HR0.out x9_1 p174 q174
       cases e174
       replace hx174_0 := (HB.out.cell (World.block_lt_of_cell? w _ hx174_0)).trans hx174_0
       replace hx174_1 := (HB.out.cell (World.block_lt_of_cell? w _ hx174_1)).trans hx174_1
       replace hx174_2 := (HB.out.cell (World.block_lt_of_cell? w _ hx174_2)).trans hx174_2
       replace hx174_3 := (HB.out.cell (World.block_lt_of_cell? w _ hx174_3)).trans hx174_3
       replace hx174_4 := (HB.out.cell (World.block_lt_of_cell? w _ hx174_4)).trans hx174_4
       replace p174 := eq_true p174
       replace q174 := eq_true q174
       go_wp2_with (first|((with_reducible refine gate_dst (N := 6) rfl ?_);refine box_event ?hg (N := 6) ?hd (cs := #[.int .i64 0, .int .i64 0, .int .i64 0, .int .i64 0, .int .i64 0]) (t := 36) ?hr ?_;(case hd => rfl);(case hg => rfl);(case hr => first|(go_simp;done)|(go_simp;rfl));intro gb175 hg w8 hbox hb;have n0_ := Aside0.mk (below_step (by repeat (with_reducible first|exact HB.out|apply xa|apply xb|apply xc)) hb);have n1_ := Aside0.mk (hbox);have n2_ := Aside0.mk ((by rw [hg];exact (below_size (by repeat (with_reducible first|exact HB.out|apply xa|apply xb|apply xc))) : w.heap.size ≤ gb175));have n3_ := Aside0.mk ((by rw [hg];exact (below_size (by repeat (with_reducible first|exact HB.out|apply xa|apply xb|apply xc))) : w.heap.size ≤ gb175));clear HB;have HB := n0_;have BK175 := n1_;have GW175 := n2_;have GE175 := n3_;clear n0_ n1_ n2_ n3_;clear hb hbox hg;have hcz9_0 : w8.cell? ⟨gb175, 0, none⟩ = some (.int .i64 0) := (blk_cell BK175.out 0).trans rfl;have hcz9_1 : w8.cell? ⟨gb175, 1, none⟩ = some (.int .i64 0) := (blk_cell BK175.out 1).trans rfl;have hcz9_2 : w8.cell? ⟨gb175, 2, none⟩ = some (.int .i64 0) := (blk_cell BK175.out 2).trans rfl;have hcz9_3 : w8.cell? ⟨gb175, 3, none⟩ = some (.int .i64 0) := (blk_cell BK175.out 3).trans rfl;have hcz9_4 : w8.cell? ⟨gb175, 4, none⟩ = some (.int .i64 0) := (blk_cell BK175.out 4).trans rfl;have hfz9_0 := blk_frozen BK175.out 0;have hfz9_1 := blk_frozen BK175.out 1;have hfz9_2 := blk_frozen BK175.out 2;have hfz9_3 := blk_frozen BK175.out 3;have hfz9_4 := blk_frozen BK175.out 4)|(go_at_call 56;(with_reducible refine (gantt_Busy_1.calls ((rd_T36 l0 x9_1).f0) ((rd_T36 l0 x9_1).f1) ((rd_T36 l0 x9_1).f2) ((rd_T36 l0 x9_1).f3) ((rd_T36 l0 x9_1).f4) a1 true _ A6.out cap_ ?cap9).mono ?_);(case cap9 => exact ((show Below w.heap.size w _ from (by repeat (first|(with_reducible first|exact HB.out|apply xa|apply xb|apply xc|refine below_set ?_ GE175.out)|exact HB.out))).cell (World.block_lt_of_cell? _ _ HCAP.out)).trans HCAP.out);rintro e w10 ⟨rfl, hb⟩;have n0_ := Aside0.mk (blk_below (g := gb175) (o := .cells #[.int .i64 ((rd_T36 l0 x9_1).f0), .int .i64 ((rd_T36 l0 x9_1).f1), .int .i64 ((rd_T36 l0 x9_1).f2), .int .i64 ((rd_T36 l0 x9_1).f3), .int .i64 ((rd_T36 l0 x9_1).f4)] 36 (0, 0)) (by (with_reducible repeat (first|apply blk_drewN|apply blk_drew|apply blk_alloc));refine blk_put (cs := #[.int .i64 ((rd_T36 l0 x9_1).f0), .int .i64 ((rd_T36 l0 x9_1).f1), .int .i64 ((rd_T36 l0 x9_1).f2), .int .i64 ((rd_T36 l0 x9_1).f3), .int .i64 0]) ?_ 4 _ rfl;(with_reducible repeat (first|apply blk_drewN|apply blk_drew|apply blk_alloc));refine blk_put (cs := #[.int .i64 ((rd_T36 l0 x9_1).f0), .int .i64 ((rd_T36 l0 x9_1).f1), .int .i64 ((rd_T36 l0 x9_1).f2), .int .i64 0, .int .i64 0]) ?_ 3 _ rfl;(with_reducible repeat (first|apply blk_drewN|apply blk_drew|apply blk_alloc));refine blk_put (cs := #[.int .i64 ((rd_T36 l0 x9_1).f0), .int .i64 ((rd_T36 l0 x9_1).f1), .int .i64 0, .int .i64 0, .int .i64 0]) ?_ 2 _ rfl;(with_reducible repeat (first|apply blk_drewN|apply blk_drew|apply blk_alloc));refine blk_put (cs := #[.int .i64 ((rd_T36 l0 x9_1).f0), .int .i64 0, .int .i64 0, .int .i64 0, .int .i64 0]) ?_ 1 _ rfl;(with_reducible repeat (first|apply blk_drewN|apply blk_drew|apply blk_alloc));refine blk_put (cs := #[.int .i64 0, .int .i64 0, .int .i64 0, .int .i64 0, .int .i64 0]) ?_ 0 _ rfl;(with_reducible repeat (first|apply blk_drewN|apply blk_drew|apply blk_alloc));exact BK175.out) hb);have n1_ := Aside0.mk (below_step (by repeat (first|(with_reducible first|exact HB.out|apply xa|apply xb|apply xc|refine below_set ?_ GE175.out)|exact HB.out)) hb);clear BK175;clear HB;have BK175 := n0_;have HB := n1_;clear n0_ n1_;(try clear hb);(try clear hb2);(try clear hk);(try clear hi)))
       (try simp only [px_add0] at *)
       go_roundg k1
       case measure => have := HK1.out;omega
       case rel => exact ⟨(wrap64 (x4_1 + 1)), (wrap64 (x9_1 + 1)), (by first|rfl|(simp;done)|(simp [*];done)), (by first|rfl|(simp;done)|(simp [*];done)), H', ⟨by have := HK1.out;omega⟩, ⟨by repeat (first|(with_reducible first|exact HB.out|apply xa|apply xb|apply xc|refine below_set ?_ GE175.out)|exact HB.out)⟩⟩
      ·replace c7 := Bool.eq_false_iff.mpr c7
       subst c7
       have H1 : (gantt_count.l0 k1 a1 x4_1 l0 (l0.length : Int) (wrap64 (x9_1 + 1))) = some r := by rw [if_neg (show ¬ (false = true) by decide)] at H;exact H
       clear H
       have H := H1
       clear H1
       have H' := Aside0.mk H
       clear H
       have p174 : 0 ≤ (x9_1 : Int) := of_decide_eq_true (by assumption)
       have q174 : x9_1 < (l0.length : Int) := of_decide_eq_true (by assumption)
       obtain ⟨ad174, e174, hx174_0, hx174_1, hx174_2, hx174_3, hx174_4⟩ := at_T36 HR0.out x9_1 p174 q174
       cases e174
       replace hx174_0 := (HB.out.cell (World.block_lt_of_cell? w _ hx174_0)).trans hx174_0
       replace hx174_1 := (HB.out.cell (World.block_lt_of_cell? w _ hx174_1)).trans hx174_1
       replace hx174_2 := (HB.out.cell (World.block_lt_of_cell? w _ hx174_2)).trans hx174_2
       replace hx174_3 := (HB.out.cell (World.block_lt_of_cell? w _ hx174_3)).trans hx174_3
       replace hx174_4 := (HB.out.cell (World.block_lt_of_cell? w _ hx174_4)).trans hx174_4
       replace p174 := eq_true p174
       replace q174 := eq_true q174
       go_wp2_with (first|((with_reducible refine gate_dst (N := 6) rfl ?_);refine box_event ?hg (N := 6) ?hd (cs := #[.int .i64 0, .int .i64 0, .int .i64 0, .int .i64 0, .int .i64 0]) (t := 36) ?hr ?_;(case hd => rfl);(case hg => rfl);(case hr => first|(go_simp;done)|(go_simp;rfl));intro gb175 hg w11 hbox hb;have n0_ := Aside0.mk (below_step (by repeat (with_reducible first|exact HB.out|apply xa|apply xb|apply xc)) hb);have n1_ := Aside0.mk (hbox);have n2_ := Aside0.mk ((by rw [hg];exact (below_size (by repeat (with_reducible first|exact HB.out|apply xa|apply xb|apply xc))) : w.heap.size ≤ gb175));have n3_ := Aside0.mk ((by rw [hg];exact (below_size (by repeat (with_reducible first|exact HB.out|apply xa|apply xb|apply xc))) : w.heap.size ≤ gb175));clear HB;have HB := n0_;have BK175 := n1_;have GW175 := n2_;have GE175 := n3_;clear n0_ n1_ n2_ n3_;clear hb hbox hg;have hcz12_0 : w11.cell? ⟨gb175, 0, none⟩ = some (.int .i64 0) := (blk_cell BK175.out 0).trans rfl;have hcz12_1 : w11.cell? ⟨gb175, 1, none⟩ = some (.int .i64 0) := (blk_cell BK175.out 1).trans rfl;have hcz12_2 : w11.cell? ⟨gb175, 2, none⟩ = some (.int .i64 0) := (blk_cell BK175.out 2).trans rfl;have hcz12_3 : w11.cell? ⟨gb175, 3, none⟩ = some (.int .i64 0) := (blk_cell BK175.out 3).trans rfl;have hcz12_4 : w11.cell? ⟨gb175, 4, none⟩ = some (.int .i64 0) := (blk_cell BK175.out 4).trans rfl;have hfz12_0 := blk_frozen BK175.out 0;have hfz12_1 := blk_frozen BK175.out 1;have hfz12_2 := blk_frozen BK175.out 2;have hfz12_3 := blk_frozen BK175.out 3;have hfz12_4 := blk_frozen BK175.out 4)|(go_at_call 56;(with_reducible refine (gantt_Busy_1.calls ((rd_T36 l0 x9_1).f0) ((rd_T36 l0 x9_1).f1) ((rd_T36 l0 x9_1).f2) ((rd_T36 l0 x9_1).f3) ((rd_T36 l0 x9_1).f4) a1 false _ A6.out cap_ ?cap9).mono ?_);(case cap9 => exact ((show Below w.heap.size w _ from (by repeat (first|(with_reducible first|exact HB.out|apply xa|apply xb|apply xc|refine below_set ?_ GE175.out)|exact HB.out))).cell (World.block_lt_of_cell? _ _ HCAP.out)).trans HCAP.out);rintro e w13 ⟨rfl, hb⟩;have n0_ := Aside0.mk (blk_below (g := gb175) (o := .cells #[.int .i64 ((rd_T36 l0 x9_1).f0), .int .i64 ((rd_T36 l0 x9_1).f1), .int .i64 ((rd_T36 l0 x9_1).f2), .int .i64 ((rd_T36 l0 x9_1).f3), .int .i64 ((rd_T36 l0 x9_1).f4)] 36 (0, 0)) (by (with_reducible repeat (first|apply blk_drewN|apply blk_drew|apply blk_alloc));refine blk_put (cs := #[.int .i64 ((rd_T36 l0 x9_1).f0), .int .i64 ((rd_T36 l0 x9_1).f1), .int .i64 ((rd_T36 l0 x9_1).f2), .int .i64 ((rd_T36 l0 x9_1).f3), .int .i64 0]) ?_ 4 _ rfl;(with_reducible repeat (first|apply blk_drewN|apply blk_drew|apply blk_alloc));refine blk_put (cs := #[.int .i64 ((rd_T36 l0 x9_1).f0), .int .i64 ((rd_T36 l0 x9_1).f1), .int .i64 ((rd_T36 l0 x9_1).f2), .int .i64 0, .int .i64 0]) ?_ 3 _ rfl;(with_reducible repeat (first|apply blk_drewN|apply blk_drew|apply blk_alloc));refine blk_put (cs := #[.int .i64 ((rd_T36 l0 x9_1).f0), .int .i64 ((rd_T36 l0 x9_1).f1), .int .i64 0, .int .i64 0, .int .i64 0]) ?_ 2 _ rfl;(with_reducible repeat (first|apply blk_drewN|apply blk_drew|apply blk_alloc));refine blk_put (cs := #[.int .i64 ((rd_T36 l0 x9_1).f0), .int .i64 0, .int .i64 0, .int .i64 0, .int .i64 0]) ?_ 1 _ rfl;(with_reducible repeat (first|apply blk_drewN|apply blk_drew|apply blk_alloc));refine blk_put (cs := #[.int .i64 0, .int .i64 0, .int .i64 0, .int .i64 0, .int .i64 0]) ?_ 0 _ rfl;(with_reducible repeat (first|apply blk_drewN|apply blk_drew|apply blk_alloc));exact BK175.out) hb);have n1_ := Aside0.mk (below_step (by repeat (first|(with_reducible first|exact HB.out|apply xa|apply xb|apply xc|refine below_set ?_ GE175.out)|exact HB.out)) hb);clear BK175;clear HB;have BK175 := n0_;have HB := n1_;clear n0_ n1_;(try clear hb);(try clear hb2);(try clear hk);(try clear hi)))
       (try simp only [px_add0] at *)
       go_roundg k1
       case measure => have := HK1.out;omega
       case rel => exact ⟨(x4_1), (wrap64 (x9_1 + 1)), (by first|rfl|(simp;done)|(simp [*];done)), (by first|rfl|(simp;done)|(simp [*];done)), H', ⟨by have := HK1.out;omega⟩, ⟨by repeat (first|(with_reducible first|exact HB.out|apply xa|apply xb|apply xc|refine below_set ?_ GE175.out)|exact HB.out)⟩⟩
     ·rw [if_neg c5] at H
      exact absurd H (by simp)
    ·rw [if_neg c4] at H
     exact absurd H (by simp)
   ·rw [if_neg c3] at H
    have c3b0 : decide (x9_1 < (l0.length : Int)) = false := decide_eq_false c3
    clear c3
    obtain rfl := Option.some.inj H
    go_wp2
    go_ret
    exact ⟨by first|rfl|(simp [errW_none, errW_some] <;> rfl)|(simp [*, errW_none, errW_some] <;> rfl), by repeat (with_reducible first|exact HB.out|apply xa|apply xb|apply xc)⟩

/-! ### gantt_Busy: function 20 -/
def gantt_Busy.f (k : Nat) (l0 : List (S36)) (a1 : Int) : Option (Int) := (gantt_count.f k l0 a1).bind fun t177 => (some t177)
theorem gantt_Busy.mono : ∀ a0 a1 k, LeO (gantt_Busy.f k a0 a1) (gantt_Busy.f (k + 1) a0 a1) := by
 intro a0 a1 k
 unfold gantt_Busy.f
 repeat' first
   | (with_reducible exact gantt_count.mono _ _ _)
   | (with_reducible exact LeO.refl _)
   | (with_reducible exact LeO.none _)
   | (with_reducible refine LeO.ite ?_ ?_)
   | (with_reducible refine LeO.bind ?_ (fun _ => ?_))
   | exact gantt_count.mono _ _ _
   | exact LeO.none _
   | refine LeO.ite ?_ ?_
   | refine LeO.bind ?_ (fun _ => ?_)
set_option maxHeartbeats 8000000 in
set_option maxRecDepth 100000 in
theorem gantt_Busy.calls (k : Nat) (A0 : Option Addr) (c0 : Nat) (l0 : List (S36)) (a1 : Int) (r : Int) (w : World) (hr0 : Kd.C k36 w A0 l0.length l0) (hc0 : l0.length ≤ c0) (h : gantt_Busy.f k l0 a1 = some r) :
  Calls Try.prog 20 #[.slice A0 l0.length c0, .int .i64 a1] w fun e w' => e = .returned (.int .i64 r) ∧ Below w.heap.size w w' := by
 have HR0 := Aside0.mk hr0
 have HC0 := Aside0.mk hc0
 clear hr0 hc0
 have HB := Aside0.mk (Below.refl w.heap.size w)
 have H : ((gantt_count.f k l0 a1).bind fun t177 => (some t177)) = some r := h
 clear h
 replace H := Option.bind_eq_some_iff.mp H
 obtain ⟨t177, A30, H⟩ := H
 replace H : (some t177) = some r := H
 have A3 := Aside0.mk A30
 clear A30
 obtain rfl := Option.some.inj H
 have hmf : ∀ (fn : Fn) (first cap : Array Value) (w : World), (Instr.makeFunc fn first cap).run Try.prog w = .ok (.func fn first cap) w := fun _ _ _ _ => rfl
 go_enter Try.func20, Try.ntmps20
 go_wp2_with (first|(go_at_call 55;(with_reducible refine (gantt_count.calls k _ _ l0 a1 t177 _ ?side1 ?side2 A3.out _ ?cap9).mono ?_);(case cap9 => first|(simp;done)|rfl);(case side1 => repeat (first|exact HR0.out|(with_reducible refine Kd.C_alloc ?_ _)|(with_reducible refine Kd.C_drewN ?_ _)|(with_reducible refine Kd.C_drew ?_)));(case side2 => exact HC0.out);rintro e w4 ⟨rfl, hb⟩;have n0_ := Aside0.mk (below_step (by repeat (with_reducible first|exact HB.out|apply xa|apply xb|apply xc)) hb);clear HB;have HB := n0_;clear n0_;(try clear hb);(try clear hb2);(try clear hk);(try clear hi)))
 go_ret
 exact ⟨by first|rfl|(simp [errW_none, errW_some] <;> rfl)|(simp [*, errW_none, errW_some] <;> rfl), by repeat (with_reducible first|exact HB.out|apply xa|apply xb|apply xc)⟩

-- GIVEN 57 gantt_Ran_1

/-! ### gantt_countRan: function 55 -/
def gantt_countRan.l0 : Nat → Int → Int → List (S36) → Int → Int → Option (Int)
 | 0, _, _, _, _, _ => none
 | k + 1, x1, x4, x7, x8, x9 => if x9 < x8 then (if 0 ≤ x9 then (if x9 < (x7.length : Int) then ((gantt_Ran_1.f ((rd_T36 x7 x9).f0) ((rd_T36 x7 x9).f1) ((rd_T36 x7 x9).f2) ((rd_T36 x7 x9).f3) ((rd_T36 x7 x9).f4) x1).bind fun t183 => (if t183 = true then (gantt_countRan.l0 k x1 (wrap64 (x4 + 1)) x7 x8 (wrap64 (x9 + 1))) else (gantt_countRan.l0 k x1 x4 x7 x8 (wrap64 (x9 + 1))))) else (none)) else (none)) else (some x4)
def gantt_countRan.f (k : Nat) (l0 : List (S36)) (a1 : Int) : Option (Int) := gantt_countRan.l0 k a1 0 l0 (l0.length : Int) 0
theorem gantt_countRan.mono_l : ∀ k, (∀ y0 y1 y2 y3 y4, LeO (gantt_countRan.l0 k y0 y1 y2 y3 y4) (gantt_countRan.l0 (k + 1) y0 y1 y2 y3 y4))
 | 0 => fun _ _ _ _ _ r h => by simp [gantt_countRan.l0] at h
 | k + 1 => by
  have ih0 := gantt_countRan.mono_l k
  ·intro y0 y1 y2 y3 y4
   unfold gantt_countRan.l0
   repeat' first
   | (with_reducible exact ih0 _ _ _ _ _)
   | (with_reducible exact LeO.refl _)
   | (with_reducible exact LeO.none _)
   | (with_reducible refine LeO.ite ?_ ?_)
   | (with_reducible refine LeO.bind ?_ (fun _ => ?_))
   | exact ih0 _ _ _ _ _
   | exact LeO.none _
   | refine LeO.ite ?_ ?_
   | refine LeO.bind ?_ (fun _ => ?_)
theorem gantt_countRan.mono : ∀ a0 a1 k, LeO (gantt_countRan.f k a0 a1) (gantt_countRan.f (k + 1) a0 a1) := by
 intro a0 a1 k
 have ih0 := gantt_countRan.mono_l k
 unfold gantt_countRan.f
 repeat' first
   | (with_reducible exact ih0 _ _ _ _ _)
   | (with_reducible exact LeO.refl _)
   | (with_reducible exact LeO.none _)
   | (with_reducible refine LeO.ite ?_ ?_)
   | (with_reducible refine LeO.bind ?_ (fun _ => ?_))
   | exact ih0 _ _ _ _ _
   | exact LeO.none _
   | refine LeO.ite ?_ ?_
   | refine LeO.bind ?_ (fun _ => ?_)
set_option maxHeartbeats 8000000 in
set_option maxRecDepth 100000 in
theorem gantt_countRan.calls (k : Nat) (A0 : Option Addr) (c0 : Nat) (l0 : List (S36)) (a1 : Int) (r : Int) (w : World) (hr0 : Kd.C k36 w A0 l0.length l0) (hc0 : l0.length ≤ c0) (h : gantt_countRan.f k l0 a1 = some r) (cap_ : Addr) (hcap_ : w.cell? cap_ = some (.int .i64 a1)) :
  Calls Try.prog 55 #[.slice A0 l0.length c0, .func (.func 57) #[] #[.pointer (some cap_)]] w fun e w' => e = .returned (.int .i64 r) ∧ Below w.heap.size w w' := by
 have hu36 := Try.underlying36
 have HR0 := Aside0.mk hr0
 have HC0 := Aside0.mk hc0
 clear hr0 hc0
 have HB := Aside0.mk (Below.refl w.heap.size w)
 have HCAP := Aside0.mk hcap_
 clear hcap_
 have H : (gantt_countRan.l0 k a1 0 l0 (l0.length : Int) 0) = some r := h
 clear h
 have H' := Aside0.mk H
 clear H
 go_enter Try.func55, Try.ntmps55
 go_wp2
 go_loopg [4, 9] k (fun kq v4 v9 w' => ∃ (x4_1 : Int) (x9_1 : Int), v4 = .int .i64 x4_1 ∧ v9 = .int .i64 x9_1 ∧ Aside0 (gantt_countRan.l0 kq a1 x4_1 l0 (l0.length : Int) x9_1 = some r) ∧ Aside0 (kq ≤ k) ∧ Aside0 (Below w.heap.size w w'))
 case atStart => exact ⟨(0), (0), (by first|rfl|(simp;done)|(simp [*];done)), (by first|rfl|(simp;done)|(simp [*];done)), H', ⟨Nat.le_refl _⟩, ⟨by repeat (with_reducible first|exact HB.out|apply xa|apply xb|apply xc)⟩⟩
 case round =>
  clear H'
  try clear c1
  try clear p2
  obtain ⟨x4_1, x9_1, rfl, rfl, HA, HK1, HB⟩ := hrel
  cases gk with
  | zero => exact absurd HA.out (by simp [gantt_countRan.l0])
  | succ k1 =>
   have H := HA.out
   clear HA
   simp only [gantt_countRan.l0] at H
   by_cases c3 : x9_1 < (l0.length : Int)
   ·rw [if_pos c3] at H
    have c3b0 : decide (x9_1 < (l0.length : Int)) = true := decide_eq_true c3
    clear c3
    by_cases c4 : 0 ≤ x9_1
    ·rw [if_pos c4] at H
     have c4b0 : decide (0 ≤ x9_1) = true := decide_eq_true c4
     clear c4
     by_cases c5 : x9_1 < (l0.length : Int)
     ·rw [if_pos c5] at H
      have c5b0 : decide (x9_1 < (l0.length : Int)) = true := decide_eq_true c5
      clear c5
      replace H := Option.bind_eq_some_iff.mp H
      obtain ⟨t183, A60, H⟩ := H
      replace H : (if t183 = true then (gantt_countRan.l0 k1 a1 (wrap64 (x4_1 + 1)) l0 (l0.length : Int) (wrap64 (x9_1 + 1))) else (gantt_countRan.l0 k1 a1 x4_1 l0 (l0.length : Int) (wrap64 (x9_1 + 1)))) = some r := H
      have A6 := Aside0.mk A60
      clear A60
      by_cases c7 : t183 = true
      ·subst c7
       have H1 : (gantt_countRan.l0 k1 a1 (wrap64 (x4_1 + 1)) l0 (l0.length : Int) (wrap64 (x9_1 + 1))) = some r := by rw [if_pos rfl] at H;exact H
       clear H
       have H := H1
       clear H1
       have H' := Aside0.mk H
       clear H
       have p181 : 0 ≤ (x9_1 : Int) := of_decide_eq_true (by assumption)
       have q181 : x9_1 < (l0.length : Int) := of_decide_eq_true (by assumption)
       obtain ⟨ad181, e181, hx181_0, hx181_1, hx181_2, hx181_3, hx181_4⟩ := at_T36 HR0.out x9_1 p181 q181
       cases e181
       replace hx181_0 := (HB.out.cell (World.block_lt_of_cell? w _ hx181_0)).trans hx181_0
       replace hx181_1 := (HB.out.cell (World.block_lt_of_cell? w _ hx181_1)).trans hx181_1
       replace hx181_2 := (HB.out.cell (World.block_lt_of_cell? w _ hx181_2)).trans hx181_2
       replace hx181_3 := (HB.out.cell (World.block_lt_of_cell? w _ hx181_3)).trans hx181_3
       replace hx181_4 := (HB.out.cell (World.block_lt_of_cell? w _ hx181_4)).trans hx181_4
       replace p181 := eq_true p181
       replace q181 := eq_true q181
       go_wp2_with (first|((with_reducible refine gate_dst (N := 6) rfl ?_);refine box_event ?hg (N := 6) ?hd (cs := #[.int .i64 0, .int .i64 0, .int .i64 0, .int .i64 0, .int .i64 0]) (t := 36) ?hr ?_;(case hd => rfl);(case hg => rfl);(case hr => first|(go_simp;done)|(go_simp;rfl));intro gb182 hg w8 hbox hb;have n0_ := Aside0.mk (below_step (by repeat (with_reducible first|exact HB.out|apply xa|apply xb|apply xc)) hb);have n1_ := Aside0.mk (hbox);have n2_ := Aside0.mk ((by rw [hg];exact (below_size (by repeat (with_reducible first|exact HB.out|apply xa|apply xb|apply xc))) : w.heap.size ≤ gb182));have n3_ := Aside0.mk ((by rw [hg];exact (below_size (by repeat (with_reducible first|exact HB.out|apply xa|apply xb|apply xc))) : w.heap.size ≤ gb182));clear HB;have HB := n0_;have BK182 := n1_;have GW182 := n2_;have GE182 := n3_;clear n0_ n1_ n2_ n3_;clear hb hbox hg;have hcz9_0 : w8.cell? ⟨gb182, 0, none⟩ = some (.int .i64 0) := (blk_cell BK182.out 0).trans rfl;have hcz9_1 : w8.cell? ⟨gb182, 1, none⟩ = some (.int .i64 0) := (blk_cell BK182.out 1).trans rfl;have hcz9_2 : w8.cell? ⟨gb182, 2, none⟩ = some (.int .i64 0) := (blk_cell BK182.out 2).trans rfl;have hcz9_3 : w8.cell? ⟨gb182, 3, none⟩ = some (.int .i64 0) := (blk_cell BK182.out 3).trans rfl;have hcz9_4 : w8.cell? ⟨gb182, 4, none⟩ = some (.int .i64 0) := (blk_cell BK182.out 4).trans rfl;have hfz9_0 := blk_frozen BK182.out 0;have hfz9_1 := blk_frozen BK182.out 1;have hfz9_2 := blk_frozen BK182.out 2;have hfz9_3 := blk_frozen BK182.out 3;have hfz9_4 := blk_frozen BK182.out 4)|(go_at_call 57;(with_reducible refine (gantt_Ran_1.calls ((rd_T36 l0 x9_1).f0) ((rd_T36 l0 x9_1).f1) ((rd_T36 l0 x9_1).f2) ((rd_T36 l0 x9_1).f3) ((rd_T36 l0 x9_1).f4) a1 true _ A6.out cap_ ?cap9).mono ?_);(case cap9 => exact ((show Below w.heap.size w _ from (by repeat (first|(with_reducible first|exact HB.out|apply xa|apply xb|apply xc|refine below_set ?_ GE182.out)|exact HB.out))).cell (World.block_lt_of_cell? _ _ HCAP.out)).trans HCAP.out);rintro e w10 ⟨rfl, hb⟩;have n0_ := Aside0.mk (blk_below (g := gb182) (o := .cells #[.int .i64 ((rd_T36 l0 x9_1).f0), .int .i64 ((rd_T36 l0 x9_1).f1), .int .i64 ((rd_T36 l0 x9_1).f2), .int .i64 ((rd_T36 l0 x9_1).f3), .int .i64 ((rd_T36 l0 x9_1).f4)] 36 (0, 0)) (by (with_reducible repeat (first|apply blk_drewN|apply blk_drew|apply blk_alloc));refine blk_put (cs := #[.int .i64 ((rd_T36 l0 x9_1).f0), .int .i64 ((rd_T36 l0 x9_1).f1), .int .i64 ((rd_T36 l0 x9_1).f2), .int .i64 ((rd_T36 l0 x9_1).f3), .int .i64 0]) ?_ 4 _ rfl;(with_reducible repeat (first|apply blk_drewN|apply blk_drew|apply blk_alloc));refine blk_put (cs := #[.int .i64 ((rd_T36 l0 x9_1).f0), .int .i64 ((rd_T36 l0 x9_1).f1), .int .i64 ((rd_T36 l0 x9_1).f2), .int .i64 0, .int .i64 0]) ?_ 3 _ rfl;(with_reducible repeat (first|apply blk_drewN|apply blk_drew|apply blk_alloc));refine blk_put (cs := #[.int .i64 ((rd_T36 l0 x9_1).f0), .int .i64 ((rd_T36 l0 x9_1).f1), .int .i64 0, .int .i64 0, .int .i64 0]) ?_ 2 _ rfl;(with_reducible repeat (first|apply blk_drewN|apply blk_drew|apply blk_alloc));refine blk_put (cs := #[.int .i64 ((rd_T36 l0 x9_1).f0), .int .i64 0, .int .i64 0, .int .i64 0, .int .i64 0]) ?_ 1 _ rfl;(with_reducible repeat (first|apply blk_drewN|apply blk_drew|apply blk_alloc));refine blk_put (cs := #[.int .i64 0, .int .i64 0, .int .i64 0, .int .i64 0, .int .i64 0]) ?_ 0 _ rfl;(with_reducible repeat (first|apply blk_drewN|apply blk_drew|apply blk_alloc));exact BK182.out) hb);have n1_ := Aside0.mk (below_step (by repeat (first|(with_reducible first|exact HB.out|apply xa|apply xb|apply xc|refine below_set ?_ GE182.out)|exact HB.out)) hb);clear BK182;clear HB;have BK182 := n0_;have HB := n1_;clear n0_ n1_;(try clear hb);(try clear hb2);(try clear hk);(try clear hi)))
       (try simp only [px_add0] at *)
       go_roundg k1
       case measure => have := HK1.out;omega
       case rel => exact ⟨(wrap64 (x4_1 + 1)), (wrap64 (x9_1 + 1)), (by first|rfl|(simp;done)|(simp [*];done)), (by first|rfl|(simp;done)|(simp [*];done)), H', ⟨by have := HK1.out;omega⟩, ⟨by repeat (first|(with_reducible first|exact HB.out|apply xa|apply xb|apply xc|refine below_set ?_ GE182.out)|exact HB.out)⟩⟩
      ·replace c7 := Bool.eq_false_iff.mpr c7
       subst c7
       have H1 : (gantt_countRan.l0 k1 a1 x4_1 l0 (l0.length : Int) (wrap64 (x9_1 + 1))) = some r := by rw [if_neg (show ¬ (false = true) by decide)] at H;exact H
       clear H
       have H := H1
       clear H1
       have H' := Aside0.mk H
       clear H
       have p181 : 0 ≤ (x9_1 : Int) := of_decide_eq_true (by assumption)
       have q181 : x9_1 < (l0.length : Int) := of_decide_eq_true (by assumption)
       obtain ⟨ad181, e181, hx181_0, hx181_1, hx181_2, hx181_3, hx181_4⟩ := at_T36 HR0.out x9_1 p181 q181
       cases e181
       replace hx181_0 := (HB.out.cell (World.block_lt_of_cell? w _ hx181_0)).trans hx181_0
       replace hx181_1 := (HB.out.cell (World.block_lt_of_cell? w _ hx181_1)).trans hx181_1
       replace hx181_2 := (HB.out.cell (World.block_lt_of_cell? w _ hx181_2)).trans hx181_2
       replace hx181_3 := (HB.out.cell (World.block_lt_of_cell? w _ hx181_3)).trans hx181_3
       replace hx181_4 := (HB.out.cell (World.block_lt_of_cell? w _ hx181_4)).trans hx181_4
       replace p181 := eq_true p181
       replace q181 := eq_true q181
       go_wp2_with (first|((with_reducible refine gate_dst (N := 6) rfl ?_);refine box_event ?hg (N := 6) ?hd (cs := #[.int .i64 0, .int .i64 0, .int .i64 0, .int .i64 0, .int .i64 0]) (t := 36) ?hr ?_;(case hd => rfl);(case hg => rfl);(case hr => first|(go_simp;done)|(go_simp;rfl));intro gb182 hg w11 hbox hb;have n0_ := Aside0.mk (below_step (by repeat (with_reducible first|exact HB.out|apply xa|apply xb|apply xc)) hb);have n1_ := Aside0.mk (hbox);have n2_ := Aside0.mk ((by rw [hg];exact (below_size (by repeat (with_reducible first|exact HB.out|apply xa|apply xb|apply xc))) : w.heap.size ≤ gb182));have n3_ := Aside0.mk ((by rw [hg];exact (below_size (by repeat (with_reducible first|exact HB.out|apply xa|apply xb|apply xc))) : w.heap.size ≤ gb182));clear HB;have HB := n0_;have BK182 := n1_;have GW182 := n2_;have GE182 := n3_;clear n0_ n1_ n2_ n3_;clear hb hbox hg;have hcz12_0 : w11.cell? ⟨gb182, 0, none⟩ = some (.int .i64 0) := (blk_cell BK182.out 0).trans rfl;have hcz12_1 : w11.cell? ⟨gb182, 1, none⟩ = some (.int .i64 0) := (blk_cell BK182.out 1).trans rfl;have hcz12_2 : w11.cell? ⟨gb182, 2, none⟩ = some (.int .i64 0) := (blk_cell BK182.out 2).trans rfl;have hcz12_3 : w11.cell? ⟨gb182, 3, none⟩ = some (.int .i64 0) := (blk_cell BK182.out 3).trans rfl;have hcz12_4 : w11.cell? ⟨gb182, 4, none⟩ = some (.int .i64 0) := (blk_cell BK182.out 4).trans rfl;have hfz12_0 := blk_frozen BK182.out 0;have hfz12_1 := blk_frozen BK182.out 1;have hfz12_2 := blk_frozen BK182.out 2;have hfz12_3 := blk_frozen BK182.out 3;have hfz12_4 := blk_frozen BK182.out 4)|(go_at_call 57;(with_reducible refine (gantt_Ran_1.calls ((rd_T36 l0 x9_1).f0) ((rd_T36 l0 x9_1).f1) ((rd_T36 l0 x9_1).f2) ((rd_T36 l0 x9_1).f3) ((rd_T36 l0 x9_1).f4) a1 false _ A6.out cap_ ?cap9).mono ?_);(case cap9 => exact ((show Below w.heap.size w _ from (by repeat (first|(with_reducible first|exact HB.out|apply xa|apply xb|apply xc|refine below_set ?_ GE182.out)|exact HB.out))).cell (World.block_lt_of_cell? _ _ HCAP.out)).trans HCAP.out);rintro e w13 ⟨rfl, hb⟩;have n0_ := Aside0.mk (blk_below (g := gb182) (o := .cells #[.int .i64 ((rd_T36 l0 x9_1).f0), .int .i64 ((rd_T36 l0 x9_1).f1), .int .i64 ((rd_T36 l0 x9_1).f2), .int .i64 ((rd_T36 l0 x9_1).f3), .int .i64 ((rd_T36 l0 x9_1).f4)] 36 (0, 0)) (by (with_reducible repeat (first|apply blk_drewN|apply blk_drew|apply blk_alloc));refine blk_put (cs := #[.int .i64 ((rd_T36 l0 x9_1).f0), .int .i64 ((rd_T36 l0 x9_1).f1), .int .i64 ((rd_T36 l0 x9_1).f2), .int .i64 ((rd_T36 l0 x9_1).f3), .int .i64 0]) ?_ 4 _ rfl;(with_reducible repeat (first|apply blk_drewN|apply blk_drew|apply blk_alloc));refine blk_put (cs := #[.int .i64 ((rd_T36 l0 x9_1).f0), .int .i64 ((rd_T36 l0 x9_1).f1), .int .i64 ((rd_T36 l0 x9_1).f2), .int .i64 0, .int .i64 0]) ?_ 3 _ rfl;(with_reducible repeat (first|apply blk_drewN|apply blk_drew|apply blk_alloc));refine blk_put (cs := #[.int .i64 ((rd_T36 l0 x9_1).f0), .int .i64 ((rd_T36 l0 x9_1).f1), .int .i64 0, .int .i64 0, .int .i64 0]) ?_ 2 _ rfl;(with_reducible repeat (first|apply blk_drewN|apply blk_drew|apply blk_alloc));refine blk_put (cs := #[.int .i64 ((rd_T36 l0 x9_1).f0), .int .i64 0, .int .i64 0, .int .i64 0, .int .i64 0]) ?_ 1 _ rfl;(with_reducible repeat (first|apply blk_drewN|apply blk_drew|apply blk_alloc));refine blk_put (cs := #[.int .i64 0, .int .i64 0, .int .i64 0, .int .i64 0, .int .i64 0]) ?_ 0 _ rfl;(with_reducible repeat (first|apply blk_drewN|apply blk_drew|apply blk_alloc));exact BK182.out) hb);have n1_ := Aside0.mk (below_step (by repeat (first|(with_reducible first|exact HB.out|apply xa|apply xb|apply xc|refine below_set ?_ GE182.out)|exact HB.out)) hb);clear BK182;clear HB;have BK182 := n0_;have HB := n1_;clear n0_ n1_;(try clear hb);(try clear hb2);(try clear hk);(try clear hi)))
       (try simp only [px_add0] at *)
       go_roundg k1
       case measure => have := HK1.out;omega
       case rel => exact ⟨(x4_1), (wrap64 (x9_1 + 1)), (by first|rfl|(simp;done)|(simp [*];done)), (by first|rfl|(simp;done)|(simp [*];done)), H', ⟨by have := HK1.out;omega⟩, ⟨by repeat (first|(with_reducible first|exact HB.out|apply xa|apply xb|apply xc|refine below_set ?_ GE182.out)|exact HB.out)⟩⟩
     ·rw [if_neg c5] at H
      exact absurd H (by simp)
    ·rw [if_neg c4] at H
     exact absurd H (by simp)
   ·rw [if_neg c3] at H
    have c3b0 : decide (x9_1 < (l0.length : Int)) = false := decide_eq_false c3
    clear c3
    obtain rfl := Option.some.inj H
    go_wp2
    go_ret
    exact ⟨by first|rfl|(simp [errW_none, errW_some] <;> rfl)|(simp [*, errW_none, errW_some] <;> rfl), by repeat (with_reducible first|exact HB.out|apply xa|apply xb|apply xc)⟩

/-! ### gantt_Ran: function 21 -/
def gantt_Ran.f (k : Nat) (l0 : List (S36)) (a1 : Int) : Option (Int) := (gantt_countRan.f k l0 a1).bind fun t184 => (some t184)
theorem gantt_Ran.mono : ∀ a0 a1 k, LeO (gantt_Ran.f k a0 a1) (gantt_Ran.f (k + 1) a0 a1) := by
 intro a0 a1 k
 unfold gantt_Ran.f
 repeat' first
   | (with_reducible exact gantt_countRan.mono _ _ _)
   | (with_reducible exact LeO.refl _)
   | (with_reducible exact LeO.none _)
   | (with_reducible refine LeO.ite ?_ ?_)
   | (with_reducible refine LeO.bind ?_ (fun _ => ?_))
   | exact gantt_countRan.mono _ _ _
   | exact LeO.none _
   | refine LeO.ite ?_ ?_
   | refine LeO.bind ?_ (fun _ => ?_)
set_option maxHeartbeats 8000000 in
set_option maxRecDepth 100000 in
theorem gantt_Ran.calls (k : Nat) (A0 : Option Addr) (c0 : Nat) (l0 : List (S36)) (a1 : Int) (r : Int) (w : World) (hr0 : Kd.C k36 w A0 l0.length l0) (hc0 : l0.length ≤ c0) (h : gantt_Ran.f k l0 a1 = some r) :
  Calls Try.prog 21 #[.slice A0 l0.length c0, .int .i64 a1] w fun e w' => e = .returned (.int .i64 r) ∧ Below w.heap.size w w' := by
 have HR0 := Aside0.mk hr0
 have HC0 := Aside0.mk hc0
 clear hr0 hc0
 have HB := Aside0.mk (Below.refl w.heap.size w)
 have H : ((gantt_countRan.f k l0 a1).bind fun t184 => (some t184)) = some r := h
 clear h
 replace H := Option.bind_eq_some_iff.mp H
 obtain ⟨t184, A30, H⟩ := H
 replace H : (some t184) = some r := H
 have A3 := Aside0.mk A30
 clear A30
 obtain rfl := Option.some.inj H
 have hmf : ∀ (fn : Fn) (first cap : Array Value) (w : World), (Instr.makeFunc fn first cap).run Try.prog w = .ok (.func fn first cap) w := fun _ _ _ _ => rfl
 go_enter Try.func21, Try.ntmps21
 go_wp2_with (first|(go_at_call 55;(with_reducible refine (gantt_countRan.calls k _ _ l0 a1 t184 _ ?side1 ?side2 A3.out _ ?cap9).mono ?_);(case cap9 => first|(simp;done)|rfl);(case side1 => repeat (first|exact HR0.out|(with_reducible refine Kd.C_alloc ?_ _)|(with_reducible refine Kd.C_drewN ?_ _)|(with_reducible refine Kd.C_drew ?_)));(case side2 => exact HC0.out);rintro e w4 ⟨rfl, hb⟩;have n0_ := Aside0.mk (below_step (by repeat (with_reducible first|exact HB.out|apply xa|apply xb|apply xc)) hb);clear HB;have HB := n0_;clear n0_;(try clear hb);(try clear hb2);(try clear hk);(try clear hi)))
 go_ret
 exact ⟨by first|rfl|(simp [errW_none, errW_some] <;> rfl)|(simp [*, errW_none, errW_some] <;> rfl), by repeat (with_reducible first|exact HB.out|apply xa|apply xb|apply xc)⟩

end Go.Proofs.Ytkegdcnnankokaa.PGan
