/- Functions of the program as Lean functions, and proofs that the code comes to their answers: printed by this session's program. -/
import Derived.Test.YtkegdcnnankokaaPGanx0
namespace Go.Proofs.Ytkegdcnnankokaa.PGan
open Go.RowKit Go.Proofs.YtkegdcnnankokaaW.PrintWords Go.Proofs.YtkegdcnnankokaaW.PrintLast Go.Proofs.YtkegdcnnankokaaW.PrintMore
attribute [local go_sem] max2_int min2_int max_two min_two max_three min_three max_four min_four   -- for this text's walks alone
set_option linter.unusedVariables false
set_option linter.unusedSimpArgs false

/-! ### pinfoldref04_Same: function 22 -/
def pinfoldref04_Same.l0 : Nat → List Int → List Int → Int → Int → Option (Bool)
 | 0, _, _, _, _ => none
 | k + 1, x0, x1, x12, x13 => if x13 < x12 then (if 0 ≤ x13 then (if x13 < (x0.length : Int) then (if x13 < (x1.length : Int) then (if (rd x0 x13) = (rd x1 x13) then (pinfoldref04_Same.l0 k x0 x1 x12 (wrap64 (x13 + 1))) else (some false)) else (none)) else (none)) else (none)) else (some true)
def pinfoldref04_Same.f (k : Nat) (l0 : List Int) (l1 : List Int) : Option (Bool) := if (l0.length : Int) = (l1.length : Int) then (pinfoldref04_Same.l0 k l0 l1 (l0.length : Int) 0) else (some false)
theorem pinfoldref04_Same.mono_l : ∀ k, (∀ y0 y1 y2 y3, LeO (pinfoldref04_Same.l0 k y0 y1 y2 y3) (pinfoldref04_Same.l0 (k + 1) y0 y1 y2 y3))
 | 0 => fun _ _ _ _ r h => by simp [pinfoldref04_Same.l0] at h
 | k + 1 => by
  have ih0 := pinfoldref04_Same.mono_l k
  ·intro y0 y1 y2 y3
   unfold pinfoldref04_Same.l0
   repeat' first
   | (with_reducible exact ih0 _ _ _ _)
   | (with_reducible exact LeO.refl _)
   | (with_reducible exact LeO.none _)
   | (with_reducible refine LeO.ite ?_ ?_)
   | (with_reducible refine LeO.bind ?_ (fun _ => ?_))
   | exact ih0 _ _ _ _
   | exact LeO.none _
   | refine LeO.ite ?_ ?_
   | refine LeO.bind ?_ (fun _ => ?_)
theorem pinfoldref04_Same.mono : ∀ a0 a1 k, LeO (pinfoldref04_Same.f k a0 a1) (pinfoldref04_Same.f (k + 1) a0 a1) := by
 intro a0 a1 k
 have ih0 := pinfoldref04_Same.mono_l k
 unfold pinfoldref04_Same.f
 repeat' first
   | (with_reducible exact ih0 _ _ _ _)
   | (with_reducible exact LeO.refl _)
   | (with_reducible exact LeO.none _)
   | (with_reducible refine LeO.ite ?_ ?_)
   | (with_reducible refine LeO.bind ?_ (fun _ => ?_))
   | exact ih0 _ _ _ _
   | exact LeO.none _
   | refine LeO.ite ?_ ?_
   | refine LeO.bind ?_ (fun _ => ?_)
set_option maxHeartbeats 8000000 in
set_option maxRecDepth 100000 in
theorem pinfoldref04_Same.calls (k : Nat) (A0 : Option Addr) (c0 : Nat) (l0 : List Int) (A1 : Option Addr) (c1 : Nat) (l1 : List Int) (r : Bool) (w : World) (hr0 : Kd.C (Kd.int .i64) w A0 l0.length l0) (hc0 : l0.length ≤ c0) (hr1 : Kd.C (Kd.int .i64) w A1 l1.length l1) (hc1 : l1.length ≤ c1) (h : pinfoldref04_Same.f k l0 l1 = some r) :
  Calls Try.prog 22 #[.slice A0 l0.length c0, .slice A1 l1.length c1] w fun e w' => e = .returned (.bool r) ∧ Drawn0 w w' := by
 have HR0 := Aside0.mk hr0
 have HC0 := Aside0.mk hc0
 clear hr0 hc0
 have HR1 := Aside0.mk hr1
 have HC1 := Aside0.mk hc1
 clear hr1 hc1
 have H : (if (l0.length : Int) = (l1.length : Int) then (pinfoldref04_Same.l0 k l0 l1 (l0.length : Int) 0) else (some false)) = some r := h
 clear h
 by_cases c3 : (l0.length : Int) = (l1.length : Int)
 ·rw [if_pos c3] at H
  have c3b0 : ((l0.length : Int) == (l1.length : Int)) = true := beq_iff_eq.mpr c3
  have c3b1 : ((l0.length : Int) != (l1.length : Int)) = false := bne_eq_false_iff_eq.mpr c3
  have c3b2 : (l0.length == l1.length) = true := by first|simpa using c3|(simp at c3 ⊢;omega)
  clear c3
  have H' := Aside0.mk H
  clear H
  go_enter Try.func22, Try.ntmps22
  go_wp2
  repeat (go_quiet (fail);try go_wp2)
  go_loopg [13] k (fun kq v13 w' => ∃ (x13_1 : Int), v13 = .int .i64 x13_1 ∧ Aside0 (pinfoldref04_Same.l0 kq l0 l1 (l0.length : Int) x13_1 = some r) ∧ Aside0 (kq ≤ k) ∧ Drawn0 w w')
  case atStart => exact ⟨(0), (by first|rfl|(simp;done)|(simp [*];done)), H', ⟨Nat.le_refl _⟩, by repeat (first|exact Drawn0.refl _|apply Drawn0.step)⟩
  case round =>
   clear H'
   try clear c1
   try clear c2
   try clear p2
   try clear c3
   try clear c3b0
   try clear c3b1
   try clear c3b2
   obtain ⟨x13_1, rfl, HA, HK1, ⟨m1, rfl⟩⟩ := hrel
   cases gk with
   | zero => exact absurd HA.out (by simp [pinfoldref04_Same.l0])
   | succ k1 =>
    have H := HA.out
    clear HA
    simp only [pinfoldref04_Same.l0] at H
    by_cases c4 : x13_1 < (l0.length : Int)
    ·rw [if_pos c4] at H
     have c4b0 : decide (x13_1 < (l0.length : Int)) = true := decide_eq_true c4
     clear c4
     by_cases c5 : 0 ≤ x13_1
     ·rw [if_pos c5] at H
      have c5b0 : decide (0 ≤ x13_1) = true := decide_eq_true c5
      clear c5
      by_cases c6 : x13_1 < (l0.length : Int)
      ·rw [if_pos c6] at H
       have c6b0 : decide (x13_1 < (l0.length : Int)) = true := decide_eq_true c6
       clear c6
       by_cases c7 : x13_1 < (l1.length : Int)
       ·rw [if_pos c7] at H
        have c7b0 : decide (x13_1 < (l1.length : Int)) = true := decide_eq_true c7
        clear c7
        by_cases c8 : (rd l0 x13_1) = (rd l1 x13_1)
        ·rw [if_pos c8] at H
         have c8b0 : ((rd l0 x13_1) == (rd l1 x13_1)) = true := beq_iff_eq.mpr c8
         have c8b1 : ((rd l0 x13_1) != (rd l1 x13_1)) = false := bne_eq_false_iff_eq.mpr c8
         clear c8
         have H' := Aside0.mk H
         clear H
         have p185 : 0 ≤ (x13_1 : Int) := of_decide_eq_true (by assumption)
         have q185 : x13_1 < (l0.length : Int) := of_decide_eq_true (by assumption)
         obtain ⟨ad185, e185, hx185_0⟩ := Kd.at_int HR0.out x13_1 p185 q185
         cases e185
         replace p185 := eq_true p185
         replace q185 := eq_true q185
         have p186 : 0 ≤ (x13_1 : Int) := of_decide_eq_true (by assumption)
         have q186 : x13_1 < (l1.length : Int) := of_decide_eq_true (by assumption)
         obtain ⟨ad186, e186, hx186_0⟩ := Kd.at_int HR1.out x13_1 p186 q186
         cases e186
         replace p186 := eq_true p186
         replace q186 := eq_true q186
         go_wp2
         repeat (go_quiet (fail);try go_wp2)
         (try simp only [px_add0] at *)
         go_roundg k1
         case measure => have := HK1.out;omega
         case rel => exact ⟨(wrap64 (x13_1 + 1)), (by first|rfl|(simp;done)|(simp [*];done)), H', ⟨by have := HK1.out;omega⟩, by repeat (first|exact Drawn0.refl _|apply Drawn0.step)⟩
        ·rw [if_neg c8] at H
         have c8b0 : ((rd l0 x13_1) == (rd l1 x13_1)) = false := beq_eq_false_iff_ne.mpr c8
         have c8b1 : ((rd l0 x13_1) != (rd l1 x13_1)) = true := bne_iff_ne.mpr c8
         obtain rfl := Option.some.inj H
         have p185 : 0 ≤ (x13_1 : Int) := of_decide_eq_true (by assumption)
         have q185 : x13_1 < (l0.length : Int) := of_decide_eq_true (by assumption)
         obtain ⟨ad185, e185, hx185_0⟩ := Kd.at_int HR0.out x13_1 p185 q185
         cases e185
         replace p185 := eq_true p185
         replace q185 := eq_true q185
         have p186 : 0 ≤ (x13_1 : Int) := of_decide_eq_true (by assumption)
         have q186 : x13_1 < (l1.length : Int) := of_decide_eq_true (by assumption)
         obtain ⟨ad186, e186, hx186_0⟩ := Kd.at_int HR1.out x13_1 p186 q186
         cases e186
         replace p186 := eq_true p186
         replace q186 := eq_true q186
         go_wp2
         repeat (go_quiet (fail);try go_wp2)
         go_ret
         exact ⟨by first|rfl|(simp;done)|(simp [*];done), by repeat (first|exact Drawn0.refl _|apply Drawn0.step)⟩
       ·rw [if_neg c7] at H
        exact absurd H (by simp)
      ·rw [if_neg c6] at H
       exact absurd H (by simp)
     ·rw [if_neg c5] at H
      exact absurd H (by simp)
    ·rw [if_neg c4] at H
     have c4b0 : decide (x13_1 < (l0.length : Int)) = false := decide_eq_false c4
     clear c4
     obtain rfl := Option.some.inj H
     go_wp2
     repeat (go_quiet (fail);try go_wp2)
     go_ret
     exact ⟨by first|rfl|(simp;done)|(simp [*];done), by repeat (first|exact Drawn0.refl _|apply Drawn0.step)⟩
 ·rw [if_neg c3] at H
  have c3b0 : ((l0.length : Int) == (l1.length : Int)) = false := beq_eq_false_iff_ne.mpr c3
  have c3b1 : ((l0.length : Int) != (l1.length : Int)) = true := bne_iff_ne.mpr c3
  have c3b2 : (l0.length == l1.length) = false := by first|simpa using c3|(simp at c3 ⊢;omega)
  obtain rfl := Option.some.inj H
  go_enter Try.func22, Try.ntmps22
  go_wp2
  repeat (go_quiet (fail);try go_wp2)
  go_ret
  exact ⟨by first|rfl|(simp;done)|(simp [*];done), by repeat (first|exact Drawn0.refl _|apply Drawn0.step)⟩

/-! ### gantt_Went: function 23 -/
mutual
def gantt_Went.l0 : Nat → Int → List Int → List (S36) → Int → Int → Option (List Int)
 | 0, _, _, _, _, _ => none
 | k + 1, x1, x4, x7, x8, x9 => if x9 < x8 then (if 0 ≤ x9 then (if x9 < (x7.length : Int) then (if ((rd_T36 x7 x9).f0) = 2 then (gantt_Went.j1 k x1 x4 x7 x8 x9 (((rd_T36 x7 x9).f1) != x1) ((rd_T36 x7 x9).f0) ((rd_T36 x7 x9).f1) ((rd_T36 x7 x9).f2) ((rd_T36 x7 x9).f3) ((rd_T36 x7 x9).f4)) else (gantt_Went.j1 k x1 x4 x7 x8 x9 true ((rd_T36 x7 x9).f0) ((rd_T36 x7 x9).f1) ((rd_T36 x7 x9).f2) ((rd_T36 x7 x9).f3) ((rd_T36 x7 x9).f4))) else (none)) else (none)) else (some x4)
def gantt_Went.j1 : Nat → Int → List Int → List (S36) → Int → Int → Bool → Int → Int → Int → Int → Int → Option (List Int)
 | 0, _, _, _, _, _, _, _, _, _, _, _ => none
 | k + 1, x1, x4, x7, x8, x9, x21, x189000, x189001, x189002, x189003, x189004 => if x21 = true then (gantt_Went.l0 k x1 x4 x7 x8 (wrap64 (x9 + 1))) else (if (x4.length : Int) = 0 then (if x4.length < 17592186044416 then (gantt_Went.l0 k x1 (x4 ++ [x189002]) x7 x8 (wrap64 (x9 + 1))) else (none)) else (if 0 ≤ (wrap64 ((x4.length : Int) - 1)) then (if (wrap64 ((x4.length : Int) - 1)) < (x4.length : Int) then (if (rd x4 (wrap64 ((x4.length : Int) - 1))) = x189002 then (gantt_Went.l0 k x1 x4 x7 x8 (wrap64 (x9 + 1))) else (if x4.length < 17592186044416 then (gantt_Went.l0 k x1 (x4 ++ [x189002]) x7 x8 (wrap64 (x9 + 1))) else (none))) else (none)) else (none)))
end
def gantt_Went.f (k : Nat) (l0 : List (S36)) (a1 : Int) : Option (List Int) := gantt_Went.l0 k a1 ([] : List Int) l0 (l0.length : Int) 0
theorem gantt_Went.mono_l : ∀ k, (∀ y0 y1 y2 y3 y4, LeO (gantt_Went.l0 k y0 y1 y2 y3 y4) (gantt_Went.l0 (k + 1) y0 y1 y2 y3 y4)) ∧ (∀ y0 y1 y2 y3 y4 y5 y6 y7 y8 y9 y10, LeO (gantt_Went.j1 k y0 y1 y2 y3 y4 y5 y6 y7 y8 y9 y10) (gantt_Went.j1 (k + 1) y0 y1 y2 y3 y4 y5 y6 y7 y8 y9 y10))
 | 0 => ⟨fun _ _ _ _ _ r h => by simp [gantt_Went.l0] at h, fun _ _ _ _ _ _ _ _ _ _ _ r h => by simp [gantt_Went.j1] at h⟩
 | k + 1 => by
  obtain ⟨ih0, ih1⟩ := gantt_Went.mono_l k
  refine ⟨?_, ?_⟩
  ·intro y0 y1 y2 y3 y4
   unfold gantt_Went.l0
   repeat' first
   | (with_reducible exact ih0 _ _ _ _ _)
   | (with_reducible exact ih1 _ _ _ _ _ _ _ _ _ _ _)
   | (with_reducible exact LeO.refl _)
   | (with_reducible exact LeO.none _)
   | (with_reducible refine LeO.ite ?_ ?_)
   | (with_reducible refine LeO.bind ?_ (fun _ => ?_))
   | exact ih0 _ _ _ _ _
   | exact ih1 _ _ _ _ _ _ _ _ _ _ _
   | exact LeO.none _
   | refine LeO.ite ?_ ?_
   | refine LeO.bind ?_ (fun _ => ?_)
  ·intro y0 y1 y2 y3 y4 y5 y6 y7 y8 y9 y10
   unfold gantt_Went.j1
   repeat' first
   | (with_reducible exact ih0 _ _ _ _ _)
   | (with_reducible exact ih1 _ _ _ _ _ _ _ _ _ _ _)
   | (with_reducible exact LeO.refl _)
   | (with_reducible exact LeO.none _)
   | (with_reducible refine LeO.ite ?_ ?_)
   | (with_reducible refine LeO.bind ?_ (fun _ => ?_))
   | exact ih0 _ _ _ _ _
   | exact ih1 _ _ _ _ _ _ _ _ _ _ _
   | exact LeO.none _
   | refine LeO.ite ?_ ?_
   | refine LeO.bind ?_ (fun _ => ?_)
theorem gantt_Went.mono : ∀ a0 a1 k, LeO (gantt_Went.f k a0 a1) (gantt_Went.f (k + 1) a0 a1) := by
 intro a0 a1 k
 obtain ⟨ih0, ih1⟩ := gantt_Went.mono_l k
 unfold gantt_Went.f
 repeat' first
   | (with_reducible exact ih0 _ _ _ _ _)
   | (with_reducible exact ih1 _ _ _ _ _ _ _ _ _ _ _)
   | (with_reducible exact LeO.refl _)
   | (with_reducible exact LeO.none _)
   | (with_reducible refine LeO.ite ?_ ?_)
   | (with_reducible refine LeO.bind ?_ (fun _ => ?_))
   | exact ih0 _ _ _ _ _
   | exact ih1 _ _ _ _ _ _ _ _ _ _ _
   | exact LeO.none _
   | refine LeO.ite ?_ ?_
   | refine LeO.bind ?_ (fun _ => ?_)
set_option maxHeartbeats 8000000 in
set_option maxRecDepth 100000 in
theorem gantt_Went.calls (k : Nat) (A0 : Option Addr) (c0 : Nat) (l0 : List (S36)) (a1 : Int) (r : List Int) (w : World) (hr0 : Kd.C k36 w A0 l0.length l0) (hc0 : l0.length ≤ c0) (h : gantt_Went.f k l0 a1 = some r) :
  Calls Try.prog 23 #[.slice A0 l0.length c0, .int .i64 a1] w fun e w' => ∃ v0_ : Value, e = .returned (v0_) ∧ Kd.R (Kd.int .i64) 3 w' w.heap.size (fun _ => True) v0_ r ∧ Below w.heap.size w w' := by
 have hu36 := Try.underlying36
 have HR0 := Aside0.mk hr0
 have HC0 := Aside0.mk hc0
 clear hr0 hc0
 have HB := Aside0.mk (Below.refl w.heap.size w)
 have H : (gantt_Went.l0 k a1 ([] : List Int) l0 (l0.length : Int) 0) = some r := h
 clear h
 have H' := Aside0.mk H
 clear H
 go_enter Try.func23, Try.ntmps23
 go_wp2
 repeat (go_quiet (fail);try go_wp2)
 go_loopg [4, 9] k (fun kq v4 v9 w' => ∃ (x4_1 : List Int) (x9_1 : Int), v9 = .int .i64 x9_1 ∧ Aside0 (gantt_Went.l0 kq a1 x4_1 l0 (l0.length : Int) x9_1 = some r) ∧ Aside0 (kq ≤ k) ∧ Aside0 (Kd.R (Kd.int .i64) 3 w' w.heap.size (fun _ => True) v4 x4_1) ∧ Aside0 (Below w.heap.size w w'))
 case atStart => exact ⟨(([] : List Int)), (0), (by first|rfl|(simp;done)|(simp [*];done)), H', ⟨Nat.le_refl _⟩, ⟨by first|exact Kd.R_nil _ _ _ _ _|exact Kd.N_nil _ _ _ _ _|exact Kd.V_nil _ _ _ _ _|exact Kd.Q_nil _ _ _ _ _|exact Kd.S_nil _ _ _ _ _⟩, ⟨by repeat (with_reducible first|exact HB.out|apply xa|apply xb|apply xc)⟩⟩
 case round =>
  clear H'
  try clear c2
  try clear p2
  obtain ⟨x4_1, x9_1, rfl, HA, HK1, HO_4, HB⟩ := hrel
  cases gk with
  | zero => exact absurd HA.out (by simp [gantt_Went.l0])
  | succ k1 =>
   have H := HA.out
   clear HA
   simp only [gantt_Went.l0] at H
   by_cases c3 : x9_1 < (l0.length : Int)
   ·rw [if_pos c3] at H
    have c3b0 : decide (x9_1 < (l0.length : Int)) = true := decide_eq_true c3
    clear c3
    by_cases c4 : 0 ≤ x9_1
    ·rw [if_pos c4] at H
     have c4b0 : decide (0 ≤ x9_1) = true := decide_eq_true c4
     clear c4
     by_cases c5 : x9_1 < (l0.length : Int)
     ·rw [if_pos c5] at H
      have c5b0 : decide (x9_1 < (l0.length : Int)) = true := decide_eq_true c5
      clear c5
      have HC6 := Aside0.mk H
      clear H
      have p187 : 0 ≤ (x9_1 : Int) := of_decide_eq_true (by assumption)
      have q187 : x9_1 < (l0.length : Int) := of_decide_eq_true (by assumption)
      obtain ⟨ad187, e187, hx187_0, hx187_1, hx187_2, hx187_3, hx187_4⟩ := at_T36 HR0.out x9_1 p187 q187
      cases e187
      replace hx187_0 := (HB.out.cell (World.block_lt_of_cell? w _ hx187_0)).trans hx187_0
      replace hx187_1 := (HB.out.cell (World.block_lt_of_cell? w _ hx187_1)).trans hx187_1
      replace hx187_2 := (HB.out.cell (World.block_lt_of_cell? w _ hx187_2)).trans hx187_2
      replace hx187_3 := (HB.out.cell (World.block_lt_of_cell? w _ hx187_3)).trans hx187_3
      replace hx187_4 := (HB.out.cell (World.block_lt_of_cell? w _ hx187_4)).trans hx187_4
      replace p187 := eq_true p187
      replace q187 := eq_true q187
      go_upto_region 4 with (first|((with_reducible refine gate_dst (N := 6) rfl ?_);(try (refine gate_guard (by rfl) ?_;dsimp only));refine box_event ?hg (N := 6) ?hd (cs := #[.int .i64 0, .int .i64 0, .int .i64 0, .int .i64 0, .int .i64 0]) (t := 36) ?hr ?_;(case hd => rfl);(case hg => rfl);(case hr => first|(go_simp;done)|(go_simp;rfl));intro gb188 hg w7 hbox hb;have n0_ := Aside0.mk (Kd.R_below (by (with_reducible repeat (first|apply Kd.R_alloc|apply Kd.R_drewN|apply Kd.R_drew));exact HO_4.out) hb);have n1_ := Aside0.mk (below_step (by repeat (with_reducible first|exact HB.out|apply xa|apply xb|apply xc)) hb);have n2_ := Aside0.mk (hbox);have n3_ := Aside0.mk ((by rw [hg];exact (below_size (by repeat (with_reducible first|exact HB.out|apply xa|apply xb|apply xc))) : w.heap.size ≤ gb188));have n4_ := Aside0.mk ((by rw [hg];exact (below_size (by repeat (with_reducible first|exact HB.out|apply xa|apply xb|apply xc))) : w.heap.size ≤ gb188));clear HO_4;clear HB;have HO_4 := n0_;have HB := n1_;have BK188 := n2_;have GW188 := n3_;have GE188 := n4_;clear n0_ n1_ n2_ n3_ n4_;clear hb hbox hg;have hcz8_0 : w7.cell? ⟨gb188, 0, none⟩ = some (.int .i64 0) := (blk_cell BK188.out 0).trans rfl;have hcz8_1 : w7.cell? ⟨gb188, 1, none⟩ = some (.int .i64 0) := (blk_cell BK188.out 1).trans rfl;have hcz8_2 : w7.cell? ⟨gb188, 2, none⟩ = some (.int .i64 0) := (blk_cell BK188.out 2).trans rfl;have hcz8_3 : w7.cell? ⟨gb188, 3, none⟩ = some (.int .i64 0) := (blk_cell BK188.out 3).trans rfl;have hcz8_4 : w7.cell? ⟨gb188, 4, none⟩ = some (.int .i64 0) := (blk_cell BK188.out 4).trans rfl;have hfz8_0 := blk_frozen BK188.out 0;have hfz8_1 := blk_frozen BK188.out 1;have hfz8_2 := blk_frozen BK188.out 2;have hfz8_3 := blk_frozen BK188.out 3;have hfz8_4 := blk_frozen BK188.out 4))
      repeat (go_quiet (first|((with_reducible refine gate_dst (N := 6) rfl ?_);(try (refine gate_guard (by rfl) ?_;dsimp only));refine box_event ?hg (N := 6) ?hd (cs := #[.int .i64 0, .int .i64 0, .int .i64 0, .int .i64 0, .int .i64 0]) (t := 36) ?hr ?_;(case hd => rfl);(case hg => rfl);(case hr => first|(go_simp;done)|(go_simp;rfl));intro gb188 hg w7 hbox hb;have n0_ := Aside0.mk (Kd.R_below (by (with_reducible repeat (first|apply Kd.R_alloc|apply Kd.R_drewN|apply Kd.R_drew));exact HO_4.out) hb);have n1_ := Aside0.mk (below_step (by repeat (with_reducible first|exact HB.out|apply xa|apply xb|apply xc)) hb);have n2_ := Aside0.mk (hbox);have n3_ := Aside0.mk ((by rw [hg];exact (below_size (by repeat (with_reducible first|exact HB.out|apply xa|apply xb|apply xc))) : w.heap.size ≤ gb188));have n4_ := Aside0.mk ((by rw [hg];exact (below_size (by repeat (with_reducible first|exact HB.out|apply xa|apply xb|apply xc))) : w.heap.size ≤ gb188));clear HO_4;clear HB;have HO_4 := n0_;have HB := n1_;have BK188 := n2_;have GW188 := n3_;have GE188 := n4_;clear n0_ n1_ n2_ n3_ n4_;clear hb hbox hg;have hcz8_0 : w7.cell? ⟨gb188, 0, none⟩ = some (.int .i64 0) := (blk_cell BK188.out 0).trans rfl;have hcz8_1 : w7.cell? ⟨gb188, 1, none⟩ = some (.int .i64 0) := (blk_cell BK188.out 1).trans rfl;have hcz8_2 : w7.cell? ⟨gb188, 2, none⟩ = some (.int .i64 0) := (blk_cell BK188.out 2).trans rfl;have hcz8_3 : w7.cell? ⟨gb188, 3, none⟩ = some (.int .i64 0) := (blk_cell BK188.out 3).trans rfl;have hcz8_4 : w7.cell? ⟨gb188, 4, none⟩ = some (.int .i64 0) := (blk_cell BK188.out 4).trans rfl;have hfz8_0 := blk_frozen BK188.out 0;have hfz8_1 := blk_frozen BK188.out 1;have hfz8_2 := blk_frozen BK188.out 2;have hfz8_3 := blk_frozen BK188.out 3;have hfz8_4 := blk_frozen BK188.out 4));go_upto_region 4 with (first|((with_reducible refine gate_dst (N := 6) rfl ?_);(try (refine gate_guard (by rfl) ?_;dsimp only));refine box_event ?hg (N := 6) ?hd (cs := #[.int .i64 0, .int .i64 0, .int .i64 0, .int .i64 0, .int .i64 0]) (t := 36) ?hr ?_;(case hd => rfl);(case hg => rfl);(case hr => first|(go_simp;done)|(go_simp;rfl));intro gb188 hg w7 hbox hb;have n0_ := Aside0.mk (Kd.R_below (by (with_reducible repeat (first|apply Kd.R_alloc|apply Kd.R_drewN|apply Kd.R_drew));exact HO_4.out) hb);have n1_ := Aside0.mk (below_step (by repeat (with_reducible first|exact HB.out|apply xa|apply xb|apply xc)) hb);have n2_ := Aside0.mk (hbox);have n3_ := Aside0.mk ((by rw [hg];exact (below_size (by repeat (with_reducible first|exact HB.out|apply xa|apply xb|apply xc))) : w.heap.size ≤ gb188));have n4_ := Aside0.mk ((by rw [hg];exact (below_size (by repeat (with_reducible first|exact HB.out|apply xa|apply xb|apply xc))) : w.heap.size ≤ gb188));clear HO_4;clear HB;have HO_4 := n0_;have HB := n1_;have BK188 := n2_;have GW188 := n3_;have GE188 := n4_;clear n0_ n1_ n2_ n3_ n4_;clear hb hbox hg;have hcz8_0 : w7.cell? ⟨gb188, 0, none⟩ = some (.int .i64 0) := (blk_cell BK188.out 0).trans rfl;have hcz8_1 : w7.cell? ⟨gb188, 1, none⟩ = some (.int .i64 0) := (blk_cell BK188.out 1).trans rfl;have hcz8_2 : w7.cell? ⟨gb188, 2, none⟩ = some (.int .i64 0) := (blk_cell BK188.out 2).trans rfl;have hcz8_3 : w7.cell? ⟨gb188, 3, none⟩ = some (.int .i64 0) := (blk_cell BK188.out 3).trans rfl;have hcz8_4 : w7.cell? ⟨gb188, 4, none⟩ = some (.int .i64 0) := (blk_cell BK188.out 4).trans rfl;have hfz8_0 := blk_frozen BK188.out 0;have hfz8_1 := blk_frozen BK188.out 1;have hfz8_2 := blk_frozen BK188.out 2;have hfz8_3 := blk_frozen BK188.out 3;have hfz8_4 := blk_frozen BK188.out 4)))
      (try simp only [Act.put, List.setIfInBounds_toArray, List.set_cons_zero, List.set_cons_succ])
      go_cut [21] (fun v21 wc => ∃ (kq : Nat) (x21_5 : Bool), v21 = .bool x21_5 ∧ Aside0 (gantt_Went.j1 kq a1 x4_1 l0 (l0.length : Int) x9_1 x21_5 ((rd_T36 l0 x9_1).f0) ((rd_T36 l0 x9_1).f1) ((rd_T36 l0 x9_1).f2) ((rd_T36 l0 x9_1).f3) ((rd_T36 l0 x9_1).f4) = some r) ∧ Aside0 (kq ≤ k1) ∧ Aside0 (Kd.R (Kd.int .i64) 3 wc w.heap.size (fun _ => True) u4 x4_1) ∧ Aside0 (wc.heap[gb188]? = some (.cells #[.int .i64 ((rd_T36 l0 x9_1).f0), .int .i64 ((rd_T36 l0 x9_1).f1), .int .i64 ((rd_T36 l0 x9_1).f2), .int .i64 ((rd_T36 l0 x9_1).f3), .int .i64 ((rd_T36 l0 x9_1).f4)] 36 (0, 0))) ∧ Aside0 (Below w.heap.size w wc))
      case first =>
       have H := HC6.out
       clear HC6
       by_cases c9 : ((rd_T36 l0 x9_1).f0) = 2
       ·rw [if_pos c9] at H
        have c9b0 : (((rd_T36 l0 x9_1).f0) == 2) = true := beq_iff_eq.mpr c9
        have c9b1 : (((rd_T36 l0 x9_1).f0) != 2) = false := bne_eq_false_iff_eq.mpr c9
        clear c9
        (first|rw [c9b0]|(simp only [i64_w, i32_w];rw [c9b0])|skip)
        have H' := Aside0.mk H
        clear H
        have hcz10_0 : w7.cell? ⟨gb188, 0, none⟩ = some (.int .i64 0) := (blk_cell BK188.out 0).trans rfl
        have hcz10_1 : w7.cell? ⟨gb188, 1, none⟩ = some (.int .i64 0) := (blk_cell BK188.out 1).trans rfl
        have hcz10_2 : w7.cell? ⟨gb188, 2, none⟩ = some (.int .i64 0) := (blk_cell BK188.out 2).trans rfl
        have hcz10_3 : w7.cell? ⟨gb188, 3, none⟩ = some (.int .i64 0) := (blk_cell BK188.out 3).trans rfl
        have hcz10_4 : w7.cell? ⟨gb188, 4, none⟩ = some (.int .i64 0) := (blk_cell BK188.out 4).trans rfl
        have hfz10_0 := blk_frozen BK188.out 0
        have hfz10_1 := blk_frozen BK188.out 1
        have hfz10_2 := blk_frozen BK188.out 2
        have hfz10_3 := blk_frozen BK188.out 3
        have hfz10_4 := blk_frozen BK188.out 4
        go_wp2
        repeat (go_quiet (fail);try go_wp2)
        go_meet
        case rel => exact ⟨_, ((((rd_T36 l0 x9_1).f1) != a1)), (by first|rfl|(simp;done)|(simp [*];done)), H', ⟨by have := HK1.out;first|omega|exact Nat.le_refl _⟩, ⟨by (with_reducible repeat (first|apply Kd.R_alloc|apply Kd.R_drewN|apply Kd.R_drew));exact Kd.R_mono (Kd.R_far (p := ⟨gb188, 4, none⟩) (Kd.R_far (p := ⟨gb188, 3, none⟩) (Kd.R_far (p := ⟨gb188, 2, none⟩) (Kd.R_far (p := ⟨gb188, 1, none⟩) (Kd.R_far (p := ⟨gb188, 0, none⟩) (Kd.R_types HO_4.out BK188.out (by decide)) (fun _ hk => hk.2) (.int .i64 ((rd_T36 l0 x9_1).f0))) (fun _ hk => hk.2) (.int .i64 ((rd_T36 l0 x9_1).f1))) (fun _ hk => hk.2) (.int .i64 ((rd_T36 l0 x9_1).f2))) (fun _ hk => hk.2) (.int .i64 ((rd_T36 l0 x9_1).f3))) (fun _ hk => hk.2) (.int .i64 ((rd_T36 l0 x9_1).f4))) (fun _ hk => trivial)⟩, ⟨by (with_reducible repeat (first|apply blk_drewN|apply blk_drew|apply blk_alloc));refine blk_put (cs := #[.int .i64 ((rd_T36 l0 x9_1).f0), .int .i64 ((rd_T36 l0 x9_1).f1), .int .i64 ((rd_T36 l0 x9_1).f2), .int .i64 ((rd_T36 l0 x9_1).f3), .int .i64 0]) ?_ 4 _ rfl;(with_reducible repeat (first|apply blk_drewN|apply blk_drew|apply blk_alloc));refine blk_put (cs := #[.int .i64 ((rd_T36 l0 x9_1).f0), .int .i64 ((rd_T36 l0 x9_1).f1), .int .i64 ((rd_T36 l0 x9_1).f2), .int .i64 0, .int .i64 0]) ?_ 3 _ rfl;(with_reducible repeat (first|apply blk_drewN|apply blk_drew|apply blk_alloc));refine blk_put (cs := #[.int .i64 ((rd_T36 l0 x9_1).f0), .int .i64 ((rd_T36 l0 x9_1).f1), .int .i64 0, .int .i64 0, .int .i64 0]) ?_ 2 _ rfl;(with_reducible repeat (first|apply blk_drewN|apply blk_drew|apply blk_alloc));refine blk_put (cs := #[.int .i64 ((rd_T36 l0 x9_1).f0), .int .i64 0, .int .i64 0, .int .i64 0, .int .i64 0]) ?_ 1 _ rfl;(with_reducible repeat (first|apply blk_drewN|apply blk_drew|apply blk_alloc));refine blk_put (cs := #[.int .i64 0, .int .i64 0, .int .i64 0, .int .i64 0, .int .i64 0]) ?_ 0 _ rfl;(with_reducible repeat (first|apply blk_drewN|apply blk_drew|apply blk_alloc));exact BK188.out⟩, ⟨by repeat (first|(with_reducible first|exact HB.out|apply xa|apply xb|apply xc|refine below_set ?_ GE188.out)|exact HB.out)⟩⟩
       ·rw [if_neg c9] at H
        have c9b0 : (((rd_T36 l0 x9_1).f0) == 2) = false := beq_eq_false_iff_ne.mpr c9
        have c9b1 : (((rd_T36 l0 x9_1).f0) != 2) = true := bne_iff_ne.mpr c9
        (first|rw [c9b0]|(simp only [i64_w, i32_w];rw [c9b0])|skip)
        have H' := Aside0.mk H
        clear H
        have hcz11_0 : w7.cell? ⟨gb188, 0, none⟩ = some (.int .i64 0) := (blk_cell BK188.out 0).trans rfl
        have hcz11_1 : w7.cell? ⟨gb188, 1, none⟩ = some (.int .i64 0) := (blk_cell BK188.out 1).trans rfl
        have hcz11_2 : w7.cell? ⟨gb188, 2, none⟩ = some (.int .i64 0) := (blk_cell BK188.out 2).trans rfl
        have hcz11_3 : w7.cell? ⟨gb188, 3, none⟩ = some (.int .i64 0) := (blk_cell BK188.out 3).trans rfl
        have hcz11_4 : w7.cell? ⟨gb188, 4, none⟩ = some (.int .i64 0) := (blk_cell BK188.out 4).trans rfl
        have hfz11_0 := blk_frozen BK188.out 0
        have hfz11_1 := blk_frozen BK188.out 1
        have hfz11_2 := blk_frozen BK188.out 2
        have hfz11_3 := blk_frozen BK188.out 3
        have hfz11_4 := blk_frozen BK188.out 4
        go_wp2
        repeat (go_quiet (fail);try go_wp2)
        go_meet
        case rel => exact ⟨_, (true), (by first|rfl|(simp;done)|(simp [*];done)), H', ⟨by have := HK1.out;first|omega|exact Nat.le_refl _⟩, ⟨by (with_reducible repeat (first|apply Kd.R_alloc|apply Kd.R_drewN|apply Kd.R_drew));exact Kd.R_mono (Kd.R_far (p := ⟨gb188, 4, none⟩) (Kd.R_far (p := ⟨gb188, 3, none⟩) (Kd.R_far (p := ⟨gb188, 2, none⟩) (Kd.R_far (p := ⟨gb188, 1, none⟩) (Kd.R_far (p := ⟨gb188, 0, none⟩) (Kd.R_types HO_4.out BK188.out (by decide)) (fun _ hk => hk.2) (.int .i64 ((rd_T36 l0 x9_1).f0))) (fun _ hk => hk.2) (.int .i64 ((rd_T36 l0 x9_1).f1))) (fun _ hk => hk.2) (.int .i64 ((rd_T36 l0 x9_1).f2))) (fun _ hk => hk.2) (.int .i64 ((rd_T36 l0 x9_1).f3))) (fun _ hk => hk.2) (.int .i64 ((rd_T36 l0 x9_1).f4))) (fun _ hk => trivial)⟩, ⟨by (with_reducible repeat (first|apply blk_drewN|apply blk_drew|apply blk_alloc));refine blk_put (cs := #[.int .i64 ((rd_T36 l0 x9_1).f0), .int .i64 ((rd_T36 l0 x9_1).f1), .int .i64 ((rd_T36 l0 x9_1).f2), .int .i64 ((rd_T36 l0 x9_1).f3), .int .i64 0]) ?_ 4 _ rfl;(with_reducible repeat (first|apply blk_drewN|apply blk_drew|apply blk_alloc));refine blk_put (cs := #[.int .i64 ((rd_T36 l0 x9_1).f0), .int .i64 ((rd_T36 l0 x9_1).f1), .int .i64 ((rd_T36 l0 x9_1).f2), .int .i64 0, .int .i64 0]) ?_ 3 _ rfl;(with_reducible repeat (first|apply blk_drewN|apply blk_drew|apply blk_alloc));refine blk_put (cs := #[.int .i64 ((rd_T36 l0 x9_1).f0), .int .i64 ((rd_T36 l0 x9_1).f1), .int .i64 0, .int .i64 0, .int .i64 0]) ?_ 2 _ rfl;(with_reducible repeat (first|apply blk_drewN|apply blk_drew|apply blk_alloc));refine blk_put (cs := #[.int .i64 ((rd_T36 l0 x9_1).f0), .int .i64 0, .int .i64 0, .int .i64 0, .int .i64 0]) ?_ 1 _ rfl;(with_reducible repeat (first|apply blk_drewN|apply blk_drew|apply blk_alloc));refine blk_put (cs := #[.int .i64 0, .int .i64 0, .int .i64 0, .int .i64 0, .int .i64 0]) ?_ 0 _ rfl;(with_reducible repeat (first|apply blk_drewN|apply blk_drew|apply blk_alloc));exact BK188.out⟩, ⟨by repeat (first|(with_reducible first|exact HB.out|apply xa|apply xb|apply xc|refine below_set ?_ GE188.out)|exact HB.out)⟩⟩
      case rest =>
       clear HC6
       try clear p1
       try clear q1
       try clear hx1
       try clear c2
       try clear p2
       try clear c3
       try clear c3b0
       try clear c4
       try clear c4b0
       try clear c5
       try clear c5b0
       try clear c9
       try clear c9b0
       try clear c9b1
       try clear hcz10_0
       try clear hcz10_1
       try clear hcz10_2
       try clear hcz10_3
       try clear hcz10_4
       try clear hcz11_0
       try clear hcz11_1
       try clear hcz11_2
       try clear hcz11_3
       try clear hcz11_4
       try clear hcz8_0
       try clear hcz8_1
       try clear hcz8_2
       try clear hcz8_3
       try clear hcz8_4
       try clear hfz10_0
       try clear hfz10_1
       try clear hfz10_2
       try clear hfz10_3
       try clear hfz10_4
       try clear hfz11_0
       try clear hfz11_1
       try clear hfz11_2
       try clear hfz11_3
       try clear hfz11_4
       try clear hfz8_0
       try clear hfz8_1
       try clear hfz8_2
       try clear hfz8_3
       try clear hfz8_4
       try clear hx187_0
       try clear hx187_1
       try clear hx187_2
       try clear hx187_3
       try clear hx187_4
       try clear p187
       try clear p2
       try clear q187
       obtain ⟨kq, x21_5, rfl, HA, HJ5, HO_4, BK188, HB⟩ := hcut
       cases kq with
       | zero => exact absurd HA.out (by simp [gantt_Went.j1])
       | succ kj5 =>
        have H := HA.out
        clear HA
        simp only [gantt_Went.j1] at H
        by_cases c12 : x21_5 = true
        ·subst c12
         have H1 : (gantt_Went.l0 kj5 a1 x4_1 l0 (l0.length : Int) (wrap64 (x9_1 + 1))) = some r := by rw [if_pos rfl] at H;exact H
         clear H
         have H := H1
         clear H1
         have H' := Aside0.mk H
         clear H
         go_wp2
         repeat (go_quiet (fail);try go_wp2)
         go_roundg kj5
         case measure => have := HK1.out;have := HJ5.out;omega
         case rel => exact ⟨(x4_1), (wrap64 (x9_1 + 1)), (by first|rfl|(simp;done)|(simp [*];done)), H', ⟨by have := HK1.out;have := HJ5.out;omega⟩, ⟨by (with_reducible repeat (first|apply Kd.R_alloc|apply Kd.R_drewN|apply Kd.R_drew));exact HO_4.out⟩, ⟨by repeat (first|(with_reducible first|exact HB.out|apply xa|apply xb|apply xc|refine below_set ?_ GE188.out)|exact HB.out)⟩⟩
        ·replace c12 := Bool.eq_false_iff.mpr c12
         subst c12
         have H1 : (if (x4_1.length : Int) = 0 then (if x4_1.length < 17592186044416 then (gantt_Went.l0 kj5 a1 (x4_1 ++ [((rd_T36 l0 x9_1).f2)]) l0 (l0.length : Int) (wrap64 (x9_1 + 1))) else (none)) else (if 0 ≤ (wrap64 ((x4_1.length : Int) - 1)) then (if (wrap64 ((x4_1.length : Int) - 1)) < (x4_1.length : Int) then (if (rd x4_1 (wrap64 ((x4_1.length : Int) - 1))) = ((rd_T36 l0 x9_1).f2) then (gantt_Went.l0 kj5 a1 x4_1 l0 (l0.length : Int) (wrap64 (x9_1 + 1))) else (if x4_1.length < 17592186044416 then (gantt_Went.l0 kj5 a1 (x4_1 ++ [((rd_T36 l0 x9_1).f2)]) l0 (l0.length : Int) (wrap64 (x9_1 + 1))) else (none))) else (none)) else (none))) = some r := by rw [if_neg (show ¬ (false = true) by decide)] at H;exact H
         clear H
         have H := H1
         clear H1
         by_cases c13 : (x4_1.length : Int) = 0
         ·rw [if_pos c13] at H
          have c13b0 : ((x4_1.length : Int) == 0) = true := beq_iff_eq.mpr c13
          have c13b1 : ((x4_1.length : Int) != 0) = false := bne_eq_false_iff_eq.mpr c13
          clear c13
          by_cases c14 : x4_1.length < 17592186044416
          ·rw [if_pos c14] at H
           have LMc14 := Aside0.mk c14
           clear c14
           obtain ⟨y189, hy189⟩ : ∃ y_ : List Int, y_ = (x4_1 ++ [((rd_T36 l0 x9_1).f2)]) := ⟨_, rfl⟩
           replace H : (gantt_Went.l0 kj5 a1 y189 l0 (l0.length : Int) (wrap64 (x9_1 + 1))) = some r := by first|(rw [hy189];with_reducible exact H)|(have H2_ := (Option.bind_some _ _).symm.trans H;rw [hy189];with_reducible exact H2_)|(have H2_ := (Option.bind_some _ _).symm.trans H;with_reducible exact H2_)|with_reducible exact H|(rw [hy189];exact H)|exact H
           have Ny189 := Aside0.mk hy189
           clear hy189
           have H' := Aside0.mk H
           clear H
           obtain ⟨Ao15, co15, eo15⟩ := Kd.R_slice HO_4.out
           subst eo15
           have hcz16_0 : wc.cell? ⟨gb188, 0, none⟩ = some (.int .i64 ((rd_T36 l0 x9_1).f0)) := (blk_cell BK188.out 0).trans rfl
           have hcz16_1 : wc.cell? ⟨gb188, 1, none⟩ = some (.int .i64 ((rd_T36 l0 x9_1).f1)) := (blk_cell BK188.out 1).trans rfl
           have hcz16_2 : wc.cell? ⟨gb188, 2, none⟩ = some (.int .i64 ((rd_T36 l0 x9_1).f2)) := (blk_cell BK188.out 2).trans rfl
           have hcz16_3 : wc.cell? ⟨gb188, 3, none⟩ = some (.int .i64 ((rd_T36 l0 x9_1).f3)) := (blk_cell BK188.out 3).trans rfl
           have hcz16_4 : wc.cell? ⟨gb188, 4, none⟩ = some (.int .i64 ((rd_T36 l0 x9_1).f4)) := (blk_cell BK188.out 4).trans rfl
           have hfz16_0 := blk_frozen BK188.out 0
           have hfz16_1 := blk_frozen BK188.out 1
           have hfz16_2 := blk_frozen BK188.out 2
           have hfz16_3 := blk_frozen BK188.out 3
           have hfz16_4 := blk_frozen BK188.out 4
           go_wp2_with (first|((with_reducible refine gate_builtin (b := .append) (xs := #[.tmp 36, .tmp 39]) rfl ?_);(try (refine gate_guard (by rfl) ?_;dsimp only));at_builtin;refine Kd.R_append (Kd.int .i64) (w0 := w) w.heap.size rfl (.tmp 36) (.tmp 39) 30 3 (.int .i64 0) 8 rfl Try.underlying30 info3 rfl (by decide) (by omega) (.slice Ao15 x4_1.length co15) x4_1 ((rd_T36 l0 x9_1).f2) [.int .i64 ((rd_T36 l0 x9_1).f2)] (fun _ => True) (fun _ => False) rfl rfl ?aP (fun _ hk => hk.elim) ?aF ?aO ?aB ?aS ?aL ?_;(case aP => exact rfl);(case aB => exact (by repeat (first|(with_reducible first|exact HB.out|apply xa|apply xb|apply xc|refine below_set ?_ GE188.out)|exact HB.out)));(case aF => exact (fun _ _ => trivial));(case aO => exact (by (with_reducible repeat (first|apply Kd.R_alloc|apply Kd.R_drewN|apply Kd.R_drew));exact HO_4.out));(case aS => exact (below_size (by repeat (first|(with_reducible first|exact HB.out|apply xa|apply xb|apply xc|refine below_set ?_ GE188.out)|exact HB.out))));(case aL => have := LMc14.out;omega);intro v190 w17 ho hb hg hat;rw [← Ny189.out] at ho;have n0_ := Aside0.mk (blk_grown (g := gb188) (o := .cells #[.int .i64 ((rd_T36 l0 x9_1).f0), .int .i64 ((rd_T36 l0 x9_1).f1), .int .i64 ((rd_T36 l0 x9_1).f2), .int .i64 ((rd_T36 l0 x9_1).f3), .int .i64 ((rd_T36 l0 x9_1).f4)] 36 (0, 0)) (by (with_reducible repeat (first|apply blk_drewN|apply blk_drew|apply blk_alloc));exact BK188.out) hg (Kd.R_ne HO_4.out BK188.out (by decide)));have n1_ := Aside0.mk (hb);have n2_ := Aside0.mk (ho);clear BK188;clear HB;clear HO_4;have BK188 := n0_;have HB := n1_;have HO191 := n2_;clear n0_ n1_ n2_;clear ho hb hg hat))
           repeat (go_quiet (first|((with_reducible refine gate_builtin (b := .append) (xs := #[.tmp 36, .tmp 39]) rfl ?_);(try (refine gate_guard (by rfl) ?_;dsimp only));at_builtin;refine Kd.R_append (Kd.int .i64) (w0 := w) w.heap.size rfl (.tmp 36) (.tmp 39) 30 3 (.int .i64 0) 8 rfl Try.underlying30 info3 rfl (by decide) (by omega) (.slice Ao15 x4_1.length co15) x4_1 ((rd_T36 l0 x9_1).f2) [.int .i64 ((rd_T36 l0 x9_1).f2)] (fun _ => True) (fun _ => False) rfl rfl ?aP (fun _ hk => hk.elim) ?aF ?aO ?aB ?aS ?aL ?_;(case aP => exact rfl);(case aB => exact (by repeat (first|(with_reducible first|exact HB.out|apply xa|apply xb|apply xc|refine below_set ?_ GE188.out)|exact HB.out)));(case aF => exact (fun _ _ => trivial));(case aO => exact (by (with_reducible repeat (first|apply Kd.R_alloc|apply Kd.R_drewN|apply Kd.R_drew));exact HO_4.out));(case aS => exact (below_size (by repeat (first|(with_reducible first|exact HB.out|apply xa|apply xb|apply xc|refine below_set ?_ GE188.out)|exact HB.out))));(case aL => have := LMc14.out;omega);intro v190 w17 ho hb hg hat;rw [← Ny189.out] at ho;have n0_ := Aside0.mk (blk_grown (g := gb188) (o := .cells #[.int .i64 ((rd_T36 l0 x9_1).f0), .int .i64 ((rd_T36 l0 x9_1).f1), .int .i64 ((rd_T36 l0 x9_1).f2), .int .i64 ((rd_T36 l0 x9_1).f3), .int .i64 ((rd_T36 l0 x9_1).f4)] 36 (0, 0)) (by (with_reducible repeat (first|apply blk_drewN|apply blk_drew|apply blk_alloc));exact BK188.out) hg (Kd.R_ne HO_4.out BK188.out (by decide)));have n1_ := Aside0.mk (hb);have n2_ := Aside0.mk (ho);clear BK188;clear HB;clear HO_4;have BK188 := n0_;have HB := n1_;have HO191 := n2_;clear n0_ n1_ n2_;clear ho hb hg hat));try go_wp2_with (first|((with_reducible refine gate_builtin (b := .append) (xs := #[.tmp 36, .tmp 39]) rfl ?_);(try (refine gate_guard (by rfl) ?_;dsimp only));at_builtin;refine Kd.R_append (Kd.int .i64) (w0 := w) w.heap.size rfl (.tmp 36) (.tmp 39) 30 3 (.int .i64 0) 8 rfl Try.underlying30 info3 rfl (by decide) (by omega) (.slice Ao15 x4_1.length co15) x4_1 ((rd_T36 l0 x9_1).f2) [.int .i64 ((rd_T36 l0 x9_1).f2)] (fun _ => True) (fun _ => False) rfl rfl ?aP (fun _ hk => hk.elim) ?aF ?aO ?aB ?aS ?aL ?_;(case aP => exact rfl);(case aB => exact (by repeat (first|(with_reducible first|exact HB.out|apply xa|apply xb|apply xc|refine below_set ?_ GE188.out)|exact HB.out)));(case aF => exact (fun _ _ => trivial));(case aO => exact (by (with_reducible repeat (first|apply Kd.R_alloc|apply Kd.R_drewN|apply Kd.R_drew));exact HO_4.out));(case aS => exact (below_size (by repeat (first|(with_reducible first|exact HB.out|apply xa|apply xb|apply xc|refine below_set ?_ GE188.out)|exact HB.out))));(case aL => have := LMc14.out;omega);intro v190 w17 ho hb hg hat;rw [← Ny189.out] at ho;have n0_ := Aside0.mk (blk_grown (g := gb188) (o := .cells #[.int .i64 ((rd_T36 l0 x9_1).f0), .int .i64 ((rd_T36 l0 x9_1).f1), .int .i64 ((rd_T36 l0 x9_1).f2), .int .i64 ((rd_T36 l0 x9_1).f3), .int .i64 ((rd_T36 l0 x9_1).f4)] 36 (0, 0)) (by (with_reducible repeat (first|apply blk_drewN|apply blk_drew|apply blk_alloc));exact BK188.out) hg (Kd.R_ne HO_4.out BK188.out (by decide)));have n1_ := Aside0.mk (hb);have n2_ := Aside0.mk (ho);clear BK188;clear HB;clear HO_4;have BK188 := n0_;have HB := n1_;have HO191 := n2_;clear n0_ n1_ n2_;clear ho hb hg hat)))
           go_roundg kj5
           case measure => have := HK1.out;have := HJ5.out;omega
           case rel => exact ⟨(y189), (wrap64 (x9_1 + 1)), (by first|rfl|(simp;done)|(simp [*];done)), H', ⟨by have := HK1.out;have := HJ5.out;omega⟩, ⟨by (with_reducible repeat (first|apply Kd.R_alloc|apply Kd.R_drewN|apply Kd.R_drew));exact HO191.out⟩, ⟨by repeat (first|(with_reducible first|exact HB.out|apply xa|apply xb|apply xc|refine below_set ?_ GE188.out)|exact HB.out)⟩⟩
          ·rw [if_neg c14] at H
           exact absurd H (by simp)
         ·rw [if_neg c13] at H
          have c13b0 : ((x4_1.length : Int) == 0) = false := beq_eq_false_iff_ne.mpr c13
          have c13b1 : ((x4_1.length : Int) != 0) = true := bne_iff_ne.mpr c13
          have c13b2 : ¬ (x4_1 = []) := fun h_ => c13 (by rw [h_];rfl)
          obtain ⟨ji18, hji18⟩ : ∃ j_ : Int, (wrap64 ((x4_1.length : Int) - 1)) = j_ := ⟨_, rfl⟩
          replace H : (if 0 ≤ (ji18) then (if (ji18) < (x4_1.length : Int) then (if (rd x4_1 (ji18)) = ((rd_T36 l0 x9_1).f2) then (gantt_Went.l0 kj5 a1 x4_1 l0 (l0.length : Int) (wrap64 (x9_1 + 1))) else (if x4_1.length < 17592186044416 then (gantt_Went.l0 kj5 a1 (x4_1 ++ [((rd_T36 l0 x9_1).f2)]) l0 (l0.length : Int) (wrap64 (x9_1 + 1))) else (none))) else (none)) else (none)) = some r := by first|(rw [hji18] at H;exact H)|(simp only [hji18] at H ⊢;exact H)
          have hji18w : (IntKind.i64.wrap ((x4_1.length : Int) - 1)) = ji18 := (i64_w _).trans hji18
          by_cases c19 : 0 ≤ (ji18)
          ·rw [if_pos c19] at H
           have c19b0 : decide (0 ≤ (ji18)) = true := decide_eq_true c19
           clear c19
           by_cases c20 : (ji18) < (x4_1.length : Int)
           ·rw [if_pos c20] at H
            have c20b0 : decide ((ji18) < (x4_1.length : Int)) = true := decide_eq_true c20
            clear c20
            by_cases c21 : (rd x4_1 (ji18)) = ((rd_T36 l0 x9_1).f2)
            ·rw [if_pos c21] at H
             have c21b0 : ((rd x4_1 (ji18)) == ((rd_T36 l0 x9_1).f2)) = true := beq_iff_eq.mpr c21
             have c21b1 : ((rd x4_1 (ji18)) != ((rd_T36 l0 x9_1).f2)) = false := bne_eq_false_iff_eq.mpr c21
             clear c21
             have H' := Aside0.mk H
             clear H
             obtain ⟨Ao22, co22, eo22⟩ := Kd.R_slice HO_4.out
             subst eo22
             have p192 : 0 ≤ ((ji18) : Int) := of_decide_eq_true (by assumption)
             have q192 : (ji18) < (x4_1.length : Int) := of_decide_eq_true (by assumption)
             obtain ⟨ad192, e192, hx192_0⟩ := Kd.at_int (Kd.R_reads' HO_4.out).2.2 (ji18) p192 q192
             cases e192
             replace p192 := eq_true p192
             replace q192 := eq_true q192
             have hcz23_0 : wc.cell? ⟨gb188, 0, none⟩ = some (.int .i64 ((rd_T36 l0 x9_1).f0)) := (blk_cell BK188.out 0).trans rfl
             have hcz23_1 : wc.cell? ⟨gb188, 1, none⟩ = some (.int .i64 ((rd_T36 l0 x9_1).f1)) := (blk_cell BK188.out 1).trans rfl
             have hcz23_2 : wc.cell? ⟨gb188, 2, none⟩ = some (.int .i64 ((rd_T36 l0 x9_1).f2)) := (blk_cell BK188.out 2).trans rfl
             have hcz23_3 : wc.cell? ⟨gb188, 3, none⟩ = some (.int .i64 ((rd_T36 l0 x9_1).f3)) := (blk_cell BK188.out 3).trans rfl
             have hcz23_4 : wc.cell? ⟨gb188, 4, none⟩ = some (.int .i64 ((rd_T36 l0 x9_1).f4)) := (blk_cell BK188.out 4).trans rfl
             have hfz23_0 := blk_frozen BK188.out 0
             have hfz23_1 := blk_frozen BK188.out 1
             have hfz23_2 := blk_frozen BK188.out 2
             have hfz23_3 := blk_frozen BK188.out 3
             have hfz23_4 := blk_frozen BK188.out 4
             go_wp2
             repeat (go_quiet (fail);try go_wp2)
             go_roundg kj5
             case measure => have := HK1.out;have := HJ5.out;omega
             case rel => exact ⟨(x4_1), (wrap64 (x9_1 + 1)), (by first|rfl|(simp;done)|(simp [*];done)), H', ⟨by have := HK1.out;have := HJ5.out;omega⟩, ⟨by (with_reducible repeat (first|apply Kd.R_alloc|apply Kd.R_drewN|apply Kd.R_drew));exact HO_4.out⟩, ⟨by repeat (first|(with_reducible first|exact HB.out|apply xa|apply xb|apply xc|refine below_set ?_ GE188.out)|exact HB.out)⟩⟩
            ·rw [if_neg c21] at H
             have c21b0 : ((rd x4_1 (ji18)) == ((rd_T36 l0 x9_1).f2)) = false := beq_eq_false_iff_ne.mpr c21
             have c21b1 : ((rd x4_1 (ji18)) != ((rd_T36 l0 x9_1).f2)) = true := bne_iff_ne.mpr c21
             by_cases c24 : x4_1.length < 17592186044416
             ·rw [if_pos c24] at H
              have LMc24 := Aside0.mk c24
              clear c24
              obtain ⟨y193, hy193⟩ : ∃ y_ : List Int, y_ = (x4_1 ++ [((rd_T36 l0 x9_1).f2)]) := ⟨_, rfl⟩
              replace H : (gantt_Went.l0 kj5 a1 y193 l0 (l0.length : Int) (wrap64 (x9_1 + 1))) = some r := by first|(rw [hy193];with_reducible exact H)|(have H2_ := (Option.bind_some _ _).symm.trans H;rw [hy193];with_reducible exact H2_)|(have H2_ := (Option.bind_some _ _).symm.trans H;with_reducible exact H2_)|with_reducible exact H|(rw [hy193];exact H)|exact H
              have Ny193 := Aside0.mk hy193
              clear hy193
              have H' := Aside0.mk H
              clear H
              obtain ⟨Ao25, co25, eo25⟩ := Kd.R_slice HO_4.out
              subst eo25
              have p192 : 0 ≤ ((ji18) : Int) := of_decide_eq_true (by assumption)
              have q192 : (ji18) < (x4_1.length : Int) := of_decide_eq_true (by assumption)
              obtain ⟨ad192, e192, hx192_0⟩ := Kd.at_int (Kd.R_reads' HO_4.out).2.2 (ji18) p192 q192
              cases e192
              replace p192 := eq_true p192
              replace q192 := eq_true q192
              have hcz26_0 : wc.cell? ⟨gb188, 0, none⟩ = some (.int .i64 ((rd_T36 l0 x9_1).f0)) := (blk_cell BK188.out 0).trans rfl
              have hcz26_1 : wc.cell? ⟨gb188, 1, none⟩ = some (.int .i64 ((rd_T36 l0 x9_1).f1)) := (blk_cell BK188.out 1).trans rfl
              have hcz26_2 : wc.cell? ⟨gb188, 2, none⟩ = some (.int .i64 ((rd_T36 l0 x9_1).f2)) := (blk_cell BK188.out 2).trans rfl
              have hcz26_3 : wc.cell? ⟨gb188, 3, none⟩ = some (.int .i64 ((rd_T36 l0 x9_1).f3)) := (blk_cell BK188.out 3).trans rfl
              have hcz26_4 : wc.cell? ⟨gb188, 4, none⟩ = some (.int .i64 ((rd_T36 l0 x9_1).f4)) := (blk_cell BK188.out 4).trans rfl
              have hfz26_0 := blk_frozen BK188.out 0
              have hfz26_1 := blk_frozen BK188.out 1
              have hfz26_2 := blk_frozen BK188.out 2
              have hfz26_3 := blk_frozen BK188.out 3
              have hfz26_4 := blk_frozen BK188.out 4
              go_wp2_with (first|((with_reducible refine gate_builtin (b := .append) (xs := #[.tmp 36, .tmp 39]) rfl ?_);(try (refine gate_guard (by rfl) ?_;dsimp only));at_builtin;refine Kd.R_append (Kd.int .i64) (w0 := w) w.heap.size rfl (.tmp 36) (.tmp 39) 30 3 (.int .i64 0) 8 rfl Try.underlying30 info3 rfl (by decide) (by omega) (.slice (some ad192) x4_1.length co25) x4_1 ((rd_T36 l0 x9_1).f2) [.int .i64 ((rd_T36 l0 x9_1).f2)] (fun _ => True) (fun _ => False) rfl rfl ?aP (fun _ hk => hk.elim) ?aF ?aO ?aB ?aS ?aL ?_;(case aP => exact rfl);(case aB => exact (by repeat (first|(with_reducible first|exact HB.out|apply xa|apply xb|apply xc|refine below_set ?_ GE188.out)|exact HB.out)));(case aF => exact (fun _ _ => trivial));(case aO => exact (by (with_reducible repeat (first|apply Kd.R_alloc|apply Kd.R_drewN|apply Kd.R_drew));exact HO_4.out));(case aS => exact (below_size (by repeat (first|(with_reducible first|exact HB.out|apply xa|apply xb|apply xc|refine below_set ?_ GE188.out)|exact HB.out))));(case aL => have := LMc24.out;omega);intro v194 w27 ho hb hg hat;rw [← Ny193.out] at ho;have n0_ := Aside0.mk (blk_grown (g := gb188) (o := .cells #[.int .i64 ((rd_T36 l0 x9_1).f0), .int .i64 ((rd_T36 l0 x9_1).f1), .int .i64 ((rd_T36 l0 x9_1).f2), .int .i64 ((rd_T36 l0 x9_1).f3), .int .i64 ((rd_T36 l0 x9_1).f4)] 36 (0, 0)) (by (with_reducible repeat (first|apply blk_drewN|apply blk_drew|apply blk_alloc));exact BK188.out) hg (Kd.R_ne HO_4.out BK188.out (by decide)));have n1_ := Aside0.mk (hb);have n2_ := Aside0.mk (ho);clear BK188;clear HB;clear HO_4;have BK188 := n0_;have HB := n1_;have HO195 := n2_;clear n0_ n1_ n2_;clear ho hb hg hat))
              repeat (go_quiet (first|((with_reducible refine gate_builtin (b := .append) (xs := #[.tmp 36, .tmp 39]) rfl ?_);(try (refine gate_guard (by rfl) ?_;dsimp only));at_builtin;refine Kd.R_append (Kd.int .i64) (w0 := w) w.heap.size rfl (.tmp 36) (.tmp 39) 30 3 (.int .i64 0) 8 rfl Try.underlying30 info3 rfl (by decide) (by omega) (.slice (some ad192) x4_1.length co25) x4_1 ((rd_T36 l0 x9_1).f2) [.int .i64 ((rd_T36 l0 x9_1).f2)] (fun _ => True) (fun _ => False) rfl rfl ?aP (fun _ hk => hk.elim) ?aF ?aO ?aB ?aS ?aL ?_;(case aP => exact rfl);(case aB => exact (by repeat (first|(with_reducible first|exact HB.out|apply xa|apply xb|apply xc|refine below_set ?_ GE188.out)|exact HB.out)));(case aF => exact (fun _ _ => trivial));(case aO => exact (by (with_reducible repeat (first|apply Kd.R_alloc|apply Kd.R_drewN|apply Kd.R_drew));exact HO_4.out));(case aS => exact (below_size (by repeat (first|(with_reducible first|exact HB.out|apply xa|apply xb|apply xc|refine below_set ?_ GE188.out)|exact HB.out))));(case aL => have := LMc24.out;omega);intro v194 w27 ho hb hg hat;rw [← Ny193.out] at ho;have n0_ := Aside0.mk (blk_grown (g := gb188) (o := .cells #[.int .i64 ((rd_T36 l0 x9_1).f0), .int .i64 ((rd_T36 l0 x9_1).f1), .int .i64 ((rd_T36 l0 x9_1).f2), .int .i64 ((rd_T36 l0 x9_1).f3), .int .i64 ((rd_T36 l0 x9_1).f4)] 36 (0, 0)) (by (with_reducible repeat (first|apply blk_drewN|apply blk_drew|apply blk_alloc));exact BK188.out) hg (Kd.R_ne HO_4.out BK188.out (by decide)));have n1_ := Aside0.mk (hb);have n2_ := Aside0.mk (ho);clear BK188;clear HB;clear HO_4;have BK188 := n0_;have HB := n1_;have HO195 := n2_;clear n0_ n1_ n2_;clear ho hb hg hat));try go_wp2_with (first|((with_reducible refine gate_builtin (b := .append) (xs := #[.tmp 36, .tmp 39]) rfl ?_);(try (refine gate_guard (by rfl) ?_;dsimp only));at_builtin;refine Kd.R_append (Kd.int .i64) (w0 := w) w.heap.size rfl (.tmp 36) (.tmp 39) 30 3 (.int .i64 0) 8 rfl Try.underlying30 info3 rfl (by decide) (by omega) (.slice (some ad192) x4_1.length co25) x4_1 ((rd_T36 l0 x9_1).f2) [.int .i64 ((rd_T36 l0 x9_1).f2)] (fun _ => True) (fun _ => False) rfl rfl ?aP (fun _ hk => hk.elim) ?aF ?aO ?aB ?aS ?aL ?_;(case aP => exact rfl);(case aB => exact (by repeat (first|(with_reducible first|exact HB.out|apply xa|apply xb|apply xc|refine below_set ?_ GE188.out)|exact HB.out)));(case aF => exact (fun _ _ => trivial));(case aO => exact (by (with_reducible repeat (first|apply Kd.R_alloc|apply Kd.R_drewN|apply Kd.R_drew));exact HO_4.out));(case aS => exact (below_size (by repeat (first|(with_reducible first|exact HB.out|apply xa|apply xb|apply xc|refine below_set ?_ GE188.out)|exact HB.out))));(case aL => have := LMc24.out;omega);intro v194 w27 ho hb hg hat;rw [← Ny193.out] at ho;have n0_ := Aside0.mk (blk_grown (g := gb188) (o := .cells #[.int .i64 ((rd_T36 l0 x9_1).f0), .int .i64 ((rd_T36 l0 x9_1).f1), .int .i64 ((rd_T36 l0 x9_1).f2), .int .i64 ((rd_T36 l0 x9_1).f3), .int .i64 ((rd_T36 l0 x9_1).f4)] 36 (0, 0)) (by (with_reducible repeat (first|apply blk_drewN|apply blk_drew|apply blk_alloc));exact BK188.out) hg (Kd.R_ne HO_4.out BK188.out (by decide)));have n1_ := Aside0.mk (hb);have n2_ := Aside0.mk (ho);clear BK188;clear HB;clear HO_4;have BK188 := n0_;have HB := n1_;have HO195 := n2_;clear n0_ n1_ n2_;clear ho hb hg hat)))
              go_roundg kj5
              case measure => have := HK1.out;have := HJ5.out;omega
              case rel => exact ⟨(y193), (wrap64 (x9_1 + 1)), (by first|rfl|(simp;done)|(simp [*];done)), H', ⟨by have := HK1.out;have := HJ5.out;omega⟩, ⟨by (with_reducible repeat (first|apply Kd.R_alloc|apply Kd.R_drewN|apply Kd.R_drew));exact HO195.out⟩, ⟨by repeat (first|(with_reducible first|exact HB.out|apply xa|apply xb|apply xc|refine below_set ?_ GE188.out)|exact HB.out)⟩⟩
             ·rw [if_neg c24] at H
              exact absurd H (by simp)
           ·rw [if_neg c20] at H
            exact absurd H (by simp)
          ·rw [if_neg c19] at H
           exact absurd H (by simp)
     ·rw [if_neg c5] at H
      exact absurd H (by simp)
    ·rw [if_neg c4] at H
     exact absurd H (by simp)
   ·rw [if_neg c3] at H
    have c3b0 : decide (x9_1 < (l0.length : Int)) = false := decide_eq_false c3
    clear c3
    obtain rfl := Option.some.inj H
    go_wp2
    repeat (go_quiet (fail);try go_wp2)
    go_ret
    exact ⟨_, by first|rfl|(simp [errW_none, errW_some] <;> rfl)|(simp [*, errW_none, errW_some] <;> rfl), by (with_reducible repeat (first|apply Kd.R_alloc|apply Kd.R_drewN|apply Kd.R_drew));exact HO_4.out, by repeat (with_reducible first|exact HB.out|apply xa|apply xb|apply xc)⟩

/-! ### pinfoldref30_Went: function 24 -/
def pinfoldref30_Went.l0 : Nat → Int → List Int → List (S36) → Int → Int → Option (List Int)
 | 0, _, _, _, _, _ => none
 | k + 1, x1, x5, x8, x9, x10 => if x10 < x9 then (if 0 ≤ x10 then (if x10 < (x8.length : Int) then (if ((rd_T36 x8 x10).f0) = 2 then (if ((rd_T36 x8 x10).f1) = x1 then (if (x5.length : Int) = 0 then (if x5.length < 17592186044416 then (pinfoldref30_Went.l0 k x1 (x5 ++ [(rd_T36 x8 x10).f2]) x8 x9 (wrap64 (x10 + 1))) else (none)) else (if 0 ≤ (wrap64 ((x5.length : Int) - 1)) then (if (wrap64 ((x5.length : Int) - 1)) < (x5.length : Int) then (if (rd x5 (wrap64 ((x5.length : Int) - 1))) = ((rd_T36 x8 x10).f2) then (pinfoldref30_Went.l0 k x1 x5 x8 x9 (wrap64 (x10 + 1))) else (if x5.length < 17592186044416 then (pinfoldref30_Went.l0 k x1 (x5 ++ [(rd_T36 x8 x10).f2]) x8 x9 (wrap64 (x10 + 1))) else (none))) else (none)) else (none))) else (pinfoldref30_Went.l0 k x1 x5 x8 x9 (wrap64 (x10 + 1)))) else (pinfoldref30_Went.l0 k x1 x5 x8 x9 (wrap64 (x10 + 1)))) else (none)) else (none)) else (some x5)
def pinfoldref30_Went.f (k : Nat) (l0 : List (S36)) (a1 : Int) : Option (List Int) := pinfoldref30_Went.l0 k a1 ([] : List Int) l0 (l0.length : Int) 0
theorem pinfoldref30_Went.mono_l : ∀ k, (∀ y0 y1 y2 y3 y4, LeO (pinfoldref30_Went.l0 k y0 y1 y2 y3 y4) (pinfoldref30_Went.l0 (k + 1) y0 y1 y2 y3 y4))
 | 0 => fun _ _ _ _ _ r h => by simp [pinfoldref30_Went.l0] at h
 | k + 1 => by
  have ih0 := pinfoldref30_Went.mono_l k
  ·intro y0 y1 y2 y3 y4
   unfold pinfoldref30_Went.l0
   repeat' first
   | (with_reducible exact ih0 _ _ _ _ _)
   | (with_reducible exact LeO.refl _)
   | (with_reducible exact LeO.none _)
   | (with_reducible refine LeO.ite ?_ ?_)
   | (with_reducible refine LeO.bind ?_ (fun _ => ?_))
   | exact ih0 _ _ _ _ _
   | exact LeO.none _
   | refine LeO.ite ?_ ?_
   | refine LeO.bind ?_ (fun _ => ?_)
theorem pinfoldref30_Went.mono : ∀ a0 a1 k, LeO (pinfoldref30_Went.f k a0 a1) (pinfoldref30_Went.f (k + 1) a0 a1) := by
 intro a0 a1 k
 have ih0 := pinfoldref30_Went.mono_l k
 unfold pinfoldref30_Went.f
 repeat' first
   | (with_reducible exact ih0 _ _ _ _ _)
   | (with_reducible exact LeO.refl _)
   | (with_reducible exact LeO.none _)
   | (with_reducible refine LeO.ite ?_ ?_)
   | (with_reducible refine LeO.bind ?_ (fun _ => ?_))
   | exact ih0 _ _ _ _ _
   | exact LeO.none _
   | refine LeO.ite ?_ ?_
   | refine LeO.bind ?_ (fun _ => ?_)
set_option maxHeartbeats 8000000 in
set_option maxRecDepth 100000 in
theorem pinfoldref30_Went.calls (k : Nat) (A0 : Option Addr) (c0 : Nat) (l0 : List (S36)) (a1 : Int) (r : List Int) (w : World) (hr0 : Kd.C k36 w A0 l0.length l0) (hc0 : l0.length ≤ c0) (h : pinfoldref30_Went.f k l0 a1 = some r) :
  Calls Try.prog 24 #[.slice A0 l0.length c0, .int .i64 a1] w fun e w' => ∃ v0_ : Value, e = .returned (v0_) ∧ Kd.R (Kd.int .i64) 3 w' w.heap.size (fun _ => True) v0_ r ∧ Below w.heap.size w w' := by
 have hu36 := Try.underlying36
 have HR0 := Aside0.mk hr0
 have HC0 := Aside0.mk hc0
 clear hr0 hc0
 have HB := Aside0.mk (Below.refl w.heap.size w)
 have H : (pinfoldref30_Went.l0 k a1 ([] : List Int) l0 (l0.length : Int) 0) = some r := h
 clear h
 have H' := Aside0.mk H
 clear H
 go_enter Try.func24, Try.ntmps24
 go_wp2
 repeat (go_quiet (fail);try go_wp2)
 go_loopg [5, 10] k (fun kq v5 v10 w' => ∃ (x5_1 : List Int) (x10_1 : Int), v10 = .int .i64 x10_1 ∧ Aside0 (pinfoldref30_Went.l0 kq a1 x5_1 l0 (l0.length : Int) x10_1 = some r) ∧ Aside0 (kq ≤ k) ∧ Aside0 (Kd.R (Kd.int .i64) 3 w' w.heap.size (fun _ => True) v5 x5_1) ∧ Aside0 (Below w.heap.size w w'))
 case atStart => exact ⟨(([] : List Int)), (0), (by first|rfl|(simp;done)|(simp [*];done)), H', ⟨Nat.le_refl _⟩, ⟨by first|exact Kd.R_nil _ _ _ _ _|exact Kd.N_nil _ _ _ _ _|exact Kd.V_nil _ _ _ _ _|exact Kd.Q_nil _ _ _ _ _|exact Kd.S_nil _ _ _ _ _⟩, ⟨by repeat (with_reducible first|exact HB.out|apply xa|apply xb|apply xc)⟩⟩
 case round =>
  clear H'
  try clear c2
  try clear p2
  obtain ⟨x5_1, x10_1, rfl, HA, HK1, HO_5, HB⟩ := hrel
  cases gk with
  | zero => exact absurd HA.out (by simp [pinfoldref30_Went.l0])
  | succ k1 =>
   have H := HA.out
   clear HA
   simp only [pinfoldref30_Went.l0] at H
   by_cases c3 : x10_1 < (l0.length : Int)
   ·rw [if_pos c3] at H
    have c3b0 : decide (x10_1 < (l0.length : Int)) = true := decide_eq_true c3
    clear c3
    by_cases c4 : 0 ≤ x10_1
    ·rw [if_pos c4] at H
     have c4b0 : decide (0 ≤ x10_1) = true := decide_eq_true c4
     clear c4
     by_cases c5 : x10_1 < (l0.length : Int)
     ·rw [if_pos c5] at H
      have c5b0 : decide (x10_1 < (l0.length : Int)) = true := decide_eq_true c5
      clear c5
      by_cases c6 : ((rd_T36 l0 x10_1).f0) = 2
      ·rw [if_pos c6] at H
       have c6b0 : (((rd_T36 l0 x10_1).f0) == 2) = true := beq_iff_eq.mpr c6
       have c6b1 : (((rd_T36 l0 x10_1).f0) != 2) = false := bne_eq_false_iff_eq.mpr c6
       clear c6
       by_cases c7 : ((rd_T36 l0 x10_1).f1) = a1
       ·rw [if_pos c7] at H
        have c7b0 : (((rd_T36 l0 x10_1).f1) == a1) = true := beq_iff_eq.mpr c7
        have c7b1 : (((rd_T36 l0 x10_1).f1) != a1) = false := bne_eq_false_iff_eq.mpr c7
        clear c7
        by_cases c8 : (x5_1.length : Int) = 0
        ·rw [if_pos c8] at H
         have c8b0 : ((x5_1.length : Int) == 0) = true := beq_iff_eq.mpr c8
         have c8b1 : ((x5_1.length : Int) != 0) = false := bne_eq_false_iff_eq.mpr c8
         clear c8
         by_cases c9 : x5_1.length < 17592186044416
         ·rw [if_pos c9] at H
          have LMc9 := Aside0.mk c9
          clear c9
          obtain ⟨y198, hy198⟩ : ∃ y_ : List Int, y_ = (x5_1 ++ [(rd_T36 l0 x10_1).f2]) := ⟨_, rfl⟩
          replace H : (pinfoldref30_Went.l0 k1 a1 y198 l0 (l0.length : Int) (wrap64 (x10_1 + 1))) = some r := by first|(rw [hy198];with_reducible exact H)|(have H2_ := (Option.bind_some _ _).symm.trans H;rw [hy198];with_reducible exact H2_)|(have H2_ := (Option.bind_some _ _).symm.trans H;with_reducible exact H2_)|with_reducible exact H|(rw [hy198];exact H)|exact H
          have Ny198 := Aside0.mk hy198
          clear hy198
          have H' := Aside0.mk H
          clear H
          have p196 : 0 ≤ (x10_1 : Int) := of_decide_eq_true (by assumption)
          have q196 : x10_1 < (l0.length : Int) := of_decide_eq_true (by assumption)
          obtain ⟨ad196, e196, hx196_0, hx196_1, hx196_2, hx196_3, hx196_4⟩ := at_T36 HR0.out x10_1 p196 q196
          cases e196
          replace hx196_0 := (HB.out.cell (World.block_lt_of_cell? w _ hx196_0)).trans hx196_0
          replace hx196_1 := (HB.out.cell (World.block_lt_of_cell? w _ hx196_1)).trans hx196_1
          replace hx196_2 := (HB.out.cell (World.block_lt_of_cell? w _ hx196_2)).trans hx196_2
          replace hx196_3 := (HB.out.cell (World.block_lt_of_cell? w _ hx196_3)).trans hx196_3
          replace hx196_4 := (HB.out.cell (World.block_lt_of_cell? w _ hx196_4)).trans hx196_4
          replace p196 := eq_true p196
          replace q196 := eq_true q196
          go_wp2_with (first|((with_reducible refine gate_dst (N := 7) rfl ?_);(try (refine gate_guard (by rfl) ?_;dsimp only));refine box_event ?hg (N := 7) ?hd (cs := #[.int .i64 0, .int .i64 0, .int .i64 0, .int .i64 0, .int .i64 0]) (t := 36) ?hr ?_;(case hd => rfl);(case hg => rfl);(case hr => first|(go_simp;done)|(go_simp;rfl));intro gb197 hg w10 hbox hb;have n0_ := Aside0.mk (Kd.R_below (by (with_reducible repeat (first|apply Kd.R_alloc|apply Kd.R_drewN|apply Kd.R_drew));exact HO_5.out) hb);have n1_ := Aside0.mk (below_step (by repeat (with_reducible first|exact HB.out|apply xa|apply xb|apply xc)) hb);have n2_ := Aside0.mk (hbox);have n3_ := Aside0.mk ((by rw [hg];exact (below_size (by repeat (with_reducible first|exact HB.out|apply xa|apply xb|apply xc))) : w.heap.size ≤ gb197));have n4_ := Aside0.mk ((by rw [hg];exact (below_size (by repeat (with_reducible first|exact HB.out|apply xa|apply xb|apply xc))) : w.heap.size ≤ gb197));clear HO_5;clear HB;have HO_5 := n0_;have HB := n1_;have BK197 := n2_;have GW197 := n3_;have GE197 := n4_;clear n0_ n1_ n2_ n3_ n4_;clear hb hbox hg;have hcz11_0 : w10.cell? ⟨gb197, 0, none⟩ = some (.int .i64 0) := (blk_cell BK197.out 0).trans rfl;have hcz11_1 : w10.cell? ⟨gb197, 1, none⟩ = some (.int .i64 0) := (blk_cell BK197.out 1).trans rfl;have hcz11_2 : w10.cell? ⟨gb197, 2, none⟩ = some (.int .i64 0) := (blk_cell BK197.out 2).trans rfl;have hcz11_3 : w10.cell? ⟨gb197, 3, none⟩ = some (.int .i64 0) := (blk_cell BK197.out 3).trans rfl;have hcz11_4 : w10.cell? ⟨gb197, 4, none⟩ = some (.int .i64 0) := (blk_cell BK197.out 4).trans rfl;have hfz11_0 := blk_frozen BK197.out 0;have hfz11_1 := blk_frozen BK197.out 1;have hfz11_2 := blk_frozen BK197.out 2;have hfz11_3 := blk_frozen BK197.out 3;have hfz11_4 := blk_frozen BK197.out 4;obtain ⟨Ao12, co12, eo12⟩ := Kd.R_slice HO_5.out;subst eo12)|((with_reducible refine gate_builtin (b := .append) (xs := #[.tmp 39, .tmp 42]) rfl ?_);(try (refine gate_guard (by rfl) ?_;dsimp only));at_builtin;refine Kd.R_append (Kd.int .i64) (w0 := w) w.heap.size rfl (.tmp 39) (.tmp 42) 30 3 (.int .i64 0) 8 rfl Try.underlying30 info3 rfl (by decide) (by omega) (.slice Ao12 x5_1.length co12) x5_1 ((rd_T36 l0 x10_1).f2) [.int .i64 ((rd_T36 l0 x10_1).f2)] (fun _ => True) (fun _ => False) rfl (by first|(go_simp;done)|(go_simp;rfl)) ?aP (fun _ hk => hk.elim) ?aF ?aO ?aB ?aS ?aL ?_;(case aP => exact rfl);(case aB => exact (by repeat (first|(with_reducible first|exact HB.out|apply xa|apply xb|apply xc|refine below_set ?_ GE197.out)|exact HB.out)));(case aF => exact (fun _ _ => trivial));(case aO => exact (by (with_reducible repeat (first|apply Kd.R_alloc|apply Kd.R_drewN|apply Kd.R_drew));exact Kd.R_mono (Kd.R_far (p := ⟨gb197, 4, none⟩) (Kd.R_far (p := ⟨gb197, 3, none⟩) (Kd.R_far (p := ⟨gb197, 2, none⟩) (Kd.R_far (p := ⟨gb197, 1, none⟩) (Kd.R_far (p := ⟨gb197, 0, none⟩) (Kd.R_types HO_5.out BK197.out (by decide)) (fun _ hk => hk.2) (.int .i64 ((rd_T36 l0 x10_1).f0))) (fun _ hk => hk.2) (.int .i64 ((rd_T36 l0 x10_1).f1))) (fun _ hk => hk.2) (.int .i64 ((rd_T36 l0 x10_1).f2))) (fun _ hk => hk.2) (.int .i64 ((rd_T36 l0 x10_1).f3))) (fun _ hk => hk.2) (.int .i64 ((rd_T36 l0 x10_1).f4))) (fun _ hk => trivial)));(case aS => exact (below_size (by repeat (first|(with_reducible first|exact HB.out|apply xa|apply xb|apply xc|refine below_set ?_ GE197.out)|exact HB.out))));(case aL => have := LMc9.out;omega);intro v199 w13 ho hb hg hat;rw [← Ny198.out] at ho;have n0_ := Aside0.mk (blk_grown (g := gb197) (o := .cells #[.int .i64 ((rd_T36 l0 x10_1).f0), .int .i64 ((rd_T36 l0 x10_1).f1), .int .i64 ((rd_T36 l0 x10_1).f2), .int .i64 ((rd_T36 l0 x10_1).f3), .int .i64 ((rd_T36 l0 x10_1).f4)] 36 (0, 0)) (by (with_reducible repeat (first|apply blk_drewN|apply blk_drew|apply blk_alloc));refine blk_put (cs := #[.int .i64 ((rd_T36 l0 x10_1).f0), .int .i64 ((rd_T36 l0 x10_1).f1), .int .i64 ((rd_T36 l0 x10_1).f2), .int .i64 ((rd_T36 l0 x10_1).f3), .int .i64 0]) ?_ 4 _ rfl;(with_reducible repeat (first|apply blk_drewN|apply blk_drew|apply blk_alloc));refine blk_put (cs := #[.int .i64 ((rd_T36 l0 x10_1).f0), .int .i64 ((rd_T36 l0 x10_1).f1), .int .i64 ((rd_T36 l0 x10_1).f2), .int .i64 0, .int .i64 0]) ?_ 3 _ rfl;(with_reducible repeat (first|apply blk_drewN|apply blk_drew|apply blk_alloc));refine blk_put (cs := #[.int .i64 ((rd_T36 l0 x10_1).f0), .int .i64 ((rd_T36 l0 x10_1).f1), .int .i64 0, .int .i64 0, .int .i64 0]) ?_ 2 _ rfl;(with_reducible repeat (first|apply blk_drewN|apply blk_drew|apply blk_alloc));refine blk_put (cs := #[.int .i64 ((rd_T36 l0 x10_1).f0), .int .i64 0, .int .i64 0, .int .i64 0, .int .i64 0]) ?_ 1 _ rfl;(with_reducible repeat (first|apply blk_drewN|apply blk_drew|apply blk_alloc));refine blk_put (cs := #[.int .i64 0, .int .i64 0, .int .i64 0, .int .i64 0, .int .i64 0]) ?_ 0 _ rfl;(with_reducible repeat (first|apply blk_drewN|apply blk_drew|apply blk_alloc));exact BK197.out) hg (Kd.R_ne HO_5.out BK197.out (by decide)));have n1_ := Aside0.mk (hb);have n2_ := Aside0.mk (ho);clear BK197;clear HB;clear HO_5;have BK197 := n0_;have HB := n1_;have HO200 := n2_;clear n0_ n1_ n2_;clear ho hb hg hat))
          repeat (go_quiet (first|((with_reducible refine gate_dst (N := 7) rfl ?_);(try (refine gate_guard (by rfl) ?_;dsimp only));refine box_event ?hg (N := 7) ?hd (cs := #[.int .i64 0, .int .i64 0, .int .i64 0, .int .i64 0, .int .i64 0]) (t := 36) ?hr ?_;(case hd => rfl);(case hg => rfl);(case hr => first|(go_simp;done)|(go_simp;rfl));intro gb197 hg w10 hbox hb;have n0_ := Aside0.mk (Kd.R_below (by (with_reducible repeat (first|apply Kd.R_alloc|apply Kd.R_drewN|apply Kd.R_drew));exact HO_5.out) hb);have n1_ := Aside0.mk (below_step (by repeat (with_reducible first|exact HB.out|apply xa|apply xb|apply xc)) hb);have n2_ := Aside0.mk (hbox);have n3_ := Aside0.mk ((by rw [hg];exact (below_size (by repeat (with_reducible first|exact HB.out|apply xa|apply xb|apply xc))) : w.heap.size ≤ gb197));have n4_ := Aside0.mk ((by rw [hg];exact (below_size (by repeat (with_reducible first|exact HB.out|apply xa|apply xb|apply xc))) : w.heap.size ≤ gb197));clear HO_5;clear HB;have HO_5 := n0_;have HB := n1_;have BK197 := n2_;have GW197 := n3_;have GE197 := n4_;clear n0_ n1_ n2_ n3_ n4_;clear hb hbox hg;have hcz11_0 : w10.cell? ⟨gb197, 0, none⟩ = some (.int .i64 0) := (blk_cell BK197.out 0).trans rfl;have hcz11_1 : w10.cell? ⟨gb197, 1, none⟩ = some (.int .i64 0) := (blk_cell BK197.out 1).trans rfl;have hcz11_2 : w10.cell? ⟨gb197, 2, none⟩ = some (.int .i64 0) := (blk_cell BK197.out 2).trans rfl;have hcz11_3 : w10.cell? ⟨gb197, 3, none⟩ = some (.int .i64 0) := (blk_cell BK197.out 3).trans rfl;have hcz11_4 : w10.cell? ⟨gb197, 4, none⟩ = some (.int .i64 0) := (blk_cell BK197.out 4).trans rfl;have hfz11_0 := blk_frozen BK197.out 0;have hfz11_1 := blk_frozen BK197.out 1;have hfz11_2 := blk_frozen BK197.out 2;have hfz11_3 := blk_frozen BK197.out 3;have hfz11_4 := blk_frozen BK197.out 4;obtain ⟨Ao12, co12, eo12⟩ := Kd.R_slice HO_5.out;subst eo12)|((with_reducible refine gate_builtin (b := .append) (xs := #[.tmp 39, .tmp 42]) rfl ?_);(try (refine gate_guard (by rfl) ?_;dsimp only));at_builtin;refine Kd.R_append (Kd.int .i64) (w0 := w) w.heap.size rfl (.tmp 39) (.tmp 42) 30 3 (.int .i64 0) 8 rfl Try.underlying30 info3 rfl (by decide) (by omega) (.slice Ao12 x5_1.length co12) x5_1 ((rd_T36 l0 x10_1).f2) [.int .i64 ((rd_T36 l0 x10_1).f2)] (fun _ => True) (fun _ => False) rfl (by first|(go_simp;done)|(go_simp;rfl)) ?aP (fun _ hk => hk.elim) ?aF ?aO ?aB ?aS ?aL ?_;(case aP => exact rfl);(case aB => exact (by repeat (first|(with_reducible first|exact HB.out|apply xa|apply xb|apply xc|refine below_set ?_ GE197.out)|exact HB.out)));(case aF => exact (fun _ _ => trivial));(case aO => exact (by (with_reducible repeat (first|apply Kd.R_alloc|apply Kd.R_drewN|apply Kd.R_drew));exact Kd.R_mono (Kd.R_far (p := ⟨gb197, 4, none⟩) (Kd.R_far (p := ⟨gb197, 3, none⟩) (Kd.R_far (p := ⟨gb197, 2, none⟩) (Kd.R_far (p := ⟨gb197, 1, none⟩) (Kd.R_far (p := ⟨gb197, 0, none⟩) (Kd.R_types HO_5.out BK197.out (by decide)) (fun _ hk => hk.2) (.int .i64 ((rd_T36 l0 x10_1).f0))) (fun _ hk => hk.2) (.int .i64 ((rd_T36 l0 x10_1).f1))) (fun _ hk => hk.2) (.int .i64 ((rd_T36 l0 x10_1).f2))) (fun _ hk => hk.2) (.int .i64 ((rd_T36 l0 x10_1).f3))) (fun _ hk => hk.2) (.int .i64 ((rd_T36 l0 x10_1).f4))) (fun _ hk => trivial)));(case aS => exact (below_size (by repeat (first|(with_reducible first|exact HB.out|apply xa|apply xb|apply xc|refine below_set ?_ GE197.out)|exact HB.out))));(case aL => have := LMc9.out;omega);intro v199 w13 ho hb hg hat;rw [← Ny198.out] at ho;have n0_ := Aside0.mk (blk_grown (g := gb197) (o := .cells #[.int .i64 ((rd_T36 l0 x10_1).f0), .int .i64 ((rd_T36 l0 x10_1).f1), .int .i64 ((rd_T36 l0 x10_1).f2), .int .i64 ((rd_T36 l0 x10_1).f3), .int .i64 ((rd_T36 l0 x10_1).f4)] 36 (0, 0)) (by (with_reducible repeat (first|apply blk_drewN|apply blk_drew|apply blk_alloc));refine blk_put (cs := #[.int .i64 ((rd_T36 l0 x10_1).f0), .int .i64 ((rd_T36 l0 x10_1).f1), .int .i64 ((rd_T36 l0 x10_1).f2), .int .i64 ((rd_T36 l0 x10_1).f3), .int .i64 0]) ?_ 4 _ rfl;(with_reducible repeat (first|apply blk_drewN|apply blk_drew|apply blk_alloc));refine blk_put (cs := #[.int .i64 ((rd_T36 l0 x10_1).f0), .int .i64 ((rd_T36 l0 x10_1).f1), .int .i64 ((rd_T36 l0 x10_1).f2), .int .i64 0, .int .i64 0]) ?_ 3 _ rfl;(with_reducible repeat (first|apply blk_drewN|apply blk_drew|apply blk_alloc));refine blk_put (cs := #[.int .i64 ((rd_T36 l0 x10_1).f0), .int .i64 ((rd_T36 l0 x10_1).f1), .int .i64 0, .int .i64 0, .int .i64 0]) ?_ 2 _ rfl;(with_reducible repeat (first|apply blk_drewN|apply blk_drew|apply blk_alloc));refine blk_put (cs := #[.int .i64 ((rd_T36 l0 x10_1).f0), .int .i64 0, .int .i64 0, .int .i64 0, .int .i64 0]) ?_ 1 _ rfl;(with_reducible repeat (first|apply blk_drewN|apply blk_drew|apply blk_alloc));refine blk_put (cs := #[.int .i64 0, .int .i64 0, .int .i64 0, .int .i64 0, .int .i64 0]) ?_ 0 _ rfl;(with_reducible repeat (first|apply blk_drewN|apply blk_drew|apply blk_alloc));exact BK197.out) hg (Kd.R_ne HO_5.out BK197.out (by decide)));have n1_ := Aside0.mk (hb);have n2_ := Aside0.mk (ho);clear BK197;clear HB;clear HO_5;have BK197 := n0_;have HB := n1_;have HO200 := n2_;clear n0_ n1_ n2_;clear ho hb hg hat));try go_wp2_with (first|((with_reducible refine gate_dst (N := 7) rfl ?_);(try (refine gate_guard (by rfl) ?_;dsimp only));refine box_event ?hg (N := 7) ?hd (cs := #[.int .i64 0, .int .i64 0, .int .i64 0, .int .i64 0, .int .i64 0]) (t := 36) ?hr ?_;(case hd => rfl);(case hg => rfl);(case hr => first|(go_simp;done)|(go_simp;rfl));intro gb197 hg w10 hbox hb;have n0_ := Aside0.mk (Kd.R_below (by (with_reducible repeat (first|apply Kd.R_alloc|apply Kd.R_drewN|apply Kd.R_drew));exact HO_5.out) hb);have n1_ := Aside0.mk (below_step (by repeat (with_reducible first|exact HB.out|apply xa|apply xb|apply xc)) hb);have n2_ := Aside0.mk (hbox);have n3_ := Aside0.mk ((by rw [hg];exact (below_size (by repeat (with_reducible first|exact HB.out|apply xa|apply xb|apply xc))) : w.heap.size ≤ gb197));have n4_ := Aside0.mk ((by rw [hg];exact (below_size (by repeat (with_reducible first|exact HB.out|apply xa|apply xb|apply xc))) : w.heap.size ≤ gb197));clear HO_5;clear HB;have HO_5 := n0_;have HB := n1_;have BK197 := n2_;have GW197 := n3_;have GE197 := n4_;clear n0_ n1_ n2_ n3_ n4_;clear hb hbox hg;have hcz11_0 : w10.cell? ⟨gb197, 0, none⟩ = some (.int .i64 0) := (blk_cell BK197.out 0).trans rfl;have hcz11_1 : w10.cell? ⟨gb197, 1, none⟩ = some (.int .i64 0) := (blk_cell BK197.out 1).trans rfl;have hcz11_2 : w10.cell? ⟨gb197, 2, none⟩ = some (.int .i64 0) := (blk_cell BK197.out 2).trans rfl;have hcz11_3 : w10.cell? ⟨gb197, 3, none⟩ = some (.int .i64 0) := (blk_cell BK197.out 3).trans rfl;have hcz11_4 : w10.cell? ⟨gb197, 4, none⟩ = some (.int .i64 0) := (blk_cell BK197.out 4).trans rfl;have hfz11_0 := blk_frozen BK197.out 0;have hfz11_1 := blk_frozen BK197.out 1;have hfz11_2 := blk_frozen BK197.out 2;have hfz11_3 := blk_frozen BK197.out 3;have hfz11_4 := blk_frozen BK197.out 4;obtain ⟨Ao12, co12, eo12⟩ := Kd.R_slice HO_5.out;subst eo12)|((with_reducible refine gate_builtin (b := .append) (xs := #[.tmp 39, .tmp 42]) rfl ?_);(try (refine gate_guard (by rfl) ?_;dsimp only));at_builtin;refine Kd.R_append (Kd.int .i64) (w0 := w) w.heap.size rfl (.tmp 39) (.tmp 42) 30 3 (.int .i64 0) 8 rfl Try.underlying30 info3 rfl (by decide) (by omega) (.slice Ao12 x5_1.length co12) x5_1 ((rd_T36 l0 x10_1).f2) [.int .i64 ((rd_T36 l0 x10_1).f2)] (fun _ => True) (fun _ => False) rfl (by first|(go_simp;done)|(go_simp;rfl)) ?aP (fun _ hk => hk.elim) ?aF ?aO ?aB ?aS ?aL ?_;(case aP => exact rfl);(case aB => exact (by repeat (first|(with_reducible first|exact HB.out|apply xa|apply xb|apply xc|refine below_set ?_ GE197.out)|exact HB.out)));(case aF => exact (fun _ _ => trivial));(case aO => exact (by (with_reducible repeat (first|apply Kd.R_alloc|apply Kd.R_drewN|apply Kd.R_drew));exact Kd.R_mono (Kd.R_far (p := ⟨gb197, 4, none⟩) (Kd.R_far (p := ⟨gb197, 3, none⟩) (Kd.R_far (p := ⟨gb197, 2, none⟩) (Kd.R_far (p := ⟨gb197, 1, none⟩) (Kd.R_far (p := ⟨gb197, 0, none⟩) (Kd.R_types HO_5.out BK197.out (by decide)) (fun _ hk => hk.2) (.int .i64 ((rd_T36 l0 x10_1).f0))) (fun _ hk => hk.2) (.int .i64 ((rd_T36 l0 x10_1).f1))) (fun _ hk => hk.2) (.int .i64 ((rd_T36 l0 x10_1).f2))) (fun _ hk => hk.2) (.int .i64 ((rd_T36 l0 x10_1).f3))) (fun _ hk => hk.2) (.int .i64 ((rd_T36 l0 x10_1).f4))) (fun _ hk => trivial)));(case aS => exact (below_size (by repeat (first|(with_reducible first|exact HB.out|apply xa|apply xb|apply xc|refine below_set ?_ GE197.out)|exact HB.out))));(case aL => have := LMc9.out;omega);intro v199 w13 ho hb hg hat;rw [← Ny198.out] at ho;have n0_ := Aside0.mk (blk_grown (g := gb197) (o := .cells #[.int .i64 ((rd_T36 l0 x10_1).f0), .int .i64 ((rd_T36 l0 x10_1).f1), .int .i64 ((rd_T36 l0 x10_1).f2), .int .i64 ((rd_T36 l0 x10_1).f3), .int .i64 ((rd_T36 l0 x10_1).f4)] 36 (0, 0)) (by (with_reducible repeat (first|apply blk_drewN|apply blk_drew|apply blk_alloc));refine blk_put (cs := #[.int .i64 ((rd_T36 l0 x10_1).f0), .int .i64 ((rd_T36 l0 x10_1).f1), .int .i64 ((rd_T36 l0 x10_1).f2), .int .i64 ((rd_T36 l0 x10_1).f3), .int .i64 0]) ?_ 4 _ rfl;(with_reducible repeat (first|apply blk_drewN|apply blk_drew|apply blk_alloc));refine blk_put (cs := #[.int .i64 ((rd_T36 l0 x10_1).f0), .int .i64 ((rd_T36 l0 x10_1).f1), .int .i64 ((rd_T36 l0 x10_1).f2), .int .i64 0, .int .i64 0]) ?_ 3 _ rfl;(with_reducible repeat (first|apply blk_drewN|apply blk_drew|apply blk_alloc));refine blk_put (cs := #[.int .i64 ((rd_T36 l0 x10_1).f0), .int .i64 ((rd_T36 l0 x10_1).f1), .int .i64 0, .int .i64 0, .int .i64 0]) ?_ 2 _ rfl;(with_reducible repeat (first|apply blk_drewN|apply blk_drew|apply blk_alloc));refine blk_put (cs := #[.int .i64 ((rd_T36 l0 x10_1).f0), .int .i64 0, .int .i64 0, .int .i64 0, .int .i64 0]) ?_ 1 _ rfl;(with_reducible repeat (first|apply blk_drewN|apply blk_drew|apply blk_alloc));refine blk_put (cs := #[.int .i64 0, .int .i64 0, .int .i64 0, .int .i64 0, .int .i64 0]) ?_ 0 _ rfl;(with_reducible repeat (first|apply blk_drewN|apply blk_drew|apply blk_alloc));exact BK197.out) hg (Kd.R_ne HO_5.out BK197.out (by decide)));have n1_ := Aside0.mk (hb);have n2_ := Aside0.mk (ho);clear BK197;clear HB;clear HO_5;have BK197 := n0_;have HB := n1_;have HO200 := n2_;clear n0_ n1_ n2_;clear ho hb hg hat)))
          (try simp only [px_add0] at *)
          go_roundg k1
          case measure => have := HK1.out;omega
          case rel => exact ⟨(y198), (wrap64 (x10_1 + 1)), (by first|rfl|(simp;done)|(simp [*];done)), H', ⟨by have := HK1.out;omega⟩, ⟨by (with_reducible repeat (first|apply Kd.R_alloc|apply Kd.R_drewN|apply Kd.R_drew));exact HO200.out⟩, ⟨by repeat (first|(with_reducible first|exact HB.out|apply xa|apply xb|apply xc|refine below_set ?_ GE197.out)|exact HB.out)⟩⟩
         ·rw [if_neg c9] at H
          exact absurd H (by simp)
        ·rw [if_neg c8] at H
         have c8b0 : ((x5_1.length : Int) == 0) = false := beq_eq_false_iff_ne.mpr c8
         have c8b1 : ((x5_1.length : Int) != 0) = true := bne_iff_ne.mpr c8
         have c8b2 : ¬ (x5_1 = []) := fun h_ => c8 (by rw [h_];rfl)
         obtain ⟨ji14, hji14⟩ : ∃ j_ : Int, (wrap64 ((x5_1.length : Int) - 1)) = j_ := ⟨_, rfl⟩
         replace H : (if 0 ≤ (ji14) then (if (ji14) < (x5_1.length : Int) then (if (rd x5_1 (ji14)) = ((rd_T36 l0 x10_1).f2) then (pinfoldref30_Went.l0 k1 a1 x5_1 l0 (l0.length : Int) (wrap64 (x10_1 + 1))) else (if x5_1.length < 17592186044416 then (pinfoldref30_Went.l0 k1 a1 (x5_1 ++ [(rd_T36 l0 x10_1).f2]) l0 (l0.length : Int) (wrap64 (x10_1 + 1))) else (none))) else (none)) else (none)) = some r := by first|(rw [hji14] at H;exact H)|(simp only [hji14] at H ⊢;exact H)
         have hji14w : (IntKind.i64.wrap ((x5_1.length : Int) - 1)) = ji14 := (i64_w _).trans hji14
         by_cases c15 : 0 ≤ (ji14)
         ·rw [if_pos c15] at H
          have c15b0 : decide (0 ≤ (ji14)) = true := decide_eq_true c15
          clear c15
          by_cases c16 : (ji14) < (x5_1.length : Int)
          ·rw [if_pos c16] at H
           have c16b0 : decide ((ji14) < (x5_1.length : Int)) = true := decide_eq_true c16
           clear c16
           by_cases c17 : (rd x5_1 (ji14)) = ((rd_T36 l0 x10_1).f2)
           ·rw [if_pos c17] at H
            have c17b0 : ((rd x5_1 (ji14)) == ((rd_T36 l0 x10_1).f2)) = true := beq_iff_eq.mpr c17
            have c17b1 : ((rd x5_1 (ji14)) != ((rd_T36 l0 x10_1).f2)) = false := bne_eq_false_iff_eq.mpr c17
            clear c17
            have H' := Aside0.mk H
            clear H
            have p196 : 0 ≤ (x10_1 : Int) := of_decide_eq_true (by assumption)
            have q196 : x10_1 < (l0.length : Int) := of_decide_eq_true (by assumption)
            obtain ⟨ad196, e196, hx196_0, hx196_1, hx196_2, hx196_3, hx196_4⟩ := at_T36 HR0.out x10_1 p196 q196
            cases e196
            replace hx196_0 := (HB.out.cell (World.block_lt_of_cell? w _ hx196_0)).trans hx196_0
            replace hx196_1 := (HB.out.cell (World.block_lt_of_cell? w _ hx196_1)).trans hx196_1
            replace hx196_2 := (HB.out.cell (World.block_lt_of_cell? w _ hx196_2)).trans hx196_2
            replace hx196_3 := (HB.out.cell (World.block_lt_of_cell? w _ hx196_3)).trans hx196_3
            replace hx196_4 := (HB.out.cell (World.block_lt_of_cell? w _ hx196_4)).trans hx196_4
            replace p196 := eq_true p196
            replace q196 := eq_true q196
            go_wp2_with (first|((with_reducible refine gate_dst (N := 7) rfl ?_);(try (refine gate_guard (by rfl) ?_;dsimp only));refine box_event ?hg (N := 7) ?hd (cs := #[.int .i64 0, .int .i64 0, .int .i64 0, .int .i64 0, .int .i64 0]) (t := 36) ?hr ?_;(case hd => rfl);(case hg => rfl);(case hr => first|(go_simp;done)|(go_simp;rfl));intro gb197 hg w18 hbox hb;have n0_ := Aside0.mk (Kd.R_below (by (with_reducible repeat (first|apply Kd.R_alloc|apply Kd.R_drewN|apply Kd.R_drew));exact HO_5.out) hb);have n1_ := Aside0.mk (below_step (by repeat (with_reducible first|exact HB.out|apply xa|apply xb|apply xc)) hb);have n2_ := Aside0.mk (hbox);have n3_ := Aside0.mk ((by rw [hg];exact (below_size (by repeat (with_reducible first|exact HB.out|apply xa|apply xb|apply xc))) : w.heap.size ≤ gb197));have n4_ := Aside0.mk ((by rw [hg];exact (below_size (by repeat (with_reducible first|exact HB.out|apply xa|apply xb|apply xc))) : w.heap.size ≤ gb197));clear HO_5;clear HB;have HO_5 := n0_;have HB := n1_;have BK197 := n2_;have GW197 := n3_;have GE197 := n4_;clear n0_ n1_ n2_ n3_ n4_;clear hb hbox hg;have hcz19_0 : w18.cell? ⟨gb197, 0, none⟩ = some (.int .i64 0) := (blk_cell BK197.out 0).trans rfl;have hcz19_1 : w18.cell? ⟨gb197, 1, none⟩ = some (.int .i64 0) := (blk_cell BK197.out 1).trans rfl;have hcz19_2 : w18.cell? ⟨gb197, 2, none⟩ = some (.int .i64 0) := (blk_cell BK197.out 2).trans rfl;have hcz19_3 : w18.cell? ⟨gb197, 3, none⟩ = some (.int .i64 0) := (blk_cell BK197.out 3).trans rfl;have hcz19_4 : w18.cell? ⟨gb197, 4, none⟩ = some (.int .i64 0) := (blk_cell BK197.out 4).trans rfl;have hfz19_0 := blk_frozen BK197.out 0;have hfz19_1 := blk_frozen BK197.out 1;have hfz19_2 := blk_frozen BK197.out 2;have hfz19_3 := blk_frozen BK197.out 3;have hfz19_4 := blk_frozen BK197.out 4;obtain ⟨Ao20, co20, eo20⟩ := Kd.R_slice HO_5.out;subst eo20;have p201 : 0 ≤ ((ji14) : Int) := of_decide_eq_true (by assumption);have q201 : (ji14) < (x5_1.length : Int) := of_decide_eq_true (by assumption);obtain ⟨ad201, e201, hx201_0⟩ := Kd.at_int (Kd.R_reads' HO_5.out).2.2 (ji14) p201 q201;cases e201;have hn201_0 : ad201.block ≠ gb197 := Kd.own_blk (Kd.R_ne HO_5.out BK197.out (by decide));have hn201_1 : ad201.block ≠ gb197 := Kd.own_blk (Kd.R_ne HO_5.out BK197.out (by decide));have hn201_2 : ad201.block ≠ gb197 := Kd.own_blk (Kd.R_ne HO_5.out BK197.out (by decide));have hn201_3 : ad201.block ≠ gb197 := Kd.own_blk (Kd.R_ne HO_5.out BK197.out (by decide));have hn201_4 : ad201.block ≠ gb197 := Kd.own_blk (Kd.R_ne HO_5.out BK197.out (by decide));replace hx201_0 := (cell_far (p := ⟨gb197, 0, none⟩) (by first|(rw [add_block];exact hn201_0)|(show (Addr.add _ _).block ≠ _;rw [add_block];exact hn201_0)|exact hn201_0) (.int .i64 ((rd_T36 l0 x10_1).f0))).trans hx201_0;replace hx201_0 := (cell_far (p := ⟨gb197, 1, none⟩) (by first|(rw [add_block];exact hn201_1)|(show (Addr.add _ _).block ≠ _;rw [add_block];exact hn201_1)|exact hn201_1) (.int .i64 ((rd_T36 l0 x10_1).f1))).trans hx201_0;replace hx201_0 := (cell_far (p := ⟨gb197, 2, none⟩) (by first|(rw [add_block];exact hn201_2)|(show (Addr.add _ _).block ≠ _;rw [add_block];exact hn201_2)|exact hn201_2) (.int .i64 ((rd_T36 l0 x10_1).f2))).trans hx201_0;replace hx201_0 := (cell_far (p := ⟨gb197, 3, none⟩) (by first|(rw [add_block];exact hn201_3)|(show (Addr.add _ _).block ≠ _;rw [add_block];exact hn201_3)|exact hn201_3) (.int .i64 ((rd_T36 l0 x10_1).f3))).trans hx201_0;replace hx201_0 := (cell_far (p := ⟨gb197, 4, none⟩) (by first|(rw [add_block];exact hn201_4)|(show (Addr.add _ _).block ≠ _;rw [add_block];exact hn201_4)|exact hn201_4) (.int .i64 ((rd_T36 l0 x10_1).f4))).trans hx201_0;(try have hy201_0 := fun (n_ : Nat) => (show (((((((w18.drewN n_).setCell ⟨gb197, 0, none⟩ (.int .i64 ((rd_T36 l0 x10_1).f0))).setCell ⟨gb197, 1, none⟩ (.int .i64 ((rd_T36 l0 x10_1).f1))).setCell ⟨gb197, 2, none⟩ (.int .i64 ((rd_T36 l0 x10_1).f2))).setCell ⟨gb197, 3, none⟩ (.int .i64 ((rd_T36 l0 x10_1).f3))).setCell ⟨gb197, 4, none⟩ (.int .i64 ((rd_T36 l0 x10_1).f4)))).cell? _ = some _ from hx201_0));clear hn201_0;clear hn201_1;clear hn201_2;clear hn201_3;clear hn201_4;replace p201 := eq_true p201;replace q201 := eq_true q201))
            repeat (go_quiet (first|((with_reducible refine gate_dst (N := 7) rfl ?_);(try (refine gate_guard (by rfl) ?_;dsimp only));refine box_event ?hg (N := 7) ?hd (cs := #[.int .i64 0, .int .i64 0, .int .i64 0, .int .i64 0, .int .i64 0]) (t := 36) ?hr ?_;(case hd => rfl);(case hg => rfl);(case hr => first|(go_simp;done)|(go_simp;rfl));intro gb197 hg w18 hbox hb;have n0_ := Aside0.mk (Kd.R_below (by (with_reducible repeat (first|apply Kd.R_alloc|apply Kd.R_drewN|apply Kd.R_drew));exact HO_5.out) hb);have n1_ := Aside0.mk (below_step (by repeat (with_reducible first|exact HB.out|apply xa|apply xb|apply xc)) hb);have n2_ := Aside0.mk (hbox);have n3_ := Aside0.mk ((by rw [hg];exact (below_size (by repeat (with_reducible first|exact HB.out|apply xa|apply xb|apply xc))) : w.heap.size ≤ gb197));have n4_ := Aside0.mk ((by rw [hg];exact (below_size (by repeat (with_reducible first|exact HB.out|apply xa|apply xb|apply xc))) : w.heap.size ≤ gb197));clear HO_5;clear HB;have HO_5 := n0_;have HB := n1_;have BK197 := n2_;have GW197 := n3_;have GE197 := n4_;clear n0_ n1_ n2_ n3_ n4_;clear hb hbox hg;have hcz19_0 : w18.cell? ⟨gb197, 0, none⟩ = some (.int .i64 0) := (blk_cell BK197.out 0).trans rfl;have hcz19_1 : w18.cell? ⟨gb197, 1, none⟩ = some (.int .i64 0) := (blk_cell BK197.out 1).trans rfl;have hcz19_2 : w18.cell? ⟨gb197, 2, none⟩ = some (.int .i64 0) := (blk_cell BK197.out 2).trans rfl;have hcz19_3 : w18.cell? ⟨gb197, 3, none⟩ = some (.int .i64 0) := (blk_cell BK197.out 3).trans rfl;have hcz19_4 : w18.cell? ⟨gb197, 4, none⟩ = some (.int .i64 0) := (blk_cell BK197.out 4).trans rfl;have hfz19_0 := blk_frozen BK197.out 0;have hfz19_1 := blk_frozen BK197.out 1;have hfz19_2 := blk_frozen BK197.out 2;have hfz19_3 := blk_frozen BK197.out 3;have hfz19_4 := blk_frozen BK197.out 4;obtain ⟨Ao20, co20, eo20⟩ := Kd.R_slice HO_5.out;subst eo20;have p201 : 0 ≤ ((ji14) : Int) := of_decide_eq_true (by assumption);have q201 : (ji14) < (x5_1.length : Int) := of_decide_eq_true (by assumption);obtain ⟨ad201, e201, hx201_0⟩ := Kd.at_int (Kd.R_reads' HO_5.out).2.2 (ji14) p201 q201;cases e201;have hn201_0 : ad201.block ≠ gb197 := Kd.own_blk (Kd.R_ne HO_5.out BK197.out (by decide));have hn201_1 : ad201.block ≠ gb197 := Kd.own_blk (Kd.R_ne HO_5.out BK197.out (by decide));have hn201_2 : ad201.block ≠ gb197 := Kd.own_blk (Kd.R_ne HO_5.out BK197.out (by decide));have hn201_3 : ad201.block ≠ gb197 := Kd.own_blk (Kd.R_ne HO_5.out BK197.out (by decide));have hn201_4 : ad201.block ≠ gb197 := Kd.own_blk (Kd.R_ne HO_5.out BK197.out (by decide));replace hx201_0 := (cell_far (p := ⟨gb197, 0, none⟩) (by first|(rw [add_block];exact hn201_0)|(show (Addr.add _ _).block ≠ _;rw [add_block];exact hn201_0)|exact hn201_0) (.int .i64 ((rd_T36 l0 x10_1).f0))).trans hx201_0;replace hx201_0 := (cell_far (p := ⟨gb197, 1, none⟩) (by first|(rw [add_block];exact hn201_1)|(show (Addr.add _ _).block ≠ _;rw [add_block];exact hn201_1)|exact hn201_1) (.int .i64 ((rd_T36 l0 x10_1).f1))).trans hx201_0;replace hx201_0 := (cell_far (p := ⟨gb197, 2, none⟩) (by first|(rw [add_block];exact hn201_2)|(show (Addr.add _ _).block ≠ _;rw [add_block];exact hn201_2)|exact hn201_2) (.int .i64 ((rd_T36 l0 x10_1).f2))).trans hx201_0;replace hx201_0 := (cell_far (p := ⟨gb197, 3, none⟩) (by first|(rw [add_block];exact hn201_3)|(show (Addr.add _ _).block ≠ _;rw [add_block];exact hn201_3)|exact hn201_3) (.int .i64 ((rd_T36 l0 x10_1).f3))).trans hx201_0;replace hx201_0 := (cell_far (p := ⟨gb197, 4, none⟩) (by first|(rw [add_block];exact hn201_4)|(show (Addr.add _ _).block ≠ _;rw [add_block];exact hn201_4)|exact hn201_4) (.int .i64 ((rd_T36 l0 x10_1).f4))).trans hx201_0;(try have hy201_0 := fun (n_ : Nat) => (show (((((((w18.drewN n_).setCell ⟨gb197, 0, none⟩ (.int .i64 ((rd_T36 l0 x10_1).f0))).setCell ⟨gb197, 1, none⟩ (.int .i64 ((rd_T36 l0 x10_1).f1))).setCell ⟨gb197, 2, none⟩ (.int .i64 ((rd_T36 l0 x10_1).f2))).setCell ⟨gb197, 3, none⟩ (.int .i64 ((rd_T36 l0 x10_1).f3))).setCell ⟨gb197, 4, none⟩ (.int .i64 ((rd_T36 l0 x10_1).f4)))).cell? _ = some _ from hx201_0));clear hn201_0;clear hn201_1;clear hn201_2;clear hn201_3;clear hn201_4;replace p201 := eq_true p201;replace q201 := eq_true q201));try go_wp2_with (first|((with_reducible refine gate_dst (N := 7) rfl ?_);(try (refine gate_guard (by rfl) ?_;dsimp only));refine box_event ?hg (N := 7) ?hd (cs := #[.int .i64 0, .int .i64 0, .int .i64 0, .int .i64 0, .int .i64 0]) (t := 36) ?hr ?_;(case hd => rfl);(case hg => rfl);(case hr => first|(go_simp;done)|(go_simp;rfl));intro gb197 hg w18 hbox hb;have n0_ := Aside0.mk (Kd.R_below (by (with_reducible repeat (first|apply Kd.R_alloc|apply Kd.R_drewN|apply Kd.R_drew));exact HO_5.out) hb);have n1_ := Aside0.mk (below_step (by repeat (with_reducible first|exact HB.out|apply xa|apply xb|apply xc)) hb);have n2_ := Aside0.mk (hbox);have n3_ := Aside0.mk ((by rw [hg];exact (below_size (by repeat (with_reducible first|exact HB.out|apply xa|apply xb|apply xc))) : w.heap.size ≤ gb197));have n4_ := Aside0.mk ((by rw [hg];exact (below_size (by repeat (with_reducible first|exact HB.out|apply xa|apply xb|apply xc))) : w.heap.size ≤ gb197));clear HO_5;clear HB;have HO_5 := n0_;have HB := n1_;have BK197 := n2_;have GW197 := n3_;have GE197 := n4_;clear n0_ n1_ n2_ n3_ n4_;clear hb hbox hg;have hcz19_0 : w18.cell? ⟨gb197, 0, none⟩ = some (.int .i64 0) := (blk_cell BK197.out 0).trans rfl;have hcz19_1 : w18.cell? ⟨gb197, 1, none⟩ = some (.int .i64 0) := (blk_cell BK197.out 1).trans rfl;have hcz19_2 : w18.cell? ⟨gb197, 2, none⟩ = some (.int .i64 0) := (blk_cell BK197.out 2).trans rfl;have hcz19_3 : w18.cell? ⟨gb197, 3, none⟩ = some (.int .i64 0) := (blk_cell BK197.out 3).trans rfl;have hcz19_4 : w18.cell? ⟨gb197, 4, none⟩ = some (.int .i64 0) := (blk_cell BK197.out 4).trans rfl;have hfz19_0 := blk_frozen BK197.out 0;have hfz19_1 := blk_frozen BK197.out 1;have hfz19_2 := blk_frozen BK197.out 2;have hfz19_3 := blk_frozen BK197.out 3;have hfz19_4 := blk_frozen BK197.out 4;obtain ⟨Ao20, co20, eo20⟩ := Kd.R_slice HO_5.out;subst eo20;have p201 : 0 ≤ ((ji14) : Int) := of_decide_eq_true (by assumption);have q201 : (ji14) < (x5_1.length : Int) := of_decide_eq_true (by assumption);obtain ⟨ad201, e201, hx201_0⟩ := Kd.at_int (Kd.R_reads' HO_5.out).2.2 (ji14) p201 q201;cases e201;have hn201_0 : ad201.block ≠ gb197 := Kd.own_blk (Kd.R_ne HO_5.out BK197.out (by decide));have hn201_1 : ad201.block ≠ gb197 := Kd.own_blk (Kd.R_ne HO_5.out BK197.out (by decide));have hn201_2 : ad201.block ≠ gb197 := Kd.own_blk (Kd.R_ne HO_5.out BK197.out (by decide));have hn201_3 : ad201.block ≠ gb197 := Kd.own_blk (Kd.R_ne HO_5.out BK197.out (by decide));have hn201_4 : ad201.block ≠ gb197 := Kd.own_blk (Kd.R_ne HO_5.out BK197.out (by decide));replace hx201_0 := (cell_far (p := ⟨gb197, 0, none⟩) (by first|(rw [add_block];exact hn201_0)|(show (Addr.add _ _).block ≠ _;rw [add_block];exact hn201_0)|exact hn201_0) (.int .i64 ((rd_T36 l0 x10_1).f0))).trans hx201_0;replace hx201_0 := (cell_far (p := ⟨gb197, 1, none⟩) (by first|(rw [add_block];exact hn201_1)|(show (Addr.add _ _).block ≠ _;rw [add_block];exact hn201_1)|exact hn201_1) (.int .i64 ((rd_T36 l0 x10_1).f1))).trans hx201_0;replace hx201_0 := (cell_far (p := ⟨gb197, 2, none⟩) (by first|(rw [add_block];exact hn201_2)|(show (Addr.add _ _).block ≠ _;rw [add_block];exact hn201_2)|exact hn201_2) (.int .i64 ((rd_T36 l0 x10_1).f2))).trans hx201_0;replace hx201_0 := (cell_far (p := ⟨gb197, 3, none⟩) (by first|(rw [add_block];exact hn201_3)|(show (Addr.add _ _).block ≠ _;rw [add_block];exact hn201_3)|exact hn201_3) (.int .i64 ((rd_T36 l0 x10_1).f3))).trans hx201_0;replace hx201_0 := (cell_far (p := ⟨gb197, 4, none⟩) (by first|(rw [add_block];exact hn201_4)|(show (Addr.add _ _).block ≠ _;rw [add_block];exact hn201_4)|exact hn201_4) (.int .i64 ((rd_T36 l0 x10_1).f4))).trans hx201_0;(try have hy201_0 := fun (n_ : Nat) => (show (((((((w18.drewN n_).setCell ⟨gb197, 0, none⟩ (.int .i64 ((rd_T36 l0 x10_1).f0))).setCell ⟨gb197, 1, none⟩ (.int .i64 ((rd_T36 l0 x10_1).f1))).setCell ⟨gb197, 2, none⟩ (.int .i64 ((rd_T36 l0 x10_1).f2))).setCell ⟨gb197, 3, none⟩ (.int .i64 ((rd_T36 l0 x10_1).f3))).setCell ⟨gb197, 4, none⟩ (.int .i64 ((rd_T36 l0 x10_1).f4)))).cell? _ = some _ from hx201_0));clear hn201_0;clear hn201_1;clear hn201_2;clear hn201_3;clear hn201_4;replace p201 := eq_true p201;replace q201 := eq_true q201)))
            (try simp only [px_add0] at *)
            go_roundg k1
            case measure => have := HK1.out;omega
            case rel => exact ⟨(x5_1), (wrap64 (x10_1 + 1)), (by first|rfl|(simp;done)|(simp [*];done)), H', ⟨by have := HK1.out;omega⟩, ⟨by (with_reducible repeat (first|apply Kd.R_alloc|apply Kd.R_drewN|apply Kd.R_drew));exact Kd.R_mono (Kd.R_far (p := ⟨gb197, 4, none⟩) (Kd.R_far (p := ⟨gb197, 3, none⟩) (Kd.R_far (p := ⟨gb197, 2, none⟩) (Kd.R_far (p := ⟨gb197, 1, none⟩) (Kd.R_far (p := ⟨gb197, 0, none⟩) (Kd.R_types HO_5.out BK197.out (by decide)) (fun _ hk => hk.2) (.int .i64 ((rd_T36 l0 x10_1).f0))) (fun _ hk => hk.2) (.int .i64 ((rd_T36 l0 x10_1).f1))) (fun _ hk => hk.2) (.int .i64 ((rd_T36 l0 x10_1).f2))) (fun _ hk => hk.2) (.int .i64 ((rd_T36 l0 x10_1).f3))) (fun _ hk => hk.2) (.int .i64 ((rd_T36 l0 x10_1).f4))) (fun _ hk => trivial)⟩, ⟨by repeat (first|(with_reducible first|exact HB.out|apply xa|apply xb|apply xc|refine below_set ?_ GE197.out)|exact HB.out)⟩⟩
           ·rw [if_neg c17] at H
            have c17b0 : ((rd x5_1 (ji14)) == ((rd_T36 l0 x10_1).f2)) = false := beq_eq_false_iff_ne.mpr c17
            have c17b1 : ((rd x5_1 (ji14)) != ((rd_T36 l0 x10_1).f2)) = true := bne_iff_ne.mpr c17
            by_cases c21 : x5_1.length < 17592186044416
            ·rw [if_pos c21] at H
             have LMc21 := Aside0.mk c21
             clear c21
             obtain ⟨y202, hy202⟩ : ∃ y_ : List Int, y_ = (x5_1 ++ [(rd_T36 l0 x10_1).f2]) := ⟨_, rfl⟩
             replace H : (pinfoldref30_Went.l0 k1 a1 y202 l0 (l0.length : Int) (wrap64 (x10_1 + 1))) = some r := by first|(rw [hy202];with_reducible exact H)|(have H2_ := (Option.bind_some _ _).symm.trans H;rw [hy202];with_reducible exact H2_)|(have H2_ := (Option.bind_some _ _).symm.trans H;with_reducible exact H2_)|with_reducible exact H|(rw [hy202];exact H)|exact H
             have Ny202 := Aside0.mk hy202
             clear hy202
             have H' := Aside0.mk H
             clear H
             have p196 : 0 ≤ (x10_1 : Int) := of_decide_eq_true (by assumption)
             have q196 : x10_1 < (l0.length : Int) := of_decide_eq_true (by assumption)
             obtain ⟨ad196, e196, hx196_0, hx196_1, hx196_2, hx196_3, hx196_4⟩ := at_T36 HR0.out x10_1 p196 q196
             cases e196
             replace hx196_0 := (HB.out.cell (World.block_lt_of_cell? w _ hx196_0)).trans hx196_0
             replace hx196_1 := (HB.out.cell (World.block_lt_of_cell? w _ hx196_1)).trans hx196_1
             replace hx196_2 := (HB.out.cell (World.block_lt_of_cell? w _ hx196_2)).trans hx196_2
             replace hx196_3 := (HB.out.cell (World.block_lt_of_cell? w _ hx196_3)).trans hx196_3
             replace hx196_4 := (HB.out.cell (World.block_lt_of_cell? w _ hx196_4)).trans hx196_4
             replace p196 := eq_true p196
             replace q196 := eq_true q196
             go_wp2_with (first|((with_reducible refine gate_dst (N := 7) rfl ?_);(try (refine gate_guard (by rfl) ?_;dsimp only));refine box_event ?hg (N := 7) ?hd (cs := #[.int .i64 0, .int .i64 0, .int .i64 0, .int .i64 0, .int .i64 0]) (t := 36) ?hr ?_;(case hd => rfl);(case hg => rfl);(case hr => first|(go_simp;done)|(go_simp;rfl));intro gb197 hg w22 hbox hb;have n0_ := Aside0.mk (Kd.R_below (by (with_reducible repeat (first|apply Kd.R_alloc|apply Kd.R_drewN|apply Kd.R_drew));exact HO_5.out) hb);have n1_ := Aside0.mk (below_step (by repeat (with_reducible first|exact HB.out|apply xa|apply xb|apply xc)) hb);have n2_ := Aside0.mk (hbox);have n3_ := Aside0.mk ((by rw [hg];exact (below_size (by repeat (with_reducible first|exact HB.out|apply xa|apply xb|apply xc))) : w.heap.size ≤ gb197));have n4_ := Aside0.mk ((by rw [hg];exact (below_size (by repeat (with_reducible first|exact HB.out|apply xa|apply xb|apply xc))) : w.heap.size ≤ gb197));clear HO_5;clear HB;have HO_5 := n0_;have HB := n1_;have BK197 := n2_;have GW197 := n3_;have GE197 := n4_;clear n0_ n1_ n2_ n3_ n4_;clear hb hbox hg;have hcz23_0 : w22.cell? ⟨gb197, 0, none⟩ = some (.int .i64 0) := (blk_cell BK197.out 0).trans rfl;have hcz23_1 : w22.cell? ⟨gb197, 1, none⟩ = some (.int .i64 0) := (blk_cell BK197.out 1).trans rfl;have hcz23_2 : w22.cell? ⟨gb197, 2, none⟩ = some (.int .i64 0) := (blk_cell BK197.out 2).trans rfl;have hcz23_3 : w22.cell? ⟨gb197, 3, none⟩ = some (.int .i64 0) := (blk_cell BK197.out 3).trans rfl;have hcz23_4 : w22.cell? ⟨gb197, 4, none⟩ = some (.int .i64 0) := (blk_cell BK197.out 4).trans rfl;have hfz23_0 := blk_frozen BK197.out 0;have hfz23_1 := blk_frozen BK197.out 1;have hfz23_2 := blk_frozen BK197.out 2;have hfz23_3 := blk_frozen BK197.out 3;have hfz23_4 := blk_frozen BK197.out 4;obtain ⟨Ao24, co24, eo24⟩ := Kd.R_slice HO_5.out;subst eo24;have p201 : 0 ≤ ((ji14) : Int) := of_decide_eq_true (by assumption);have q201 : (ji14) < (x5_1.length : Int) := of_decide_eq_true (by assumption);obtain ⟨ad201, e201, hx201_0⟩ := Kd.at_int (Kd.R_reads' HO_5.out).2.2 (ji14) p201 q201;cases e201;have hn201_0 : ad201.block ≠ gb197 := Kd.own_blk (Kd.R_ne HO_5.out BK197.out (by decide));have hn201_1 : ad201.block ≠ gb197 := Kd.own_blk (Kd.R_ne HO_5.out BK197.out (by decide));have hn201_2 : ad201.block ≠ gb197 := Kd.own_blk (Kd.R_ne HO_5.out BK197.out (by decide));have hn201_3 : ad201.block ≠ gb197 := Kd.own_blk (Kd.R_ne HO_5.out BK197.out (by decide));have hn201_4 : ad201.block ≠ gb197 := Kd.own_blk (Kd.R_ne HO_5.out BK197.out (by decide));replace hx201_0 := (cell_far (p := ⟨gb197, 0, none⟩) (by first|(rw [add_block];exact hn201_0)|(show (Addr.add _ _).block ≠ _;rw [add_block];exact hn201_0)|exact hn201_0) (.int .i64 ((rd_T36 l0 x10_1).f0))).trans hx201_0;replace hx201_0 := (cell_far (p := ⟨gb197, 1, none⟩) (by first|(rw [add_block];exact hn201_1)|(show (Addr.add _ _).block ≠ _;rw [add_block];exact hn201_1)|exact hn201_1) (.int .i64 ((rd_T36 l0 x10_1).f1))).trans hx201_0;replace hx201_0 := (cell_far (p := ⟨gb197, 2, none⟩) (by first|(rw [add_block];exact hn201_2)|(show (Addr.add _ _).block ≠ _;rw [add_block];exact hn201_2)|exact hn201_2) (.int .i64 ((rd_T36 l0 x10_1).f2))).trans hx201_0;replace hx201_0 := (cell_far (p := ⟨gb197, 3, none⟩) (by first|(rw [add_block];exact hn201_3)|(show (Addr.add _ _).block ≠ _;rw [add_block];exact hn201_3)|exact hn201_3) (.int .i64 ((rd_T36 l0 x10_1).f3))).trans hx201_0;replace hx201_0 := (cell_far (p := ⟨gb197, 4, none⟩) (by first|(rw [add_block];exact hn201_4)|(show (Addr.add _ _).block ≠ _;rw [add_block];exact hn201_4)|exact hn201_4) (.int .i64 ((rd_T36 l0 x10_1).f4))).trans hx201_0;(try have hy201_0 := fun (n_ : Nat) => (show (((((((w22.drewN n_).setCell ⟨gb197, 0, none⟩ (.int .i64 ((rd_T36 l0 x10_1).f0))).setCell ⟨gb197, 1, none⟩ (.int .i64 ((rd_T36 l0 x10_1).f1))).setCell ⟨gb197, 2, none⟩ (.int .i64 ((rd_T36 l0 x10_1).f2))).setCell ⟨gb197, 3, none⟩ (.int .i64 ((rd_T36 l0 x10_1).f3))).setCell ⟨gb197, 4, none⟩ (.int .i64 ((rd_T36 l0 x10_1).f4)))).cell? _ = some _ from hx201_0));clear hn201_0;clear hn201_1;clear hn201_2;clear hn201_3;clear hn201_4;replace p201 := eq_true p201;replace q201 := eq_true q201)|((with_reducible refine gate_builtin (b := .append) (xs := #[.tmp 39, .tmp 42]) rfl ?_);(try (refine gate_guard (by rfl) ?_;dsimp only));at_builtin;refine Kd.R_append (Kd.int .i64) (w0 := w) w.heap.size rfl (.tmp 39) (.tmp 42) 30 3 (.int .i64 0) 8 rfl Try.underlying30 info3 rfl (by decide) (by omega) (.slice (some ad201) x5_1.length co24) x5_1 ((rd_T36 l0 x10_1).f2) [.int .i64 ((rd_T36 l0 x10_1).f2)] (fun _ => True) (fun _ => False) rfl (by first|(go_simp;done)|(go_simp;rfl)) ?aP (fun _ hk => hk.elim) ?aF ?aO ?aB ?aS ?aL ?_;(case aP => exact rfl);(case aB => exact (by repeat (first|(with_reducible first|exact HB.out|apply xa|apply xb|apply xc|refine below_set ?_ GE197.out)|exact HB.out)));(case aF => exact (fun _ _ => trivial));(case aO => exact (by (with_reducible repeat (first|apply Kd.R_alloc|apply Kd.R_drewN|apply Kd.R_drew));exact Kd.R_mono (Kd.R_far (p := ⟨gb197, 4, none⟩) (Kd.R_far (p := ⟨gb197, 3, none⟩) (Kd.R_far (p := ⟨gb197, 2, none⟩) (Kd.R_far (p := ⟨gb197, 1, none⟩) (Kd.R_far (p := ⟨gb197, 0, none⟩) (Kd.R_types HO_5.out BK197.out (by decide)) (fun _ hk => hk.2) (.int .i64 ((rd_T36 l0 x10_1).f0))) (fun _ hk => hk.2) (.int .i64 ((rd_T36 l0 x10_1).f1))) (fun _ hk => hk.2) (.int .i64 ((rd_T36 l0 x10_1).f2))) (fun _ hk => hk.2) (.int .i64 ((rd_T36 l0 x10_1).f3))) (fun _ hk => hk.2) (.int .i64 ((rd_T36 l0 x10_1).f4))) (fun _ hk => trivial)));(case aS => exact (below_size (by repeat (first|(with_reducible first|exact HB.out|apply xa|apply xb|apply xc|refine below_set ?_ GE197.out)|exact HB.out))));(case aL => have := LMc21.out;omega);intro v203 w25 ho hb hg hat;rw [← Ny202.out] at ho;have n0_ := Aside0.mk (blk_grown (g := gb197) (o := .cells #[.int .i64 ((rd_T36 l0 x10_1).f0), .int .i64 ((rd_T36 l0 x10_1).f1), .int .i64 ((rd_T36 l0 x10_1).f2), .int .i64 ((rd_T36 l0 x10_1).f3), .int .i64 ((rd_T36 l0 x10_1).f4)] 36 (0, 0)) (by (with_reducible repeat (first|apply blk_drewN|apply blk_drew|apply blk_alloc));refine blk_put (cs := #[.int .i64 ((rd_T36 l0 x10_1).f0), .int .i64 ((rd_T36 l0 x10_1).f1), .int .i64 ((rd_T36 l0 x10_1).f2), .int .i64 ((rd_T36 l0 x10_1).f3), .int .i64 0]) ?_ 4 _ rfl;(with_reducible repeat (first|apply blk_drewN|apply blk_drew|apply blk_alloc));refine blk_put (cs := #[.int .i64 ((rd_T36 l0 x10_1).f0), .int .i64 ((rd_T36 l0 x10_1).f1), .int .i64 ((rd_T36 l0 x10_1).f2), .int .i64 0, .int .i64 0]) ?_ 3 _ rfl;(with_reducible repeat (first|apply blk_drewN|apply blk_drew|apply blk_alloc));refine blk_put (cs := #[.int .i64 ((rd_T36 l0 x10_1).f0), .int .i64 ((rd_T36 l0 x10_1).f1), .int .i64 0, .int .i64 0, .int .i64 0]) ?_ 2 _ rfl;(with_reducible repeat (first|apply blk_drewN|apply blk_drew|apply blk_alloc));refine blk_put (cs := #[.int .i64 ((rd_T36 l0 x10_1).f0), .int .i64 0, .int .i64 0, .int .i64 0, .int .i64 0]) ?_ 1 _ rfl;(with_reducible repeat (first|apply blk_drewN|apply blk_drew|apply blk_alloc));refine blk_put (cs := #[.int .i64 0, .int .i64 0, .int .i64 0, .int .i64 0, .int .i64 0]) ?_ 0 _ rfl;(with_reducible repeat (first|apply blk_drewN|apply blk_drew|apply blk_alloc));exact BK197.out) hg (Kd.R_ne HO_5.out BK197.out (by decide)));have n1_ := Aside0.mk (hb);have n2_ := Aside0.mk (ho);clear BK197;clear HB;clear HO_5;have BK197 := n0_;have HB := n1_;have HO204 := n2_;clear n0_ n1_ n2_;clear ho hb hg hat))
             repeat (go_quiet (first|((with_reducible refine gate_dst (N := 7) rfl ?_);(try (refine gate_guard (by rfl) ?_;dsimp only));refine box_event ?hg (N := 7) ?hd (cs := #[.int .i64 0, .int .i64 0, .int .i64 0, .int .i64 0, .int .i64 0]) (t := 36) ?hr ?_;(case hd => rfl);(case hg => rfl);(case hr => first|(go_simp;done)|(go_simp;rfl));intro gb197 hg w22 hbox hb;have n0_ := Aside0.mk (Kd.R_below (by (with_reducible repeat (first|apply Kd.R_alloc|apply Kd.R_drewN|apply Kd.R_drew));exact HO_5.out) hb);have n1_ := Aside0.mk (below_step (by repeat (with_reducible first|exact HB.out|apply xa|apply xb|apply xc)) hb);have n2_ := Aside0.mk (hbox);have n3_ := Aside0.mk ((by rw [hg];exact (below_size (by repeat (with_reducible first|exact HB.out|apply xa|apply xb|apply xc))) : w.heap.size ≤ gb197));have n4_ := Aside0.mk ((by rw [hg];exact (below_size (by repeat (with_reducible first|exact HB.out|apply xa|apply xb|apply xc))) : w.heap.size ≤ gb197));clear HO_5;clear HB;have HO_5 := n0_;have HB := n1_;have BK197 := n2_;have GW197 := n3_;have GE197 := n4_;clear n0_ n1_ n2_ n3_ n4_;clear hb hbox hg;have hcz23_0 : w22.cell? ⟨gb197, 0, none⟩ = some (.int .i64 0) := (blk_cell BK197.out 0).trans rfl;have hcz23_1 : w22.cell? ⟨gb197, 1, none⟩ = some (.int .i64 0) := (blk_cell BK197.out 1).trans rfl;have hcz23_2 : w22.cell? ⟨gb197, 2, none⟩ = some (.int .i64 0) := (blk_cell BK197.out 2).trans rfl;have hcz23_3 : w22.cell? ⟨gb197, 3, none⟩ = some (.int .i64 0) := (blk_cell BK197.out 3).trans rfl;have hcz23_4 : w22.cell? ⟨gb197, 4, none⟩ = some (.int .i64 0) := (blk_cell BK197.out 4).trans rfl;have hfz23_0 := blk_frozen BK197.out 0;have hfz23_1 := blk_frozen BK197.out 1;have hfz23_2 := blk_frozen BK197.out 2;have hfz23_3 := blk_frozen BK197.out 3;have hfz23_4 := blk_frozen BK197.out 4;obtain ⟨Ao24, co24, eo24⟩ := Kd.R_slice HO_5.out;subst eo24;have p201 : 0 ≤ ((ji14) : Int) := of_decide_eq_true (by assumption);have q201 : (ji14) < (x5_1.length : Int) := of_decide_eq_true (by assumption);obtain ⟨ad201, e201, hx201_0⟩ := Kd.at_int (Kd.R_reads' HO_5.out).2.2 (ji14) p201 q201;cases e201;have hn201_0 : ad201.block ≠ gb197 := Kd.own_blk (Kd.R_ne HO_5.out BK197.out (by decide));have hn201_1 : ad201.block ≠ gb197 := Kd.own_blk (Kd.R_ne HO_5.out BK197.out (by decide));have hn201_2 : ad201.block ≠ gb197 := Kd.own_blk (Kd.R_ne HO_5.out BK197.out (by decide));have hn201_3 : ad201.block ≠ gb197 := Kd.own_blk (Kd.R_ne HO_5.out BK197.out (by decide));have hn201_4 : ad201.block ≠ gb197 := Kd.own_blk (Kd.R_ne HO_5.out BK197.out (by decide));replace hx201_0 := (cell_far (p := ⟨gb197, 0, none⟩) (by first|(rw [add_block];exact hn201_0)|(show (Addr.add _ _).block ≠ _;rw [add_block];exact hn201_0)|exact hn201_0) (.int .i64 ((rd_T36 l0 x10_1).f0))).trans hx201_0;replace hx201_0 := (cell_far (p := ⟨gb197, 1, none⟩) (by first|(rw [add_block];exact hn201_1)|(show (Addr.add _ _).block ≠ _;rw [add_block];exact hn201_1)|exact hn201_1) (.int .i64 ((rd_T36 l0 x10_1).f1))).trans hx201_0;replace hx201_0 := (cell_far (p := ⟨gb197, 2, none⟩) (by first|(rw [add_block];exact hn201_2)|(show (Addr.add _ _).block ≠ _;rw [add_block];exact hn201_2)|exact hn201_2) (.int .i64 ((rd_T36 l0 x10_1).f2))).trans hx201_0;replace hx201_0 := (cell_far (p := ⟨gb197, 3, none⟩) (by first|(rw [add_block];exact hn201_3)|(show (Addr.add _ _).block ≠ _;rw [add_block];exact hn201_3)|exact hn201_3) (.int .i64 ((rd_T36 l0 x10_1).f3))).trans hx201_0;replace hx201_0 := (cell_far (p := ⟨gb197, 4, none⟩) (by first|(rw [add_block];exact hn201_4)|(show (Addr.add _ _).block ≠ _;rw [add_block];exact hn201_4)|exact hn201_4) (.int .i64 ((rd_T36 l0 x10_1).f4))).trans hx201_0;(try have hy201_0 := fun (n_ : Nat) => (show (((((((w22.drewN n_).setCell ⟨gb197, 0, none⟩ (.int .i64 ((rd_T36 l0 x10_1).f0))).setCell ⟨gb197, 1, none⟩ (.int .i64 ((rd_T36 l0 x10_1).f1))).setCell ⟨gb197, 2, none⟩ (.int .i64 ((rd_T36 l0 x10_1).f2))).setCell ⟨gb197, 3, none⟩ (.int .i64 ((rd_T36 l0 x10_1).f3))).setCell ⟨gb197, 4, none⟩ (.int .i64 ((rd_T36 l0 x10_1).f4)))).cell? _ = some _ from hx201_0));clear hn201_0;clear hn201_1;clear hn201_2;clear hn201_3;clear hn201_4;replace p201 := eq_true p201;replace q201 := eq_true q201)|((with_reducible refine gate_builtin (b := .append) (xs := #[.tmp 39, .tmp 42]) rfl ?_);(try (refine gate_guard (by rfl) ?_;dsimp only));at_builtin;refine Kd.R_append (Kd.int .i64) (w0 := w) w.heap.size rfl (.tmp 39) (.tmp 42) 30 3 (.int .i64 0) 8 rfl Try.underlying30 info3 rfl (by decide) (by omega) (.slice (some ad201) x5_1.length co24) x5_1 ((rd_T36 l0 x10_1).f2) [.int .i64 ((rd_T36 l0 x10_1).f2)] (fun _ => True) (fun _ => False) rfl (by first|(go_simp;done)|(go_simp;rfl)) ?aP (fun _ hk => hk.elim) ?aF ?aO ?aB ?aS ?aL ?_;(case aP => exact rfl);(case aB => exact (by repeat (first|(with_reducible first|exact HB.out|apply xa|apply xb|apply xc|refine below_set ?_ GE197.out)|exact HB.out)));(case aF => exact (fun _ _ => trivial));(case aO => exact (by (with_reducible repeat (first|apply Kd.R_alloc|apply Kd.R_drewN|apply Kd.R_drew));exact Kd.R_mono (Kd.R_far (p := ⟨gb197, 4, none⟩) (Kd.R_far (p := ⟨gb197, 3, none⟩) (Kd.R_far (p := ⟨gb197, 2, none⟩) (Kd.R_far (p := ⟨gb197, 1, none⟩) (Kd.R_far (p := ⟨gb197, 0, none⟩) (Kd.R_types HO_5.out BK197.out (by decide)) (fun _ hk => hk.2) (.int .i64 ((rd_T36 l0 x10_1).f0))) (fun _ hk => hk.2) (.int .i64 ((rd_T36 l0 x10_1).f1))) (fun _ hk => hk.2) (.int .i64 ((rd_T36 l0 x10_1).f2))) (fun _ hk => hk.2) (.int .i64 ((rd_T36 l0 x10_1).f3))) (fun _ hk => hk.2) (.int .i64 ((rd_T36 l0 x10_1).f4))) (fun _ hk => trivial)));(case aS => exact (below_size (by repeat (first|(with_reducible first|exact HB.out|apply xa|apply xb|apply xc|refine below_set ?_ GE197.out)|exact HB.out))));(case aL => have := LMc21.out;omega);intro v203 w25 ho hb hg hat;rw [← Ny202.out] at ho;have n0_ := Aside0.mk (blk_grown (g := gb197) (o := .cells #[.int .i64 ((rd_T36 l0 x10_1).f0), .int .i64 ((rd_T36 l0 x10_1).f1), .int .i64 ((rd_T36 l0 x10_1).f2), .int .i64 ((rd_T36 l0 x10_1).f3), .int .i64 ((rd_T36 l0 x10_1).f4)] 36 (0, 0)) (by (with_reducible repeat (first|apply blk_drewN|apply blk_drew|apply blk_alloc));refine blk_put (cs := #[.int .i64 ((rd_T36 l0 x10_1).f0), .int .i64 ((rd_T36 l0 x10_1).f1), .int .i64 ((rd_T36 l0 x10_1).f2), .int .i64 ((rd_T36 l0 x10_1).f3), .int .i64 0]) ?_ 4 _ rfl;(with_reducible repeat (first|apply blk_drewN|apply blk_drew|apply blk_alloc));refine blk_put (cs := #[.int .i64 ((rd_T36 l0 x10_1).f0), .int .i64 ((rd_T36 l0 x10_1).f1), .int .i64 ((rd_T36 l0 x10_1).f2), .int .i64 0, .int .i64 0]) ?_ 3 _ rfl;(with_reducible repeat (first|apply blk_drewN|apply blk_drew|apply blk_alloc));refine blk_put (cs := #[.int .i64 ((rd_T36 l0 x10_1).f0), .int .i64 ((rd_T36 l0 x10_1).f1), .int .i64 0, .int .i64 0, .int .i64 0]) ?_ 2 _ rfl;(with_reducible repeat (first|apply blk_drewN|apply blk_drew|apply blk_alloc));refine blk_put (cs := #[.int .i64 ((rd_T36 l0 x10_1).f0), .int .i64 0, .int .i64 0, .int .i64 0, .int .i64 0]) ?_ 1 _ rfl;(with_reducible repeat (first|apply blk_drewN|apply blk_drew|apply blk_alloc));refine blk_put (cs := #[.int .i64 0, .int .i64 0, .int .i64 0, .int .i64 0, .int .i64 0]) ?_ 0 _ rfl;(with_reducible repeat (first|apply blk_drewN|apply blk_drew|apply blk_alloc));exact BK197.out) hg (Kd.R_ne HO_5.out BK197.out (by decide)));have n1_ := Aside0.mk (hb);have n2_ := Aside0.mk (ho);clear BK197;clear HB;clear HO_5;have BK197 := n0_;have HB := n1_;have HO204 := n2_;clear n0_ n1_ n2_;clear ho hb hg hat));try go_wp2_with (first|((with_reducible refine gate_dst (N := 7) rfl ?_);(try (refine gate_guard (by rfl) ?_;dsimp only));refine box_event ?hg (N := 7) ?hd (cs := #[.int .i64 0, .int .i64 0, .int .i64 0, .int .i64 0, .int .i64 0]) (t := 36) ?hr ?_;(case hd => rfl);(case hg => rfl);(case hr => first|(go_simp;done)|(go_simp;rfl));intro gb197 hg w22 hbox hb;have n0_ := Aside0.mk (Kd.R_below (by (with_reducible repeat (first|apply Kd.R_alloc|apply Kd.R_drewN|apply Kd.R_drew));exact HO_5.out) hb);have n1_ := Aside0.mk (below_step (by repeat (with_reducible first|exact HB.out|apply xa|apply xb|apply xc)) hb);have n2_ := Aside0.mk (hbox);have n3_ := Aside0.mk ((by rw [hg];exact (below_size (by repeat (with_reducible first|exact HB.out|apply xa|apply xb|apply xc))) : w.heap.size ≤ gb197));have n4_ := Aside0.mk ((by rw [hg];exact (below_size (by repeat (with_reducible first|exact HB.out|apply xa|apply xb|apply xc))) : w.heap.size ≤ gb197));clear HO_5;clear HB;have HO_5 := n0_;have HB := n1_;have BK197 := n2_;have GW197 := n3_;have GE197 := n4_;clear n0_ n1_ n2_ n3_ n4_;clear hb hbox hg;have hcz23_0 : w22.cell? ⟨gb197, 0, none⟩ = some (.int .i64 0) := (blk_cell BK197.out 0).trans rfl;have hcz23_1 : w22.cell? ⟨gb197, 1, none⟩ = some (.int .i64 0) := (blk_cell BK197.out 1).trans rfl;have hcz23_2 : w22.cell? ⟨gb197, 2, none⟩ = some (.int .i64 0) := (blk_cell BK197.out 2).trans rfl;have hcz23_3 : w22.cell? ⟨gb197, 3, none⟩ = some (.int .i64 0) := (blk_cell BK197.out 3).trans rfl;have hcz23_4 : w22.cell? ⟨gb197, 4, none⟩ = some (.int .i64 0) := (blk_cell BK197.out 4).trans rfl;have hfz23_0 := blk_frozen BK197.out 0;have hfz23_1 := blk_frozen BK197.out 1;have hfz23_2 := blk_frozen BK197.out 2;have hfz23_3 := blk_frozen BK197.out 3;have hfz23_4 := blk_frozen BK197.out 4;obtain ⟨Ao24, co24, eo24⟩ := Kd.R_slice HO_5.out;subst eo24;have p201 : 0 ≤ ((ji14) : Int) := of_decide_eq_true (by assumption);have q201 : (ji14) < (x5_1.length : Int) := of_decide_eq_true (by assumption);obtain ⟨ad201, e201, hx201_0⟩ := Kd.at_int (Kd.R_reads' HO_5.out).2.2 (ji14) p201 q201;cases e201;have hn201_0 : ad201.block ≠ gb197 := Kd.own_blk (Kd.R_ne HO_5.out BK197.out (by decide));have hn201_1 : ad201.block ≠ gb197 := Kd.own_blk (Kd.R_ne HO_5.out BK197.out (by decide));have hn201_2 : ad201.block ≠ gb197 := Kd.own_blk (Kd.R_ne HO_5.out BK197.out (by decide));have hn201_3 : ad201.block ≠ gb197 := Kd.own_blk (Kd.R_ne HO_5.out BK197.out (by decide));have hn201_4 : ad201.block ≠ gb197 := Kd.own_blk (Kd.R_ne HO_5.out BK197.out (by decide));replace hx201_0 := (cell_far (p := ⟨gb197, 0, none⟩) (by first|(rw [add_block];exact hn201_0)|(show (Addr.add _ _).block ≠ _;rw [add_block];exact hn201_0)|exact hn201_0) (.int .i64 ((rd_T36 l0 x10_1).f0))).trans hx201_0;replace hx201_0 := (cell_far (p := ⟨gb197, 1, none⟩) (by first|(rw [add_block];exact hn201_1)|(show (Addr.add _ _).block ≠ _;rw [add_block];exact hn201_1)|exact hn201_1) (.int .i64 ((rd_T36 l0 x10_1).f1))).trans hx201_0;replace hx201_0 := (cell_far (p := ⟨gb197, 2, none⟩) (by first|(rw [add_block];exact hn201_2)|(show (Addr.add _ _).block ≠ _;rw [add_block];exact hn201_2)|exact hn201_2) (.int .i64 ((rd_T36 l0 x10_1).f2))).trans hx201_0;replace hx201_0 := (cell_far (p := ⟨gb197, 3, none⟩) (by first|(rw [add_block];exact hn201_3)|(show (Addr.add _ _).block ≠ _;rw [add_block];exact hn201_3)|exact hn201_3) (.int .i64 ((rd_T36 l0 x10_1).f3))).trans hx201_0;replace hx201_0 := (cell_far (p := ⟨gb197, 4, none⟩) (by first|(rw [add_block];exact hn201_4)|(show (Addr.add _ _).block ≠ _;rw [add_block];exact hn201_4)|exact hn201_4) (.int .i64 ((rd_T36 l0 x10_1).f4))).trans hx201_0;(try have hy201_0 := fun (n_ : Nat) => (show (((((((w22.drewN n_).setCell ⟨gb197, 0, none⟩ (.int .i64 ((rd_T36 l0 x10_1).f0))).setCell ⟨gb197, 1, none⟩ (.int .i64 ((rd_T36 l0 x10_1).f1))).setCell ⟨gb197, 2, none⟩ (.int .i64 ((rd_T36 l0 x10_1).f2))).setCell ⟨gb197, 3, none⟩ (.int .i64 ((rd_T36 l0 x10_1).f3))).setCell ⟨gb197, 4, none⟩ (.int .i64 ((rd_T36 l0 x10_1).f4)))).cell? _ = some _ from hx201_0));clear hn201_0;clear hn201_1;clear hn201_2;clear hn201_3;clear hn201_4;replace p201 := eq_true p201;replace q201 := eq_true q201)|((with_reducible refine gate_builtin (b := .append) (xs := #[.tmp 39, .tmp 42]) rfl ?_);(try (refine gate_guard (by rfl) ?_;dsimp only));at_builtin;refine Kd.R_append (Kd.int .i64) (w0 := w) w.heap.size rfl (.tmp 39) (.tmp 42) 30 3 (.int .i64 0) 8 rfl Try.underlying30 info3 rfl (by decide) (by omega) (.slice (some ad201) x5_1.length co24) x5_1 ((rd_T36 l0 x10_1).f2) [.int .i64 ((rd_T36 l0 x10_1).f2)] (fun _ => True) (fun _ => False) rfl (by first|(go_simp;done)|(go_simp;rfl)) ?aP (fun _ hk => hk.elim) ?aF ?aO ?aB ?aS ?aL ?_;(case aP => exact rfl);(case aB => exact (by repeat (first|(with_reducible first|exact HB.out|apply xa|apply xb|apply xc|refine below_set ?_ GE197.out)|exact HB.out)));(case aF => exact (fun _ _ => trivial));(case aO => exact (by (with_reducible repeat (first|apply Kd.R_alloc|apply Kd.R_drewN|apply Kd.R_drew));exact Kd.R_mono (Kd.R_far (p := ⟨gb197, 4, none⟩) (Kd.R_far (p := ⟨gb197, 3, none⟩) (Kd.R_far (p := ⟨gb197, 2, none⟩) (Kd.R_far (p := ⟨gb197, 1, none⟩) (Kd.R_far (p := ⟨gb197, 0, none⟩) (Kd.R_types HO_5.out BK197.out (by decide)) (fun _ hk => hk.2) (.int .i64 ((rd_T36 l0 x10_1).f0))) (fun _ hk => hk.2) (.int .i64 ((rd_T36 l0 x10_1).f1))) (fun _ hk => hk.2) (.int .i64 ((rd_T36 l0 x10_1).f2))) (fun _ hk => hk.2) (.int .i64 ((rd_T36 l0 x10_1).f3))) (fun _ hk => hk.2) (.int .i64 ((rd_T36 l0 x10_1).f4))) (fun _ hk => trivial)));(case aS => exact (below_size (by repeat (first|(with_reducible first|exact HB.out|apply xa|apply xb|apply xc|refine below_set ?_ GE197.out)|exact HB.out))));(case aL => have := LMc21.out;omega);intro v203 w25 ho hb hg hat;rw [← Ny202.out] at ho;have n0_ := Aside0.mk (blk_grown (g := gb197) (o := .cells #[.int .i64 ((rd_T36 l0 x10_1).f0), .int .i64 ((rd_T36 l0 x10_1).f1), .int .i64 ((rd_T36 l0 x10_1).f2), .int .i64 ((rd_T36 l0 x10_1).f3), .int .i64 ((rd_T36 l0 x10_1).f4)] 36 (0, 0)) (by (with_reducible repeat (first|apply blk_drewN|apply blk_drew|apply blk_alloc));refine blk_put (cs := #[.int .i64 ((rd_T36 l0 x10_1).f0), .int .i64 ((rd_T36 l0 x10_1).f1), .int .i64 ((rd_T36 l0 x10_1).f2), .int .i64 ((rd_T36 l0 x10_1).f3), .int .i64 0]) ?_ 4 _ rfl;(with_reducible repeat (first|apply blk_drewN|apply blk_drew|apply blk_alloc));refine blk_put (cs := #[.int .i64 ((rd_T36 l0 x10_1).f0), .int .i64 ((rd_T36 l0 x10_1).f1), .int .i64 ((rd_T36 l0 x10_1).f2), .int .i64 0, .int .i64 0]) ?_ 3 _ rfl;(with_reducible repeat (first|apply blk_drewN|apply blk_drew|apply blk_alloc));refine blk_put (cs := #[.int .i64 ((rd_T36 l0 x10_1).f0), .int .i64 ((rd_T36 l0 x10_1).f1), .int .i64 0, .int .i64 0, .int .i64 0]) ?_ 2 _ rfl;(with_reducible repeat (first|apply blk_drewN|apply blk_drew|apply blk_alloc));refine blk_put (cs := #[.int .i64 ((rd_T36 l0 x10_1).f0), .int .i64 0, .int .i64 0, .int .i64 0, .int .i64 0]) ?_ 1 _ rfl;(with_reducible repeat (first|apply blk_drewN|apply blk_drew|apply blk_alloc));refine blk_put (cs := #[.int .i64 0, .int .i64 0, .int .i64 0, .int .i64 0, .int .i64 0]) ?_ 0 _ rfl;(with_reducible repeat (first|apply blk_drewN|apply blk_drew|apply blk_alloc));exact BK197.out) hg (Kd.R_ne HO_5.out BK197.out (by decide)));have n1_ := Aside0.mk (hb);have n2_ := Aside0.mk (ho);clear BK197;clear HB;clear HO_5;have BK197 := n0_;have HB := n1_;have HO204 := n2_;clear n0_ n1_ n2_;clear ho hb hg hat)))
             (try simp only [px_add0] at *)
             go_roundg k1
             case measure => have := HK1.out;omega
             case rel => exact ⟨(y202), (wrap64 (x10_1 + 1)), (by first|rfl|(simp;done)|(simp [*];done)), H', ⟨by have := HK1.out;omega⟩, ⟨by (with_reducible repeat (first|apply Kd.R_alloc|apply Kd.R_drewN|apply Kd.R_drew));exact HO204.out⟩, ⟨by repeat (first|(with_reducible first|exact HB.out|apply xa|apply xb|apply xc|refine below_set ?_ GE197.out)|exact HB.out)⟩⟩
            ·rw [if_neg c21] at H
             exact absurd H (by simp)
          ·rw [if_neg c16] at H
           exact absurd H (by simp)
         ·rw [if_neg c15] at H
          exact absurd H (by simp)
       ·rw [if_neg c7] at H
        have c7b0 : (((rd_T36 l0 x10_1).f1) == a1) = false := beq_eq_false_iff_ne.mpr c7
        have c7b1 : (((rd_T36 l0 x10_1).f1) != a1) = true := bne_iff_ne.mpr c7
        have H' := Aside0.mk H
        clear H
        have p196 : 0 ≤ (x10_1 : Int) := of_decide_eq_true (by assumption)
        have q196 : x10_1 < (l0.length : Int) := of_decide_eq_true (by assumption)
        obtain ⟨ad196, e196, hx196_0, hx196_1, hx196_2, hx196_3, hx196_4⟩ := at_T36 HR0.out x10_1 p196 q196
        cases e196
        replace hx196_0 := (HB.out.cell (World.block_lt_of_cell? w _ hx196_0)).trans hx196_0
        replace hx196_1 := (HB.out.cell (World.block_lt_of_cell? w _ hx196_1)).trans hx196_1
        replace hx196_2 := (HB.out.cell (World.block_lt_of_cell? w _ hx196_2)).trans hx196_2
        replace hx196_3 := (HB.out.cell (World.block_lt_of_cell? w _ hx196_3)).trans hx196_3
        replace hx196_4 := (HB.out.cell (World.block_lt_of_cell? w _ hx196_4)).trans hx196_4
        replace p196 := eq_true p196
        replace q196 := eq_true q196
        go_wp2_with (first|((with_reducible refine gate_dst (N := 7) rfl ?_);(try (refine gate_guard (by rfl) ?_;dsimp only));refine box_event ?hg (N := 7) ?hd (cs := #[.int .i64 0, .int .i64 0, .int .i64 0, .int .i64 0, .int .i64 0]) (t := 36) ?hr ?_;(case hd => rfl);(case hg => rfl);(case hr => first|(go_simp;done)|(go_simp;rfl));intro gb197 hg w26 hbox hb;have n0_ := Aside0.mk (Kd.R_below (by (with_reducible repeat (first|apply Kd.R_alloc|apply Kd.R_drewN|apply Kd.R_drew));exact HO_5.out) hb);have n1_ := Aside0.mk (below_step (by repeat (with_reducible first|exact HB.out|apply xa|apply xb|apply xc)) hb);have n2_ := Aside0.mk (hbox);have n3_ := Aside0.mk ((by rw [hg];exact (below_size (by repeat (with_reducible first|exact HB.out|apply xa|apply xb|apply xc))) : w.heap.size ≤ gb197));have n4_ := Aside0.mk ((by rw [hg];exact (below_size (by repeat (with_reducible first|exact HB.out|apply xa|apply xb|apply xc))) : w.heap.size ≤ gb197));clear HO_5;clear HB;have HO_5 := n0_;have HB := n1_;have BK197 := n2_;have GW197 := n3_;have GE197 := n4_;clear n0_ n1_ n2_ n3_ n4_;clear hb hbox hg;have hcz27_0 : w26.cell? ⟨gb197, 0, none⟩ = some (.int .i64 0) := (blk_cell BK197.out 0).trans rfl;have hcz27_1 : w26.cell? ⟨gb197, 1, none⟩ = some (.int .i64 0) := (blk_cell BK197.out 1).trans rfl;have hcz27_2 : w26.cell? ⟨gb197, 2, none⟩ = some (.int .i64 0) := (blk_cell BK197.out 2).trans rfl;have hcz27_3 : w26.cell? ⟨gb197, 3, none⟩ = some (.int .i64 0) := (blk_cell BK197.out 3).trans rfl;have hcz27_4 : w26.cell? ⟨gb197, 4, none⟩ = some (.int .i64 0) := (blk_cell BK197.out 4).trans rfl;have hfz27_0 := blk_frozen BK197.out 0;have hfz27_1 := blk_frozen BK197.out 1;have hfz27_2 := blk_frozen BK197.out 2;have hfz27_3 := blk_frozen BK197.out 3;have hfz27_4 := blk_frozen BK197.out 4))
        repeat (go_quiet (first|((with_reducible refine gate_dst (N := 7) rfl ?_);(try (refine gate_guard (by rfl) ?_;dsimp only));refine box_event ?hg (N := 7) ?hd (cs := #[.int .i64 0, .int .i64 0, .int .i64 0, .int .i64 0, .int .i64 0]) (t := 36) ?hr ?_;(case hd => rfl);(case hg => rfl);(case hr => first|(go_simp;done)|(go_simp;rfl));intro gb197 hg w26 hbox hb;have n0_ := Aside0.mk (Kd.R_below (by (with_reducible repeat (first|apply Kd.R_alloc|apply Kd.R_drewN|apply Kd.R_drew));exact HO_5.out) hb);have n1_ := Aside0.mk (below_step (by repeat (with_reducible first|exact HB.out|apply xa|apply xb|apply xc)) hb);have n2_ := Aside0.mk (hbox);have n3_ := Aside0.mk ((by rw [hg];exact (below_size (by repeat (with_reducible first|exact HB.out|apply xa|apply xb|apply xc))) : w.heap.size ≤ gb197));have n4_ := Aside0.mk ((by rw [hg];exact (below_size (by repeat (with_reducible first|exact HB.out|apply xa|apply xb|apply xc))) : w.heap.size ≤ gb197));clear HO_5;clear HB;have HO_5 := n0_;have HB := n1_;have BK197 := n2_;have GW197 := n3_;have GE197 := n4_;clear n0_ n1_ n2_ n3_ n4_;clear hb hbox hg;have hcz27_0 : w26.cell? ⟨gb197, 0, none⟩ = some (.int .i64 0) := (blk_cell BK197.out 0).trans rfl;have hcz27_1 : w26.cell? ⟨gb197, 1, none⟩ = some (.int .i64 0) := (blk_cell BK197.out 1).trans rfl;have hcz27_2 : w26.cell? ⟨gb197, 2, none⟩ = some (.int .i64 0) := (blk_cell BK197.out 2).trans rfl;have hcz27_3 : w26.cell? ⟨gb197, 3, none⟩ = some (.int .i64 0) := (blk_cell BK197.out 3).trans rfl;have hcz27_4 : w26.cell? ⟨gb197, 4, none⟩ = some (.int .i64 0) := (blk_cell BK197.out 4).trans rfl;have hfz27_0 := blk_frozen BK197.out 0;have hfz27_1 := blk_frozen BK197.out 1;have hfz27_2 := blk_frozen BK197.out 2;have hfz27_3 := blk_frozen BK197.out 3;have hfz27_4 := blk_frozen BK197.out 4));try go_wp2_with (first|((with_reducible refine gate_dst (N := 7) rfl ?_);(try (refine gate_guard (by rfl) ?_;dsimp only));refine box_event ?hg (N := 7) ?hd (cs := #[.int .i64 0, .int .i64 0, .int .i64 0, .int .i64 0, .int .i64 0]) (t := 36) ?hr ?_;(case hd => rfl);(case hg => rfl);(case hr => first|(go_simp;done)|(go_simp;rfl));intro gb197 hg w26 hbox hb;have n0_ := Aside0.mk (Kd.R_below (by (with_reducible repeat (first|apply Kd.R_alloc|apply Kd.R_drewN|apply Kd.R_drew));exact HO_5.out) hb);have n1_ := Aside0.mk (below_step (by repeat (with_reducible first|exact HB.out|apply xa|apply xb|apply xc)) hb);have n2_ := Aside0.mk (hbox);have n3_ := Aside0.mk ((by rw [hg];exact (below_size (by repeat (with_reducible first|exact HB.out|apply xa|apply xb|apply xc))) : w.heap.size ≤ gb197));have n4_ := Aside0.mk ((by rw [hg];exact (below_size (by repeat (with_reducible first|exact HB.out|apply xa|apply xb|apply xc))) : w.heap.size ≤ gb197));clear HO_5;clear HB;have HO_5 := n0_;have HB := n1_;have BK197 := n2_;have GW197 := n3_;have GE197 := n4_;clear n0_ n1_ n2_ n3_ n4_;clear hb hbox hg;have hcz27_0 : w26.cell? ⟨gb197, 0, none⟩ = some (.int .i64 0) := (blk_cell BK197.out 0).trans rfl;have hcz27_1 : w26.cell? ⟨gb197, 1, none⟩ = some (.int .i64 0) := (blk_cell BK197.out 1).trans rfl;have hcz27_2 : w26.cell? ⟨gb197, 2, none⟩ = some (.int .i64 0) := (blk_cell BK197.out 2).trans rfl;have hcz27_3 : w26.cell? ⟨gb197, 3, none⟩ = some (.int .i64 0) := (blk_cell BK197.out 3).trans rfl;have hcz27_4 : w26.cell? ⟨gb197, 4, none⟩ = some (.int .i64 0) := (blk_cell BK197.out 4).trans rfl;have hfz27_0 := blk_frozen BK197.out 0;have hfz27_1 := blk_frozen BK197.out 1;have hfz27_2 := blk_frozen BK197.out 2;have hfz27_3 := blk_frozen BK197.out 3;have hfz27_4 := blk_frozen BK197.out 4)))
        (try simp only [px_add0] at *)
        go_roundg k1
        case measure => have := HK1.out;omega
        case rel => exact ⟨(x5_1), (wrap64 (x10_1 + 1)), (by first|rfl|(simp;done)|(simp [*];done)), H', ⟨by have := HK1.out;omega⟩, ⟨by (with_reducible repeat (first|apply Kd.R_alloc|apply Kd.R_drewN|apply Kd.R_drew));exact Kd.R_mono (Kd.R_far (p := ⟨gb197, 4, none⟩) (Kd.R_far (p := ⟨gb197, 3, none⟩) (Kd.R_far (p := ⟨gb197, 2, none⟩) (Kd.R_far (p := ⟨gb197, 1, none⟩) (Kd.R_far (p := ⟨gb197, 0, none⟩) (Kd.R_types HO_5.out BK197.out (by decide)) (fun _ hk => hk.2) (.int .i64 ((rd_T36 l0 x10_1).f0))) (fun _ hk => hk.2) (.int .i64 ((rd_T36 l0 x10_1).f1))) (fun _ hk => hk.2) (.int .i64 ((rd_T36 l0 x10_1).f2))) (fun _ hk => hk.2) (.int .i64 ((rd_T36 l0 x10_1).f3))) (fun _ hk => hk.2) (.int .i64 ((rd_T36 l0 x10_1).f4))) (fun _ hk => trivial)⟩, ⟨by repeat (first|(with_reducible first|exact HB.out|apply xa|apply xb|apply xc|refine below_set ?_ GE197.out)|exact HB.out)⟩⟩
      ·rw [if_neg c6] at H
       have c6b0 : (((rd_T36 l0 x10_1).f0) == 2) = false := beq_eq_false_iff_ne.mpr c6
       have c6b1 : (((rd_T36 l0 x10_1).f0) != 2) = true := bne_iff_ne.mpr c6
       have H' := Aside0.mk H
       clear H
       have p196 : 0 ≤ (x10_1 : Int) := of_decide_eq_true (by assumption)
       have q196 : x10_1 < (l0.length : Int) := of_decide_eq_true (by assumption)
       obtain ⟨ad196, e196, hx196_0, hx196_1, hx196_2, hx196_3, hx196_4⟩ := at_T36 HR0.out x10_1 p196 q196
       cases e196
       replace hx196_0 := (HB.out.cell (World.block_lt_of_cell? w _ hx196_0)).trans hx196_0
       replace hx196_1 := (HB.out.cell (World.block_lt_of_cell? w _ hx196_1)).trans hx196_1
       replace hx196_2 := (HB.out.cell (World.block_lt_of_cell? w _ hx196_2)).trans hx196_2
       replace hx196_3 := (HB.out.cell (World.block_lt_of_cell? w _ hx196_3)).trans hx196_3
       replace hx196_4 := (HB.out.cell (World.block_lt_of_cell? w _ hx196_4)).trans hx196_4
       replace p196 := eq_true p196
       replace q196 := eq_true q196
       go_wp2_with (first|((with_reducible refine gate_dst (N := 7) rfl ?_);(try (refine gate_guard (by rfl) ?_;dsimp only));refine box_event ?hg (N := 7) ?hd (cs := #[.int .i64 0, .int .i64 0, .int .i64 0, .int .i64 0, .int .i64 0]) (t := 36) ?hr ?_;(case hd => rfl);(case hg => rfl);(case hr => first|(go_simp;done)|(go_simp;rfl));intro gb197 hg w28 hbox hb;have n0_ := Aside0.mk (Kd.R_below (by (with_reducible repeat (first|apply Kd.R_alloc|apply Kd.R_drewN|apply Kd.R_drew));exact HO_5.out) hb);have n1_ := Aside0.mk (below_step (by repeat (with_reducible first|exact HB.out|apply xa|apply xb|apply xc)) hb);have n2_ := Aside0.mk (hbox);have n3_ := Aside0.mk ((by rw [hg];exact (below_size (by repeat (with_reducible first|exact HB.out|apply xa|apply xb|apply xc))) : w.heap.size ≤ gb197));have n4_ := Aside0.mk ((by rw [hg];exact (below_size (by repeat (with_reducible first|exact HB.out|apply xa|apply xb|apply xc))) : w.heap.size ≤ gb197));clear HO_5;clear HB;have HO_5 := n0_;have HB := n1_;have BK197 := n2_;have GW197 := n3_;have GE197 := n4_;clear n0_ n1_ n2_ n3_ n4_;clear hb hbox hg;have hcz29_0 : w28.cell? ⟨gb197, 0, none⟩ = some (.int .i64 0) := (blk_cell BK197.out 0).trans rfl;have hcz29_1 : w28.cell? ⟨gb197, 1, none⟩ = some (.int .i64 0) := (blk_cell BK197.out 1).trans rfl;have hcz29_2 : w28.cell? ⟨gb197, 2, none⟩ = some (.int .i64 0) := (blk_cell BK197.out 2).trans rfl;have hcz29_3 : w28.cell? ⟨gb197, 3, none⟩ = some (.int .i64 0) := (blk_cell BK197.out 3).trans rfl;have hcz29_4 : w28.cell? ⟨gb197, 4, none⟩ = some (.int .i64 0) := (blk_cell BK197.out 4).trans rfl;have hfz29_0 := blk_frozen BK197.out 0;have hfz29_1 := blk_frozen BK197.out 1;have hfz29_2 := blk_frozen BK197.out 2;have hfz29_3 := blk_frozen BK197.out 3;have hfz29_4 := blk_frozen BK197.out 4))
       repeat (go_quiet (first|((with_reducible refine gate_dst (N := 7) rfl ?_);(try (refine gate_guard (by rfl) ?_;dsimp only));refine box_event ?hg (N := 7) ?hd (cs := #[.int .i64 0, .int .i64 0, .int .i64 0, .int .i64 0, .int .i64 0]) (t := 36) ?hr ?_;(case hd => rfl);(case hg => rfl);(case hr => first|(go_simp;done)|(go_simp;rfl));intro gb197 hg w28 hbox hb;have n0_ := Aside0.mk (Kd.R_below (by (with_reducible repeat (first|apply Kd.R_alloc|apply Kd.R_drewN|apply Kd.R_drew));exact HO_5.out) hb);have n1_ := Aside0.mk (below_step (by repeat (with_reducible first|exact HB.out|apply xa|apply xb|apply xc)) hb);have n2_ := Aside0.mk (hbox);have n3_ := Aside0.mk ((by rw [hg];exact (below_size (by repeat (with_reducible first|exact HB.out|apply xa|apply xb|apply xc))) : w.heap.size ≤ gb197));have n4_ := Aside0.mk ((by rw [hg];exact (below_size (by repeat (with_reducible first|exact HB.out|apply xa|apply xb|apply xc))) : w.heap.size ≤ gb197));clear HO_5;clear HB;have HO_5 := n0_;have HB := n1_;have BK197 := n2_;have GW197 := n3_;have GE197 := n4_;clear n0_ n1_ n2_ n3_ n4_;clear hb hbox hg;have hcz29_0 : w28.cell? ⟨gb197, 0, none⟩ = some (.int .i64 0) := (blk_cell BK197.out 0).trans rfl;have hcz29_1 : w28.cell? ⟨gb197, 1, none⟩ = some (.int .i64 0) := (blk_cell BK197.out 1).trans rfl;have hcz29_2 : w28.cell? ⟨gb197, 2, none⟩ = some (.int .i64 0) := (blk_cell BK197.out 2).trans rfl;have hcz29_3 : w28.cell? ⟨gb197, 3, none⟩ = some (.int .i64 0) := (blk_cell BK197.out 3).trans rfl;have hcz29_4 : w28.cell? ⟨gb197, 4, none⟩ = some (.int .i64 0) := (blk_cell BK197.out 4).trans rfl;have hfz29_0 := blk_frozen BK197.out 0;have hfz29_1 := blk_frozen BK197.out 1;have hfz29_2 := blk_frozen BK197.out 2;have hfz29_3 := blk_frozen BK197.out 3;have hfz29_4 := blk_frozen BK197.out 4));try go_wp2_with (first|((with_reducible refine gate_dst (N := 7) rfl ?_);(try (refine gate_guard (by rfl) ?_;dsimp only));refine box_event ?hg (N := 7) ?hd (cs := #[.int .i64 0, .int .i64 0, .int .i64 0, .int .i64 0, .int .i64 0]) (t := 36) ?hr ?_;(case hd => rfl);(case hg => rfl);(case hr => first|(go_simp;done)|(go_simp;rfl));intro gb197 hg w28 hbox hb;have n0_ := Aside0.mk (Kd.R_below (by (with_reducible repeat (first|apply Kd.R_alloc|apply Kd.R_drewN|apply Kd.R_drew));exact HO_5.out) hb);have n1_ := Aside0.mk (below_step (by repeat (with_reducible first|exact HB.out|apply xa|apply xb|apply xc)) hb);have n2_ := Aside0.mk (hbox);have n3_ := Aside0.mk ((by rw [hg];exact (below_size (by repeat (with_reducible first|exact HB.out|apply xa|apply xb|apply xc))) : w.heap.size ≤ gb197));have n4_ := Aside0.mk ((by rw [hg];exact (below_size (by repeat (with_reducible first|exact HB.out|apply xa|apply xb|apply xc))) : w.heap.size ≤ gb197));clear HO_5;clear HB;have HO_5 := n0_;have HB := n1_;have BK197 := n2_;have GW197 := n3_;have GE197 := n4_;clear n0_ n1_ n2_ n3_ n4_;clear hb hbox hg;have hcz29_0 : w28.cell? ⟨gb197, 0, none⟩ = some (.int .i64 0) := (blk_cell BK197.out 0).trans rfl;have hcz29_1 : w28.cell? ⟨gb197, 1, none⟩ = some (.int .i64 0) := (blk_cell BK197.out 1).trans rfl;have hcz29_2 : w28.cell? ⟨gb197, 2, none⟩ = some (.int .i64 0) := (blk_cell BK197.out 2).trans rfl;have hcz29_3 : w28.cell? ⟨gb197, 3, none⟩ = some (.int .i64 0) := (blk_cell BK197.out 3).trans rfl;have hcz29_4 : w28.cell? ⟨gb197, 4, none⟩ = some (.int .i64 0) := (blk_cell BK197.out 4).trans rfl;have hfz29_0 := blk_frozen BK197.out 0;have hfz29_1 := blk_frozen BK197.out 1;have hfz29_2 := blk_frozen BK197.out 2;have hfz29_3 := blk_frozen BK197.out 3;have hfz29_4 := blk_frozen BK197.out 4)))
       (try simp only [px_add0] at *)
       go_roundg k1
       case measure => have := HK1.out;omega
       case rel => exact ⟨(x5_1), (wrap64 (x10_1 + 1)), (by first|rfl|(simp;done)|(simp [*];done)), H', ⟨by have := HK1.out;omega⟩, ⟨by (with_reducible repeat (first|apply Kd.R_alloc|apply Kd.R_drewN|apply Kd.R_drew));exact Kd.R_mono (Kd.R_far (p := ⟨gb197, 4, none⟩) (Kd.R_far (p := ⟨gb197, 3, none⟩) (Kd.R_far (p := ⟨gb197, 2, none⟩) (Kd.R_far (p := ⟨gb197, 1, none⟩) (Kd.R_far (p := ⟨gb197, 0, none⟩) (Kd.R_types HO_5.out BK197.out (by decide)) (fun _ hk => hk.2) (.int .i64 ((rd_T36 l0 x10_1).f0))) (fun _ hk => hk.2) (.int .i64 ((rd_T36 l0 x10_1).f1))) (fun _ hk => hk.2) (.int .i64 ((rd_T36 l0 x10_1).f2))) (fun _ hk => hk.2) (.int .i64 ((rd_T36 l0 x10_1).f3))) (fun _ hk => hk.2) (.int .i64 ((rd_T36 l0 x10_1).f4))) (fun _ hk => trivial)⟩, ⟨by repeat (first|(with_reducible first|exact HB.out|apply xa|apply xb|apply xc|refine below_set ?_ GE197.out)|exact HB.out)⟩⟩
     ·rw [if_neg c5] at H
      exact absurd H (by simp)
    ·rw [if_neg c4] at H
     exact absurd H (by simp)
   ·rw [if_neg c3] at H
    have c3b0 : decide (x10_1 < (l0.length : Int)) = false := decide_eq_false c3
    clear c3
    obtain rfl := Option.some.inj H
    go_wp2
    repeat (go_quiet (fail);try go_wp2)
    go_ret
    exact ⟨_, by first|rfl|(simp [errW_none, errW_some] <;> rfl)|(simp [*, errW_none, errW_some] <;> rfl), by (with_reducible repeat (first|apply Kd.R_alloc|apply Kd.R_drewN|apply Kd.R_drew));exact HO_5.out, by repeat (with_reducible first|exact HB.out|apply xa|apply xb|apply xc)⟩

end Go.Proofs.Ytkegdcnnankokaa.PGan
