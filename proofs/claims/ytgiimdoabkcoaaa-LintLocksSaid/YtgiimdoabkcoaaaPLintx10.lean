/- Functions of the program as Lean functions, and proofs that the code comes to their answers: printed by this session's program. -/
import Derived.Test.YtgiimdoabkcoaaaPLintx0
import Derived.Test.YtgiimdoabkcoaaaPLintx9
namespace Go.Proofs.Ytgiimdoabkcoaaa.PLint
open Go.RowKit Go.Proofs.YtgiimdoabkcoaaaW.PrintWords Go.Proofs.YtgiimdoabkcoaaaW.PrintLast Go.Proofs.YtgiimdoabkcoaaaW.PrintMore
attribute [local go_sem] max2_int min2_int max_two min_two max_three min_three max_four min_four   -- for this text's walks alone
set_option linter.unusedVariables false
set_option linter.unusedSimpArgs false

mutual
def pinfoldref26_Sets.l0 : Nat → Int → List Int → List Int → Int → Int → List (S41) → Option (List Int × List Int)
 | 0, _, _, _, _, _, _ => none
 | k + 1, x1, x6, x7, x8, x289000, x289001 => if x8 < 16 then ((pinfoldref26_Held.f k x289000 x289001 x8 x1).bind fun bt295 => (pinfoldref26_Sets.l1 k x1 x6 x7 x8 bt295.1 bt295.2 (x6.length : Int) 0 x289000 x289001)) else (some (x6, x7))
def pinfoldref26_Sets.l1 : Nat → Int → List Int → List Int → Int → List Bool → List Bool → Int → Int → Int → List (S41) → Option (List Int × List Int)
 | 0, _, _, _, _, _, _, _, _, _, _ => none
 | k + 1, x1, x6, x7, x8, x9, x10, x32, x33, x289000, x289001 => if x33 < x32 then (if 0 ≤ x33 then (if x33 < (x9.length : Int) then (if rdOf false x9 x33 = true then (if x33 < (x6.length : Int) then (if 0 ≤ x8 then (pinfoldref26_Sets.j2 k x1 (x6.set (x33 : Int).toNat (IntKind.u16.wrap ((rd x6 x33) + (shl .u16 1 x8)))) x7 x8 x9 x10 x33 x32 x33 x289000 x289001) else (none)) else (none)) else (pinfoldref26_Sets.j2 k x1 x6 x7 x8 x9 x10 x33 x32 x33 x289000 x289001)) else (none)) else (none)) else (pinfoldref26_Sets.l0 k x1 x6 x7 (wrap64 (x8 + 1)) x289000 x289001)
def pinfoldref26_Sets.j2 : Nat → Int → List Int → List Int → Int → List Bool → List Bool → Int → Int → Int → Int → List (S41) → Option (List Int × List Int)
 | 0, _, _, _, _, _, _, _, _, _, _, _ => none
 | k + 1, x1, x6, x7, x8, x9, x10, x11, x32, x33, x289000, x289001 => if 0 ≤ x11 then (if x11 < (x10.length : Int) then (if rdOf false x10 x11 = true then (if x11 < (x7.length : Int) then (if 0 ≤ x8 then (pinfoldref26_Sets.l1 k x1 x6 (x7.set (x11 : Int).toNat (IntKind.u16.wrap ((rd x7 x11) + (shl .u16 1 x8)))) x8 x9 x10 x32 (wrap64 (x33 + 1)) x289000 x289001) else (none)) else (none)) else (pinfoldref26_Sets.l1 k x1 x6 x7 x8 x9 x10 x32 (wrap64 (x33 + 1)) x289000 x289001)) else (none)) else (none)
end
def pinfoldref26_Sets.f (k : Nat) (a0_0 : Int) (l0_1 : List (S41)) (a1 : Int) : Option (List Int × List Int) := if 0 ≤ (l0_1.length : Int) then (if ((l0_1.length : Int) : Int).toNat ≤ 140737488355328 then (pinfoldref26_Sets.l0 k a1 (List.replicate ((l0_1.length : Int) : Int).toNat 0) (List.replicate ((l0_1.length : Int) : Int).toNat 0) 0 a0_0 l0_1) else (none)) else (none)
theorem pinfoldref26_Sets.mono_l : ∀ k, (∀ y0 y1 y2 y3 y4 y5, LeO (pinfoldref26_Sets.l0 k y0 y1 y2 y3 y4 y5) (pinfoldref26_Sets.l0 (k + 1) y0 y1 y2 y3 y4 y5)) ∧ (∀ y0 y1 y2 y3 y4 y5 y6 y7 y8 y9, LeO (pinfoldref26_Sets.l1 k y0 y1 y2 y3 y4 y5 y6 y7 y8 y9) (pinfoldref26_Sets.l1 (k + 1) y0 y1 y2 y3 y4 y5 y6 y7 y8 y9)) ∧ (∀ y0 y1 y2 y3 y4 y5 y6 y7 y8 y9 y10, LeO (pinfoldref26_Sets.j2 k y0 y1 y2 y3 y4 y5 y6 y7 y8 y9 y10) (pinfoldref26_Sets.j2 (k + 1) y0 y1 y2 y3 y4 y5 y6 y7 y8 y9 y10))
 | 0 => ⟨fun _ _ _ _ _ _ r h => by simp [pinfoldref26_Sets.l0] at h, fun _ _ _ _ _ _ _ _ _ _ r h => by simp [pinfoldref26_Sets.l1] at h, fun _ _ _ _ _ _ _ _ _ _ _ r h => by simp [pinfoldref26_Sets.j2] at h⟩
 | k + 1 => by
  obtain ⟨ih0, ih1, ih2⟩ := pinfoldref26_Sets.mono_l k
  refine ⟨?_, ?_, ?_⟩
  ·intro y0 y1 y2 y3 y4 y5
   unfold pinfoldref26_Sets.l0
   repeat' first
   | (with_reducible exact ih0 _ _ _ _ _ _)
   | (with_reducible exact ih1 _ _ _ _ _ _ _ _ _ _)
   | (with_reducible exact ih2 _ _ _ _ _ _ _ _ _ _ _)
   | (with_reducible exact pinfoldref26_Held.mono _ _ _ _ _)
   | (with_reducible exact LeO.refl _)
   | (with_reducible exact LeO.none _)
   | (with_reducible refine LeO.ite ?_ ?_)
   | (with_reducible refine LeO.bind ?_ (fun _ => ?_))
   | exact ih0 _ _ _ _ _ _
   | exact ih1 _ _ _ _ _ _ _ _ _ _
   | exact ih2 _ _ _ _ _ _ _ _ _ _ _
   | exact pinfoldref26_Held.mono _ _ _ _ _
   | exact LeO.none _
   | refine LeO.ite ?_ ?_
   | refine LeO.bind ?_ (fun _ => ?_)
  ·intro y0 y1 y2 y3 y4 y5 y6 y7 y8 y9
   unfold pinfoldref26_Sets.l1
   repeat' first
   | (with_reducible exact ih0 _ _ _ _ _ _)
   | (with_reducible exact ih1 _ _ _ _ _ _ _ _ _ _)
   | (with_reducible exact ih2 _ _ _ _ _ _ _ _ _ _ _)
   | (with_reducible exact pinfoldref26_Held.mono _ _ _ _ _)
   | (with_reducible exact LeO.refl _)
   | (with_reducible exact LeO.none _)
   | (with_reducible refine LeO.ite ?_ ?_)
   | (with_reducible refine LeO.bind ?_ (fun _ => ?_))
   | exact ih0 _ _ _ _ _ _
   | exact ih1 _ _ _ _ _ _ _ _ _ _
   | exact ih2 _ _ _ _ _ _ _ _ _ _ _
   | exact pinfoldref26_Held.mono _ _ _ _ _
   | exact LeO.none _
   | refine LeO.ite ?_ ?_
   | refine LeO.bind ?_ (fun _ => ?_)
  ·intro y0 y1 y2 y3 y4 y5 y6 y7 y8 y9 y10
   unfold pinfoldref26_Sets.j2
   repeat' first
   | (with_reducible exact ih0 _ _ _ _ _ _)
   | (with_reducible exact ih1 _ _ _ _ _ _ _ _ _ _)
   | (with_reducible exact ih2 _ _ _ _ _ _ _ _ _ _ _)
   | (with_reducible exact pinfoldref26_Held.mono _ _ _ _ _)
   | (with_reducible exact LeO.refl _)
   | (with_reducible exact LeO.none _)
   | (with_reducible refine LeO.ite ?_ ?_)
   | (with_reducible refine LeO.bind ?_ (fun _ => ?_))
   | exact ih0 _ _ _ _ _ _
   | exact ih1 _ _ _ _ _ _ _ _ _ _
   | exact ih2 _ _ _ _ _ _ _ _ _ _ _
   | exact pinfoldref26_Held.mono _ _ _ _ _
   | exact LeO.none _
   | refine LeO.ite ?_ ?_
   | refine LeO.bind ?_ (fun _ => ?_)
theorem pinfoldref26_Sets.mono : ∀ a0 a1 a2 k, LeO (pinfoldref26_Sets.f k a0 a1 a2) (pinfoldref26_Sets.f (k + 1) a0 a1 a2) := by
 intro a0 a1 a2 k
 obtain ⟨ih0, ih1, ih2⟩ := pinfoldref26_Sets.mono_l k
 unfold pinfoldref26_Sets.f
 repeat' first
   | (with_reducible exact ih0 _ _ _ _ _ _)
   | (with_reducible exact ih1 _ _ _ _ _ _ _ _ _ _)
   | (with_reducible exact ih2 _ _ _ _ _ _ _ _ _ _ _)
   | (with_reducible exact pinfoldref26_Held.mono _ _ _ _ _)
   | (with_reducible exact LeO.refl _)
   | (with_reducible exact LeO.none _)
   | (with_reducible refine LeO.ite ?_ ?_)
   | (with_reducible refine LeO.bind ?_ (fun _ => ?_))
   | exact ih0 _ _ _ _ _ _
   | exact ih1 _ _ _ _ _ _ _ _ _ _
   | exact ih2 _ _ _ _ _ _ _ _ _ _ _
   | exact pinfoldref26_Held.mono _ _ _ _ _
   | exact LeO.none _
   | refine LeO.ite ?_ ?_
   | refine LeO.bind ?_ (fun _ => ?_)
def pinfoldref26_Sets.T11 : Bool × List (List Nat × List Nat) := (true, [([], []), ([], []), ([0, 1], [0, 1]), ([2], [2]), ([], []), ([4], [4]), ([3, 5], [3, 5]), ([0, 1, 0, 1, 2, 3, 4, 5, 6], [0, 1]), ([7, 6, 0, 1, 2, 3, 4, 5, 6], [6, 7])])
def pinfoldref26_Sets.B11 : List Nat := [0, 0, 3, 7, 0, 16, 63, 127, 255]
theorem pinfoldref26_Sets.tab11 : rtab .any (opsOf Try.f23 11) = pinfoldref26_Sets.T11 := by kernel_rfl
theorem pinfoldref26_Sets.bits11 : waitsOk pinfoldref26_Sets.T11.2 pinfoldref26_Sets.B11 = true := by kernel_rfl
def pinfoldref26_Sets.T13 : Bool × List (List Nat × List Nat) := (true, [([], []), ([], []), ([0, 1], [0, 1]), ([2], [2]), ([], []), ([4], [4]), ([3, 5], [3, 5]), ([0, 1, 0, 1, 2, 3, 4, 5, 6], [0, 1]), ([7, 6, 0, 1, 2, 3, 4, 5, 6], [6, 7])])
def pinfoldref26_Sets.B13 : List Nat := [0, 0, 3, 7, 0, 16, 63, 127, 255]
theorem pinfoldref26_Sets.tab13 : rtab .any (opsOf Try.f23 13) = pinfoldref26_Sets.T13 := by kernel_rfl
theorem pinfoldref26_Sets.bits13 : waitsOk pinfoldref26_Sets.T13.2 pinfoldref26_Sets.B13 = true := by kernel_rfl
set_option maxHeartbeats 8000000 in
set_option maxRecDepth 100000 in
theorem pinfoldref26_Sets.calls (k : Nat) (a0_0 : Int) (A0_1 : Option Addr) (c0_1 : Nat) (l0_1 : List (S41)) (a1 : Int) (r1 : List Int) (r2 : List Int) (w : World) (hr0_1 : Kd.C k41 w A0_1 l0_1.length l0_1) (hc0_1 : l0_1.length ≤ c0_1) (h : pinfoldref26_Sets.f k a0_0 l0_1 a1 = some (r1, r2)) :
  Calls Try.prog 23 #[.agg #[.int .i64 a0_0, .slice A0_1 l0_1.length c0_1], .int .i64 a1] w fun e w' => ∃ v0_ v1_ : Value, e = .returned (.tuple #[v0_, v1_]) ∧ Kd.R (Kd.int .u16) 39 w' w.heap.size (fun k_ => some k_ ≠ (v1_ : Value).ownBlock) v0_ r1 ∧ Kd.R (Kd.int .u16) 39 w' w.heap.size (fun k_ => some k_ ≠ (v0_ : Value).ownBlock) v1_ r2 ∧ Below w.heap.size w w' := by
 have hu24 := Try.underlying24
 have HR0_1 := Aside0.mk hr0_1
 have HC0_1 := Aside0.mk hc0_1
 clear hr0_1 hc0_1
 have HB := Aside0.mk (Below.refl w.heap.size w)
 have H : (if 0 ≤ (l0_1.length : Int) then (if ((l0_1.length : Int) : Int).toNat ≤ 140737488355328 then (pinfoldref26_Sets.l0 k a1 (List.replicate ((l0_1.length : Int) : Int).toNat 0) (List.replicate ((l0_1.length : Int) : Int).toNat 0) 0 a0_0 l0_1) else (none)) else (none)) = some (r1, r2) := h
 clear h
 by_cases c3 : 0 ≤ (l0_1.length : Int)
 ·rw [if_pos c3] at H
  have c3b0 := eq_true c3
  have c3b1 : decide (0 ≤ (l0_1.length : Int)) = true := decide_eq_true c3
  clear c3
  by_cases c4 : ((l0_1.length : Int) : Int).toNat ≤ 140737488355328
  ·rw [if_pos c4] at H
   have c4b0 := eq_true c4
   have c4b1 : decide (((l0_1.length : Int) : Int).toNat ≤ 140737488355328) = true := decide_eq_true c4
   clear c4
   obtain ⟨y289, hy289⟩ : ∃ y_ : List Int, y_ = (List.replicate ((l0_1.length : Int) : Int).toNat 0) := ⟨_, rfl⟩
   replace H : (pinfoldref26_Sets.l0 k a1 y289 (List.replicate ((l0_1.length : Int) : Int).toNat 0) 0 a0_0 l0_1) = some (r1, r2) := by first|(rw [hy289];with_reducible exact H)|(have H2_ := (Option.bind_some _ _).symm.trans H;rw [hy289];with_reducible exact H2_)|(have H2_ := (Option.bind_some _ _).symm.trans H;with_reducible exact H2_)|with_reducible exact H|(rw [hy289];exact H)|exact H
   have Ny289 := Aside0.mk hy289
   clear hy289
   obtain ⟨y292, hy292⟩ : ∃ y_ : List Int, y_ = (List.replicate ((l0_1.length : Int) : Int).toNat 0) := ⟨_, rfl⟩
   replace H : (pinfoldref26_Sets.l0 k a1 y289 y292 0 a0_0 l0_1) = some (r1, r2) := by first|(rw [hy292];with_reducible exact H)|(have H2_ := (Option.bind_some _ _).symm.trans H;rw [hy292];with_reducible exact H2_)|(have H2_ := (Option.bind_some _ _).symm.trans H;with_reducible exact H2_)|with_reducible exact H|(rw [hy292];exact H)|exact H
   have Ny292 := Aside0.mk hy292
   clear hy292
   have H' := Aside0.mk H
   clear H
   go_enter Try.func23, Try.ntmps23
   go_wp2_with (first|((with_reducible refine gate_dst (N := 2) rfl ?_);refine box_event ?hg (N := 2) ?hd (cs := #[.int .i64 a0_0, .slice A0_1 l0_1.length c0_1]) (t := 24) ?hr ?_;(case hd => rfl);(case hg => rfl);(case hr => first|(go_simp;done)|(go_simp;rfl));intro gb288 hg w5 hbox hb;have n0_ := Aside0.mk (below_step (by repeat (with_reducible first|exact HB.out|apply xa|apply xb|apply xc)) hb);have n1_ := Aside0.mk (hbox);have n2_ := Aside0.mk ((by rw [hg];exact (below_size (by repeat (with_reducible first|exact HB.out|apply xa|apply xb|apply xc))) : w.heap.size ≤ gb288));have n3_ := Aside0.mk ((by rw [hg];exact (below_size (by repeat (with_reducible first|exact HB.out|apply xa|apply xb|apply xc))) : w.heap.size ≤ gb288));clear HB;have HB := n0_;have BK288 := n1_;have GW288 := n2_;have GE288 := n3_;clear n0_ n1_ n2_ n3_;clear hb hbox hg;have hcz6_0 : w5.cell? ⟨gb288, 0, none⟩ = some (.int .i64 a0_0) := (blk_cell BK288.out 0).trans rfl;have hcz6_1 : w5.cell? ⟨gb288, 1, none⟩ = some (.slice A0_1 l0_1.length c0_1) := (blk_cell BK288.out 1).trans rfl;have hfz6_0 := blk_frozen BK288.out 0;have hfz6_1 := blk_frozen BK288.out 1)|((with_reducible refine gate_dst (N := 15) rfl ?_);refine Kd.R_make (Kd.int .u16) _ 39 rfl (N := 15) rfl 35 _ _ rfl (l0_1.length : Int) rfl rfl Try.underlying35 (.int .u16 0) 2 info39 rfl (by decide) (by omega) 0 (ok := fun _ => True) (okp := fun _ => True) rfl (fun _ hk => hk) trivial (of_decide_eq_true (by assumption)) (Nat.le_trans (Nat.mul_le_mul_right _ (of_decide_eq_true (by assumption) : (l0_1.length : Int).toNat ≤ 140737488355328)) (by omega)) (Below.refl _ _) (Nat.le_refl _) ?_;intro v290 w7 ho8 hb hg_ hnew_;clear hg_ hnew_;(first|rw [← Ny289.out] at ho8|(simp only [Int.reduceToNat] at ho8;rw [← Ny289.out] at ho8));have n0_ := Aside0.mk (Kd.R_lower ho8 (below_size (by repeat (first|(with_reducible first|exact HB.out|apply xa|apply xb|apply xc|refine below_set ?_ GE288.out)|exact HB.out))));have n1_ := Aside0.mk (blk_below (g := gb288) (o := .cells #[.int .i64 a0_0, .slice A0_1 l0_1.length c0_1] 24 (0, 0)) (by (with_reducible repeat (first|apply blk_drewN|apply blk_drew|apply blk_alloc));exact BK288.out) hb);have n2_ := Aside0.mk (below_step (by repeat (first|(with_reducible first|exact HB.out|apply xa|apply xb|apply xc|refine below_set ?_ GE288.out)|exact HB.out)) hb);clear BK288;clear HB;have HO291 := n0_;have BK288 := n1_;have HB := n2_;clear n0_ n1_ n2_;clear hb ho8;have hcz9_0 : w7.cell? ⟨gb288, 0, none⟩ = some (.int .i64 a0_0) := (blk_cell BK288.out 0).trans rfl;have hcz9_1 : w7.cell? ⟨gb288, 1, none⟩ = some (.slice A0_1 l0_1.length c0_1) := (blk_cell BK288.out 1).trans rfl;have hfz9_0 := blk_frozen BK288.out 0;have hfz9_1 := blk_frozen BK288.out 1)|((with_reducible refine gate_dst (N := 19) rfl ?_);refine Kd.R_make (Kd.int .u16) _ 39 rfl (N := 19) rfl 35 _ _ rfl (l0_1.length : Int) rfl rfl Try.underlying35 (.int .u16 0) 2 info39 rfl (by decide) (by omega) 0 (ok := fun _ => True) (okp := fun _ => True) rfl (fun _ hk => hk) trivial (of_decide_eq_true (by assumption)) (Nat.le_trans (Nat.mul_le_mul_right _ (of_decide_eq_true (by assumption) : (l0_1.length : Int).toNat ≤ 140737488355328)) (by omega)) (Below.refl _ _) (Nat.le_refl _) ?_;intro v293 w10 ho11 hb hg_ hnew_;clear hg_ hnew_;(first|rw [← Ny292.out] at ho11|(simp only [Int.reduceToNat] at ho11;rw [← Ny292.out] at ho11));have n0_ := Aside0.mk (Kd.R_elder' (by (with_reducible repeat (first|apply Kd.R_alloc|apply Kd.R_drewN|apply Kd.R_drew));exact HO291.out) (Kd.R_base ho11) hb);have n1_ := Aside0.mk (Kd.R_lower (Kd.R_new' ho11 (Kd.R_lt (by (with_reducible repeat (first|apply Kd.R_alloc|apply Kd.R_drewN|apply Kd.R_drew));exact HO291.out))) (below_size (by repeat (first|(with_reducible first|exact HB.out|apply xa|apply xb|apply xc|refine below_set ?_ GE288.out)|exact HB.out))));have n2_ := Aside0.mk (blk_below (g := gb288) (o := .cells #[.int .i64 a0_0, .slice A0_1 l0_1.length c0_1] 24 (0, 0)) (by (with_reducible repeat (first|apply blk_drewN|apply blk_drew|apply blk_alloc));exact BK288.out) hb);have n3_ := Aside0.mk (below_step (by repeat (first|(with_reducible first|exact HB.out|apply xa|apply xb|apply xc|refine below_set ?_ GE288.out)|exact HB.out)) hb);clear HO291;clear BK288;clear HB;have HO291 := n0_;have HO294 := n1_;have BK288 := n2_;have HB := n3_;clear n0_ n1_ n2_ n3_;clear hb ho11))
   go_loopg [8] k (fun kq v8 w' => ∃ (x6_1 : List Int) (x7_1 : List Int) (x8_1 : Int), v8 = .int .i64 x8_1 ∧ Aside0 (pinfoldref26_Sets.l0 kq a1 x6_1 x7_1 x8_1 a0_0 l0_1 = some (r1, r2)) ∧ Aside0 (kq ≤ k) ∧ Aside0 (Kd.R (Kd.int .u16) 39 w' w.heap.size (fun k_ => some k_ ≠ (v293 : Value).ownBlock) v290 x6_1) ∧ Aside0 (Kd.R (Kd.int .u16) 39 w' w.heap.size (fun k_ => some k_ ≠ (v290 : Value).ownBlock) v293 x7_1) ∧ Aside0 (w'.heap[gb288]? = some (.cells #[.int .i64 a0_0, (.slice A0_1 l0_1.length c0_1)] 24 (0, 0))) ∧ Aside0 (Below w.heap.size w w'))
   case atStart => exact ⟨(y289), (y292), (0), (by first|rfl|(simp;done)|(simp [*];done)), H', ⟨Nat.le_refl _⟩, ⟨by (with_reducible repeat (first|apply Kd.R_alloc|apply Kd.R_drewN|apply Kd.R_drew));exact Kd.R_mono HO291.out (fun _ hk => hk.2)⟩, ⟨by (with_reducible repeat (first|apply Kd.R_alloc|apply Kd.R_drewN|apply Kd.R_drew));exact Kd.R_mono HO294.out (fun _ hk => hk.2)⟩, ⟨by (with_reducible repeat (first|apply blk_drewN|apply blk_drew|apply blk_alloc));exact BK288.out⟩, ⟨by repeat (first|(with_reducible first|exact HB.out|apply xa|apply xb|apply xc|refine below_set ?_ GE288.out)|exact HB.out)⟩⟩
   case round =>
    clear H'
    try clear c2
    try clear p2
    try clear c3
    try clear c3b0
    try clear c3b1
    try clear c4
    try clear c4b0
    try clear c4b1
    try clear hcz6_0
    try clear hcz6_1
    try clear hcz9_0
    try clear hcz9_1
    try clear hfz6_0
    try clear hfz6_1
    try clear hfz9_0
    try clear hfz9_1
    obtain ⟨x6_1, x7_1, x8_1, rfl, HA, HK1, HO_6, HO_7, BK288, HB⟩ := hrel
    cases gk with
    | zero => exact absurd HA.out (by simp [pinfoldref26_Sets.l0])
    | succ k1 =>
     have H := HA.out
     clear HA
     simp only [pinfoldref26_Sets.l0] at H
     by_cases c12 : x8_1 < 16
     ·rw [if_pos c12] at H
      have c12b0 : decide (x8_1 < 16) = true := decide_eq_true c12
      clear c12
      replace H := Option.bind_eq_some_iff.mp H
      obtain ⟨⟨t295, t298⟩, A130, H⟩ := H
      replace H : (pinfoldref26_Sets.l1 k1 a1 x6_1 x7_1 x8_1 t295 t298 (x6_1.length : Int) 0 a0_0 l0_1) = some (r1, r2) := H
      have A13 := Aside0.mk A130
      clear A130
      have H' := Aside0.mk H
      clear H
      have hcz14_0 : wr.cell? ⟨gb288, 0, none⟩ = some (.int .i64 a0_0) := (blk_cell BK288.out 0).trans rfl
      have hcz14_1 : wr.cell? ⟨gb288, 1, none⟩ = some (.slice A0_1 l0_1.length c0_1) := (blk_cell BK288.out 1).trans rfl
      have hfz14_0 := blk_frozen BK288.out 0
      have hfz14_1 := blk_frozen BK288.out 1
      go_wp2_with (first|((with_reducible refine gate_callee (f := 61) rfl ?_);refine goesL_ (some 28) rfl rfl Try.func61 (by kernel_rfl) rfl #[.agg #[.int .i64 a0_0, .slice A0_1 l0_1.length c0_1], .int .i64 x8_1, .int .i64 a1] rfl (by (try simp only [List.map_toArray, List.map_cons, List.map_nil]);first|done|rfl|(simp only [List.length_drop, List.length_take];rfl)) ?_;(with_reducible refine (pinfoldref26_Held.calls k1 a0_0 _ _ l0_1 x8_1 a1 t295 t298 _ ?side1 ?side2 A13.out).mono ?_);(case side1 => repeat (first|exact (Kd.C_below HR0_1.out HB.out)|(with_reducible refine Kd.C_alloc ?_ _)|(with_reducible refine Kd.C_drewN ?_ _)|(with_reducible refine Kd.C_drew ?_)));(case side2 => exact HC0_1.out);rintro e w15 ⟨v296, v299, rfl, ho0, ho1, hb⟩;refine ⟨_, rfl, ?_⟩;have n0_ := Aside0.mk (Kd.R_below (by (with_reducible repeat (first|apply Kd.R_alloc|apply Kd.R_drewN|apply Kd.R_drew));exact HO_6.out) hb);have n1_ := Aside0.mk (Kd.R_below (by (with_reducible repeat (first|apply Kd.R_alloc|apply Kd.R_drewN|apply Kd.R_drew));exact HO_7.out) hb);have n2_ := Aside0.mk (Kd.R_lower ho0 (below_size (by repeat (first|(with_reducible first|exact HB.out|apply xa|apply xb|apply xc|refine below_set ?_ GE288.out)|exact HB.out))));have n3_ := Aside0.mk (Kd.R_lower ho1 (below_size (by repeat (first|(with_reducible first|exact HB.out|apply xa|apply xb|apply xc|refine below_set ?_ GE288.out)|exact HB.out))));have n4_ := Aside0.mk (blk_below (g := gb288) (o := .cells #[.int .i64 a0_0, .slice A0_1 l0_1.length c0_1] 24 (0, 0)) (by (with_reducible repeat (first|apply blk_drewN|apply blk_drew|apply blk_alloc));exact BK288.out) hb);have n5_ := Aside0.mk (below_step (by repeat (first|(with_reducible first|exact HB.out|apply xa|apply xb|apply xc|refine below_set ?_ GE288.out)|exact HB.out)) hb);clear HO_6;clear HO_7;clear BK288;clear HB;have HO_6 := n0_;have HO_7 := n1_;have HO297 := n2_;have HO300 := n3_;have BK288 := n4_;have HB := n5_;clear n0_ n1_ n2_ n3_ n4_ n5_;(try clear hb);(try clear hb2);(try clear hk);(try clear hi);(try clear ho0);(try clear ho1);obtain ⟨Ao16, co16, eo16⟩ := Kd.R_slice HO_6.out;subst eo16))
      go_loopg [33] k1 (fun kq v33 w' => ∃ (x6_2 : List Int) (x7_2 : List Int) (x33_2 : Int), v33 = .int .i64 x33_2 ∧ Aside0 (pinfoldref26_Sets.l1 kq a1 x6_2 x7_2 x8_1 t295 t298 (x6_1.length : Int) x33_2 a0_0 l0_1 = some (r1, r2)) ∧ Aside0 (kq ≤ k1) ∧ Aside0 (Kd.R (Kd.int .u16) 39 w' w.heap.size (fun k_ => some k_ ≠ (v293 : Value).ownBlock) (.slice Ao16 x6_1.length co16) x6_2) ∧ Aside0 (Kd.R (Kd.int .u16) 39 w' w.heap.size (fun k_ => some k_ ≠ ((.slice Ao16 x6_1.length co16) : Value).ownBlock) v293 x7_2) ∧ Aside0 (Kd.R Kd.bool 4 w' w.heap.size (fun k_ => some k_ ≠ (v299 : Value).ownBlock) v296 t295) ∧ Aside0 (Kd.R Kd.bool 4 w' w.heap.size (fun k_ => some k_ ≠ (v296 : Value).ownBlock) v299 t298) ∧ Aside0 (w'.heap[gb288]? = some (.cells #[.int .i64 a0_0, (.slice A0_1 l0_1.length c0_1)] 24 (0, 0))) ∧ Aside0 (Below w.heap.size w w'))
      case atStart => exact ⟨(x6_1), (x7_1), (0), (by first|rfl|(simp;done)|(simp [*];done)), H', ⟨Nat.le_refl _⟩, ⟨by (with_reducible repeat (first|apply Kd.R_alloc|apply Kd.R_drewN|apply Kd.R_drew));exact HO_6.out⟩, ⟨by (with_reducible repeat (first|apply Kd.R_alloc|apply Kd.R_drewN|apply Kd.R_drew));exact HO_7.out⟩, ⟨by (with_reducible repeat (first|apply Kd.R_alloc|apply Kd.R_drewN|apply Kd.R_drew));exact HO297.out⟩, ⟨by (with_reducible repeat (first|apply Kd.R_alloc|apply Kd.R_drewN|apply Kd.R_drew));exact HO300.out⟩, ⟨by (with_reducible repeat (first|apply blk_drewN|apply blk_drew|apply blk_alloc));exact BK288.out⟩, ⟨by repeat (first|(with_reducible first|exact HB.out|apply xa|apply xb|apply xc|refine below_set ?_ GE288.out)|exact HB.out)⟩⟩
      case round =>
       clear H'
       try clear c1
       try clear c2
       try clear p2
       try clear c3
       try clear c3b0
       try clear c3b1
       try clear c4
       try clear c4b0
       try clear c4b1
       try clear c6
       try clear c12
       try clear c12b0
       try clear hcz14_0
       try clear hcz14_1
       try clear hcz6_0
       try clear hcz6_1
       try clear hcz9_0
       try clear hcz9_1
       try clear hfz14_0
       try clear hfz14_1
       try clear hfz6_0
       try clear hfz6_1
       try clear hfz9_0
       try clear hfz9_1
       try clear p2
       obtain ⟨x6_2, x7_2, x33_2, rfl, HA, HK2, HO_6, HO_7, HO_9, HO_10, BK288, HB⟩ := hrel
       have hl6_2 := (Kd.R_reads' HO_6.out).1
       rw [hl6_2] at HO_6
       (try simp only [hl6_2])
       (try simp only [hl6_2] at BK288)
       (try simp only [hl6_2] at HO_7)
       (try simp only [hl6_2] at HO_9)
       (try simp only [hl6_2] at HO_10)
       cases gk with
       | zero => exact absurd HA.out (by simp [pinfoldref26_Sets.l1])
       | succ k2 =>
        have H := HA.out
        clear HA
        simp only [pinfoldref26_Sets.l1] at H
        by_cases c17 : x33_2 < (x6_1.length : Int)
        ·rw [if_pos c17] at H
         have c17b0 : decide (x33_2 < (x6_1.length : Int)) = true := decide_eq_true c17
         have c17b9 := c17b0
         (try simp only [hl6_2] at c17b9)
         clear c17
         by_cases c18 : 0 ≤ x33_2
         ·rw [if_pos c18] at H
          have c18b0 : decide (0 ≤ x33_2) = true := decide_eq_true c18
          clear c18
          by_cases c19 : x33_2 < (t295.length : Int)
          ·rw [if_pos c19] at H
           have c19b0 : decide (x33_2 < (t295.length : Int)) = true := decide_eq_true c19
           clear c19
           have HC20 := Aside0.mk H
           clear H
           obtain ⟨Ao21, co21, eo21⟩ := Kd.R_slice HO_9.out
           subst eo21
           have p301 : 0 ≤ (x33_2 : Int) := of_decide_eq_true (by assumption)
           have q301 : x33_2 < (t295.length : Int) := of_decide_eq_true (by assumption)
           obtain ⟨ad301, e301, hx301_0⟩ := Kd.at_bool (Kd.R_reads' HO_9.out).2.2 x33_2 p301 q301
           cases e301
           replace p301 := eq_true p301
           replace q301 := eq_true q301
           go_upto_if 39 with (fail)
           go_cut [] (fun wc => ∃ (kq : Nat) (x6_19 : List Int), Aside0 (pinfoldref26_Sets.j2 kq a1 x6_19 x7_2 x8_1 t295 t298 x33_2 (x6_1.length : Int) x33_2 a0_0 l0_1 = some (r1, r2)) ∧ Aside0 (kq ≤ k2) ∧ Aside0 (Kd.R (Kd.int .u16) 39 wc w.heap.size (fun k_ => some k_ ≠ (v293 : Value).ownBlock) (.slice Ao16 x6_2.length co16) x6_19) ∧ Aside0 (Kd.R (Kd.int .u16) 39 wc w.heap.size (fun k_ => some k_ ≠ ((.slice Ao16 x6_2.length co16) : Value).ownBlock) v293 x7_2) ∧ Aside0 (Kd.R Kd.bool 4 wc w.heap.size (fun k_ => some k_ ≠ (v299 : Value).ownBlock) (.slice (some ad301) t295.length co21) t295) ∧ Aside0 (Kd.R Kd.bool 4 wc w.heap.size (fun k_ => some k_ ≠ ((.slice (some ad301) t295.length co21) : Value).ownBlock) v299 t298) ∧ Aside0 (wc.heap[gb288]? = some (.cells #[.int .i64 a0_0, (.slice A0_1 l0_1.length c0_1)] 24 (0, 0))) ∧ Aside0 (Below w.heap.size w wc))
           case first =>
            have H := HC20.out
            clear HC20
            obtain ⟨bq22, hbq22⟩ : ∃ b_ : Bool, b_ = (rdOf false t295 x33_2) := ⟨_, rfl⟩
            replace H : (if bq22 = true then (if x33_2 < (x6_2.length : Int) then (if 0 ≤ x8_1 then (pinfoldref26_Sets.j2 k2 a1 (x6_2.set (x33_2 : Int).toNat (IntKind.u16.wrap ((rd x6_2 x33_2) + (shl .u16 1 x8_1)))) x7_2 x8_1 t295 t298 x33_2 (x6_1.length : Int) x33_2 a0_0 l0_1) else (none)) else (none)) else (pinfoldref26_Sets.j2 k2 a1 x6_2 x7_2 x8_1 t295 t298 x33_2 (x6_1.length : Int) x33_2 a0_0 l0_1)) = some (r1, r2) := by rw [← hbq22] at H;exact H
            have Nbq22 := Aside0.mk hbq22
            (try rw [← Nbq22.out] at c17b0)
            (try rw [← Nbq22.out] at c17b1)
            (try rw [← Nbq22.out] at c17b2)
            (try rw [← Nbq22.out] at c17b3)
            (try rw [← Nbq22.out] at c18b0)
            (try rw [← Nbq22.out] at c18b1)
            (try rw [← Nbq22.out] at c18b2)
            (try rw [← Nbq22.out] at c18b3)
            (try rw [← Nbq22.out] at c19b0)
            (try rw [← Nbq22.out] at c19b1)
            (try rw [← Nbq22.out] at c19b2)
            (try rw [← Nbq22.out] at c19b3)
            clear hbq22
            (try rw [← Nbq22.out])
            by_cases c23 : bq22 = true
            ·subst c23
             have H1 : (if x33_2 < (x6_2.length : Int) then (if 0 ≤ x8_1 then (pinfoldref26_Sets.j2 k2 a1 (x6_2.set (x33_2 : Int).toNat (IntKind.u16.wrap ((rd x6_2 x33_2) + (shl .u16 1 x8_1)))) x7_2 x8_1 t295 t298 x33_2 (x6_1.length : Int) x33_2 a0_0 l0_1) else (none)) else (none)) = some (r1, r2) := by rw [if_pos rfl] at H;exact H
             clear H
             have H := H1
             clear H1
             by_cases c24 : x33_2 < (x6_2.length : Int)
             ·rw [if_pos c24] at H
              have c24b0 : decide (x33_2 < (x6_2.length : Int)) = true := decide_eq_true c24
              have c24b9 := c24b0
              (try simp only [hl6_2] at c24b9)
              clear c24
              by_cases c25 : 0 ≤ x8_1
              ·rw [if_pos c25] at H
               have c25b0 := eq_true c25
               have c25b1 : decide (0 ≤ x8_1) = true := decide_eq_true c25
               clear c25
               obtain ⟨ji26, hji26⟩ : ∃ j_ : Int, (shl .u16 1 x8_1) = j_ := ⟨_, rfl⟩
               replace H : (pinfoldref26_Sets.j2 k2 a1 (x6_2.set (x33_2 : Int).toNat (IntKind.u16.wrap ((rd x6_2 x33_2) + (ji26)))) x7_2 x8_1 t295 t298 x33_2 (x6_1.length : Int) x33_2 a0_0 l0_1) = some (r1, r2) := by first|(rw [hji26] at H;exact H)|(simp only [hji26] at H ⊢;exact H)
               have hji26_ : (IntKind.u16.wrap (1 * 2 ^ min x8_1.toNat 16)) = ji26 := hji26
               have hji26z : x8_1 ≤ 16 → (IntKind.u16.wrap (1 * 2 ^ x8_1.toNat)) = ji26 := shl_small hji26
               have hji26u : (IntKind.u16.wrap (2 ^ min x8_1.toNat 16)) = ji26 := by have h_ := hji26_;rw [Int.one_mul] at h_;exact h_
               have hji26v : x8_1 ≤ 16 → (IntKind.u16.wrap (2 ^ x8_1.toNat)) = ji26 := fun hle_ => by have h_ := hji26z hle_;rw [Int.one_mul] at h_;exact h_
               obtain ⟨y303, hy303⟩ : ∃ y_ : List Int, y_ = (x6_2.set (x33_2 : Int).toNat (IntKind.u16.wrap ((rd x6_2 x33_2) + (ji26)))) := ⟨_, rfl⟩
               replace H : (pinfoldref26_Sets.j2 k2 a1 y303 x7_2 x8_1 t295 t298 x33_2 (x6_1.length : Int) x33_2 a0_0 l0_1) = some (r1, r2) := by first|(rw [hy303];with_reducible exact H)|(have H2_ := (Option.bind_some _ _).symm.trans H;rw [hy303];with_reducible exact H2_)|(have H2_ := (Option.bind_some _ _).symm.trans H;with_reducible exact H2_)|with_reducible exact H|(rw [hy303];exact H)|exact H
               have Ny303 := Aside0.mk hy303
               clear hy303
               have H' := Aside0.mk H
               clear H
               try go_wp2
               have n0_ := Aside0.mk (Kd.R_drew HO_6.out)
               have n1_ := Aside0.mk (Kd.R_drew HO_7.out)
               have n2_ := Aside0.mk (Kd.R_drew HO_9.out)
               have n3_ := Aside0.mk (Kd.R_drew HO_10.out)
               have n4_ := Aside0.mk (blk_drew BK288.out)
               have n5_ := Aside0.mk (below_drew1 HB.out)
               clear HO_6
               clear HO_7
               clear HO_9
               clear HO_10
               clear BK288
               clear HB
               have HO_6 := n0_
               have HO_7 := n1_
               have HO_9 := n2_
               have HO_10 := n3_
               have BK288 := n4_
               have HB := n5_
               clear n0_ n1_ n2_ n3_ n4_ n5_
               have p302 : 0 ≤ (x33_2 : Int) := of_decide_eq_true (by assumption)
               have q302 : x33_2 < (x6_2.length : Int) := of_decide_eq_true (by assumption)
               obtain ⟨ad302, e302, hx302_0⟩ := Kd.at_int (Kd.R_reads' HO_6.out).2.2 x33_2 p302 q302
               cases e302
               replace p302 := eq_true p302
               replace q302 := eq_true q302
               have p27 : 0 ≤ (x33_2 : Int) := of_decide_eq_true (by assumption)
               have q27 : (x33_2 : Int) < ((x6_2.length : Int) : Int) := of_decide_eq_true (by assumption)
               obtain ⟨go27, co27, eo27, gb27, gl27, cl27, HG27⟩ := Kd.R_form HO_6.out (by omega)
               (first|cases eo27|(injection eo27 with ea_ en_ ec_;(first|subst ea_|(injection ea_ with ea_;subst ea_));subst ec_;clear en_))
               have GB27 := Aside0.mk gb27
               have GG27 := Aside0.mk HG27
               clear gb27 gl27 HG27
               (first|simp only [add_plain] at hx302_0|skip)
               obtain ⟨hx27_0, hf27_0⟩ := Kd.R_celln 0 HO_6.out (x33_2 : Int) p27 q27
               replace p27 := eq_true p27
               replace q27 := eq_true q27
               have HP29 := Kd.R_putn HO_6.out (x33_2 : Int) (IntKind.u16.wrap ((rd x6_2 x33_2) + (ji26)))
               rw [← Ny303.out] at HP29
               have HQ29 := Aside0.mk HP29
               clear HP29
               refine start_ (n := 9) (S := fun w' => w'.cell? ⟨go27, (x33_2).toNat, none⟩ = some (.int .u16 (rd x6_2 x33_2))) (ds := [8]) #[false, false, false, false, false, false, false, false, false] (by kernel_rfl) rfl rfl (hx302_0) (fun hHeld => ?_);refine with_tabW pinfoldref26_Sets.tab11 pinfoldref26_Sets.bits11 (fun HT_ HW_ => ?_)
               generalize wr.drew = w28 at HO_6 HO_7 HO_9 HO_10 BK288 HB GG27 HQ29 hf27_0 hx27_0 hx302_0 hHeld ⊢
               refine pure_ (i := 0) (N := some 40) (v := ?_) (a' := ?_) #[true, false, false, false, false, false, false, false, false] rfl rfl (any_of HT_.out (by kernel_rfl)) (fun _ _ _ h => h) (Or.inl ⟨by rfl, ?_⟩) ?_ ?_
               rotate_left
               ·intro w'
                go_simp
                with_reducible rfl
               rotate_left
               ·simp only [Act.put, List.setIfInBounds_toArray, List.set_cons_zero, List.set_cons_succ, i64_w, i32_w]
                rfl
               refine pure_ (i := 1) (N := some 41) (v := ?_) (a' := ?_) #[true, true, false, false, false, false, false, false, false] rfl rfl (any_of HT_.out (by kernel_rfl)) (fun _ _ _ h => h) (Or.inl ⟨by rfl, ?_⟩) ?_ ?_
               rotate_left
               ·intro w'
                go_simp
                with_reducible rfl
               rotate_left
               ·simp only [Act.put, List.setIfInBounds_toArray, List.set_cons_zero, List.set_cons_succ, i64_w, i32_w]
                rfl
               refine pure_ (i := 2) (N := some 42) (v := ?_) (a' := ?_) #[true, true, true, false, false, false, false, false, false] rfl rfl (any_of HT_.out (by kernel_rfl)) (fun _ _ _ h => h) (Or.inl ⟨by rfl, ?_⟩) ?_ ?_
               rotate_left
               ·intro w'
                go_simp
                with_reducible rfl
               rotate_left
               ·simp only [Act.put, List.setIfInBounds_toArray, List.set_cons_zero, List.set_cons_succ, i64_w, i32_w]
                rfl
               refine pure_ (i := 4) (N := some 44) (v := ?_) (a' := ?_) #[true, true, true, false, true, false, false, false, false] rfl rfl (any_of HT_.out (by kernel_rfl)) (fun _ _ _ h => h) (Or.inl ⟨by rfl, ?_⟩) ?_ ?_
               rotate_left
               ·intro w'
                go_simp
                with_reducible rfl
               rotate_left
               ·simp only [Act.put, List.setIfInBounds_toArray, List.set_cons_zero, List.set_cons_succ, i64_w, i32_w]
                rfl
               refine pure_ (i := 5) (N := some 45) (v := ?_) (a' := ?_) #[true, true, true, false, true, true, false, false, false] rfl rfl (any_of HT_.out (by kernel_rfl)) (fun _ _ _ h => h) (Or.inl ⟨by rfl, ?_⟩) ?_ ?_
               rotate_left
               ·intro w'
                go_simp
                with_reducible rfl
               rotate_left
               ·simp only [Act.put, List.setIfInBounds_toArray, List.set_cons_zero, List.set_cons_succ, i64_w, i32_w]
                rfl
               refine take_ (i := 3) (N := some 43) (v := ?_) (a' := ?_) #[true, true, true, true, true, true, false, false, false] rfl rfl (take_ofW HT_.out HW_.out (by kernel_rfl)) (fun _ _ _ h => h) (Or.inl ⟨by rfl, ?_⟩) hHeld ?_ ?_
               rotate_left
               ·intro w' s0
                go_simp
                with_reducible rfl
               rotate_left
               ·simp only [Act.put, List.setIfInBounds_toArray, List.set_cons_zero, List.set_cons_succ, i64_w, i32_w]
                rfl
               refine pure_ (i := 6) (N := some 46) (v := ?_) (a' := ?_) #[true, true, true, true, true, true, true, false, false] rfl rfl (any_of HT_.out (by kernel_rfl)) (fun _ _ _ h => h) (Or.inl ⟨by rfl, ?_⟩) ?_ ?_
               rotate_left
               ·intro w'
                go_simp
                with_reducible rfl
               rotate_left
               ·simp only [Act.put, List.setIfInBounds_toArray, List.set_cons_zero, List.set_cons_succ, i64_w, i32_w]
                rfl
               refine pure_ (i := 7) (N := some 47) (v := ?_) (a' := ?_) #[true, true, true, true, true, true, true, true, false] rfl rfl (any_of HT_.out (by kernel_rfl)) (fun _ _ _ h => h) (Or.inl ⟨by rfl, ?_⟩) ?_ ?_
               rotate_left
               ·intro w'
                go_simp
                with_reducible rfl
               rotate_left
               ·simp only [Act.put, List.setIfInBounds_toArray, List.set_cons_zero, List.set_cons_succ, i64_w, i32_w]
                rfl
               refine last_ (i := 8) (N := none) #[true, true, true, true, true, true, true, true, true] rfl rfl (one_of HT_.out (by kernel_rfl)) (by decide) (fun K hK => ?_)
               refine skip_ (w1 := ?_) (by rfl) rfl ?_ ?_
               rotate_left
               ·go_simp
                rfl
               refine hK.out _ _ ?_
               clear hK K
               refine done_ (done_of HT_.out (by kernel_rfl)) ?_
               try go_wp2
               go_meet
               case rel => exact ⟨_, (y303), H', ⟨by have := HK1.out;have := HK2.out;first|omega|exact Nat.le_refl _⟩, ⟨by (try simp only [hl6_2]);(with_reducible repeat (first|apply Kd.R_alloc|apply Kd.R_drewN|apply Kd.R_drew));exact HQ29.out⟩, ⟨by (try simp only [hl6_2]);(with_reducible repeat (first|apply Kd.R_alloc|apply Kd.R_drewN|apply Kd.R_drew));exact Kd.R_mono (Kd.R_far (p := ⟨go27, (x33_2 : Int).toNat, none⟩) (Kd.R_mono HO_7.out (fun k_ hk => (⟨hk, fun e_ => hk (by rw [e_];rfl)⟩ : _ ∧ k_ ≠ go27))) (fun _ hk => hk.2) (.int .u16 (IntKind.u16.wrap ((rd x6_2 x33_2) + (ji26))))) (fun _ hk => hk.1)⟩, ⟨by (try simp only [hl6_2]);(with_reducible repeat (first|apply Kd.R_alloc|apply Kd.R_drewN|apply Kd.R_drew));exact Kd.R_mono (Kd.R_far (p := ⟨go27, (x33_2 : Int).toNat, none⟩) (Kd.R_types HO_9.out GG27.out (by decide)) (fun _ hk => hk.2) (.int .u16 (IntKind.u16.wrap ((rd x6_2 x33_2) + (ji26))))) (fun _ hk => hk.1)⟩, ⟨by (try simp only [hl6_2]);(with_reducible repeat (first|apply Kd.R_alloc|apply Kd.R_drewN|apply Kd.R_drew));exact Kd.R_mono (Kd.R_far (p := ⟨go27, (x33_2 : Int).toNat, none⟩) (Kd.R_types HO_10.out GG27.out (by decide)) (fun _ hk => hk.2) (.int .u16 (IntKind.u16.wrap ((rd x6_2 x33_2) + (ji26))))) (fun _ hk => hk.1)⟩, ⟨by (try simp only [hl6_2]);(with_reducible repeat (first|apply blk_drewN|apply blk_drew|apply blk_alloc));refine blk_far ?_ (by have h_ := Kd.R_ne HO_6.out BK288.out (by decide);intro e_;exact h_ (by rw [e_];rfl)) _;(with_reducible repeat (first|apply blk_drewN|apply blk_drew|apply blk_alloc));exact BK288.out⟩, ⟨by repeat (first|(with_reducible first|exact HB.out|apply xa|apply xb|apply xc|refine below_set ?_ GB27.out|refine below_set ?_ GE288.out)|exact HB.out)⟩⟩
              ·rw [if_neg c25] at H
               exact absurd H (by simp)
             ·rw [if_neg c24] at H
              exact absurd H (by simp)
            ·replace c23 := Bool.eq_false_iff.mpr c23
             subst c23
             have H1 : (pinfoldref26_Sets.j2 k2 a1 x6_2 x7_2 x8_1 t295 t298 x33_2 (x6_1.length : Int) x33_2 a0_0 l0_1) = some (r1, r2) := by rw [if_neg (show ¬ (false = true) by decide)] at H;exact H
             clear H
             have H := H1
             clear H1
             have H' := Aside0.mk H
             clear H
             go_wp2
             go_meet
             case rel => exact ⟨_, (x6_2), H', ⟨by have := HK1.out;have := HK2.out;first|omega|exact Nat.le_refl _⟩, ⟨by (try simp only [hl6_2]);(with_reducible repeat (first|apply Kd.R_alloc|apply Kd.R_drewN|apply Kd.R_drew));exact HO_6.out⟩, ⟨by (try simp only [hl6_2]);(with_reducible repeat (first|apply Kd.R_alloc|apply Kd.R_drewN|apply Kd.R_drew));exact HO_7.out⟩, ⟨by (try simp only [hl6_2]);(with_reducible repeat (first|apply Kd.R_alloc|apply Kd.R_drewN|apply Kd.R_drew));exact HO_9.out⟩, ⟨by (try simp only [hl6_2]);(with_reducible repeat (first|apply Kd.R_alloc|apply Kd.R_drewN|apply Kd.R_drew));exact HO_10.out⟩, ⟨by (try simp only [hl6_2]);(with_reducible repeat (first|apply blk_drewN|apply blk_drew|apply blk_alloc));exact BK288.out⟩, ⟨by repeat (first|(with_reducible first|exact HB.out|apply xa|apply xb|apply xc|refine below_set ?_ GE288.out)|exact HB.out)⟩⟩
           case rest =>
            clear HC20
            try clear c1
            try clear c2
            try clear p2
            try clear q2
            try clear hx2
            try clear hf2
            try clear c3
            try clear c3b0
            try clear c3b1
            try clear p3
            try clear q3
            try clear hx3
            try clear c4
            try clear c4b0
            try clear c4b1
            try clear c6
            try clear c12
            try clear c12b0
            try clear c17
            try clear c17b0
            try clear c18
            try clear c18b0
            try clear c19
            try clear c19b0
            try clear q22
            try clear c23
            try clear c24
            try clear c24b0
            try clear c25
            try clear c25b0
            try clear c25b1
            try clear p27
            try clear q27
            try clear hx27
            try clear hf27
            try clear hcz14_0
            try clear hcz14_1
            try clear hcz6_0
            try clear hcz6_1
            try clear hcz9_0
            try clear hcz9_1
            try clear hfz14_0
            try clear hfz14_1
            try clear hfz6_0
            try clear hfz6_1
            try clear hfz9_0
            try clear hfz9_1
            try clear hx27_0
            try clear hx301_0
            try clear hx302_0
            try clear p2
            try clear p27
            try clear p301
            try clear p302
            try clear q27
            try clear q301
            try clear q302
            obtain ⟨kq, x6_19, HA, HJ19, HO_6, HO_7, HO_9, HO_10, BK288, HB⟩ := hcut
            have hl6_19 := (Kd.R_reads' HO_6.out).1
            rw [hl6_19] at HO_6
            (try simp only [hl6_19])
            (try simp only [hl6_19] at BK288)
            (try simp only [hl6_19] at HO_7)
            (try simp only [hl6_19] at HO_9)
            (try simp only [hl6_19] at HO_10)
            cases kq with
            | zero => exact absurd HA.out (by simp [pinfoldref26_Sets.j2])
            | succ kj19 =>
             have H := HA.out
             clear HA
             simp only [pinfoldref26_Sets.j2] at H
             by_cases c30 : 0 ≤ x33_2
             ·rw [if_pos c30] at H
              have c30b0 : decide (0 ≤ x33_2) = true := decide_eq_true c30
              clear c30
              by_cases c31 : x33_2 < (t298.length : Int)
              ·rw [if_pos c31] at H
               have c31b0 : decide (x33_2 < (t298.length : Int)) = true := decide_eq_true c31
               clear c31
               obtain ⟨bq32, hbq32⟩ : ∃ b_ : Bool, b_ = (rdOf false t298 x33_2) := ⟨_, rfl⟩
               replace H : (if bq32 = true then (if x33_2 < (x7_2.length : Int) then (if 0 ≤ x8_1 then (pinfoldref26_Sets.l1 kj19 a1 x6_19 (x7_2.set (x33_2 : Int).toNat (IntKind.u16.wrap ((rd x7_2 x33_2) + (shl .u16 1 x8_1)))) x8_1 t295 t298 (x6_1.length : Int) (wrap64 (x33_2 + 1)) a0_0 l0_1) else (none)) else (none)) else (pinfoldref26_Sets.l1 kj19 a1 x6_19 x7_2 x8_1 t295 t298 (x6_1.length : Int) (wrap64 (x33_2 + 1)) a0_0 l0_1)) = some (r1, r2) := by rw [← hbq32] at H;exact H
               have Nbq32 := Aside0.mk hbq32
               (try rw [← Nbq32.out] at c25b0)
               (try rw [← Nbq32.out] at c25b1)
               (try rw [← Nbq32.out] at c25b2)
               (try rw [← Nbq32.out] at c25b3)
               (try rw [← Nbq32.out] at c30b0)
               (try rw [← Nbq32.out] at c30b1)
               (try rw [← Nbq32.out] at c30b2)
               (try rw [← Nbq32.out] at c30b3)
               (try rw [← Nbq32.out] at c31b0)
               (try rw [← Nbq32.out] at c31b1)
               (try rw [← Nbq32.out] at c31b2)
               (try rw [← Nbq32.out] at c31b3)
               clear hbq32
               by_cases c33 : bq32 = true
               ·subst c33
                have H1 : (if x33_2 < (x7_2.length : Int) then (if 0 ≤ x8_1 then (pinfoldref26_Sets.l1 kj19 a1 x6_19 (x7_2.set (x33_2 : Int).toNat (IntKind.u16.wrap ((rd x7_2 x33_2) + (shl .u16 1 x8_1)))) x8_1 t295 t298 (x6_1.length : Int) (wrap64 (x33_2 + 1)) a0_0 l0_1) else (none)) else (none)) = some (r1, r2) := by rw [if_pos rfl] at H;exact H
                clear H
                have H := H1
                clear H1
                by_cases c34 : x33_2 < (x7_2.length : Int)
                ·rw [if_pos c34] at H
                 have c34b0 : decide (x33_2 < (x7_2.length : Int)) = true := decide_eq_true c34
                 have c34b9 := c34b0
                 (try simp only [hl6_2] at c34b9)
                 (try simp only [hl6_19] at c34b9)
                 clear c34
                 by_cases c35 : 0 ≤ x8_1
                 ·rw [if_pos c35] at H
                  have c35b0 := eq_true c35
                  have c35b1 : decide (0 ≤ x8_1) = true := decide_eq_true c35
                  clear c35
                  obtain ⟨ji36, hji36⟩ : ∃ j_ : Int, (shl .u16 1 x8_1) = j_ := ⟨_, rfl⟩
                  replace H : (pinfoldref26_Sets.l1 kj19 a1 x6_19 (x7_2.set (x33_2 : Int).toNat (IntKind.u16.wrap ((rd x7_2 x33_2) + (ji36)))) x8_1 t295 t298 (x6_1.length : Int) (wrap64 (x33_2 + 1)) a0_0 l0_1) = some (r1, r2) := by first|(rw [hji36] at H;exact H)|(simp only [hji36] at H ⊢;exact H)
                  have hji36_ : (IntKind.u16.wrap (1 * 2 ^ min x8_1.toNat 16)) = ji36 := hji36
                  have hji36z : x8_1 ≤ 16 → (IntKind.u16.wrap (1 * 2 ^ x8_1.toNat)) = ji36 := shl_small hji36
                  have hji36u : (IntKind.u16.wrap (2 ^ min x8_1.toNat 16)) = ji36 := by have h_ := hji36_;rw [Int.one_mul] at h_;exact h_
                  have hji36v : x8_1 ≤ 16 → (IntKind.u16.wrap (2 ^ x8_1.toNat)) = ji36 := fun hle_ => by have h_ := hji36z hle_;rw [Int.one_mul] at h_;exact h_
                  obtain ⟨y306, hy306⟩ : ∃ y_ : List Int, y_ = (x7_2.set (x33_2 : Int).toNat (IntKind.u16.wrap ((rd x7_2 x33_2) + (ji36)))) := ⟨_, rfl⟩
                  replace H : (pinfoldref26_Sets.l1 kj19 a1 x6_19 y306 x8_1 t295 t298 (x6_1.length : Int) (wrap64 (x33_2 + 1)) a0_0 l0_1) = some (r1, r2) := by first|(rw [hy306];with_reducible exact H)|(have H2_ := (Option.bind_some _ _).symm.trans H;rw [hy306];with_reducible exact H2_)|(have H2_ := (Option.bind_some _ _).symm.trans H;with_reducible exact H2_)|with_reducible exact H|(rw [hy306];exact H)|exact H
                  have Ny306 := Aside0.mk hy306
                  clear hy306
                  have H' := Aside0.mk H
                  clear H
                  obtain ⟨Ao38, co38, eo38⟩ := Kd.R_slice HO_10.out
                  subst eo38
                  have p304 : 0 ≤ (x33_2 : Int) := of_decide_eq_true (by assumption)
                  have q304 : x33_2 < (t298.length : Int) := of_decide_eq_true (by assumption)
                  obtain ⟨ad304, e304, hx304_0⟩ := Kd.at_bool (Kd.R_reads' HO_10.out).2.2 x33_2 p304 q304
                  (try rw [← Nbq32.out] at hx304_0)
                  cases e304
                  replace p304 := eq_true p304
                  replace q304 := eq_true q304
                  try go_wp2
                  have n0_ := Aside0.mk (Kd.R_drew HO_6.out)
                  have n1_ := Aside0.mk (Kd.R_drew HO_7.out)
                  have n2_ := Aside0.mk (Kd.R_drew HO_9.out)
                  have n3_ := Aside0.mk (Kd.R_drew HO_10.out)
                  have n4_ := Aside0.mk (blk_drew BK288.out)
                  have n5_ := Aside0.mk (below_drew1 HB.out)
                  clear HO_6
                  clear HO_7
                  clear HO_9
                  clear HO_10
                  clear BK288
                  clear HB
                  have HO_6 := n0_
                  have HO_7 := n1_
                  have HO_9 := n2_
                  have HO_10 := n3_
                  have BK288 := n4_
                  have HB := n5_
                  clear n0_ n1_ n2_ n3_ n4_ n5_
                  obtain ⟨Ao40, co40, eo40⟩ := Kd.R_slice HO_7.out
                  (first|subst eo40|(injection eo40 with f1_ f2_ f3_;have f4_ := f1_.symm;have f5_ := f3_.symm;clear f1_ f2_ f3_;subst f4_;subst f5_))
                  have p305 : 0 ≤ (x33_2 : Int) := of_decide_eq_true (by assumption)
                  have q305 : x33_2 < (x7_2.length : Int) := of_decide_eq_true (by assumption)
                  obtain ⟨ad305, e305, hx305_0⟩ := Kd.at_int (Kd.R_reads' HO_7.out).2.2 x33_2 p305 q305
                  cases e305
                  replace p305 := eq_true p305
                  replace q305 := eq_true q305
                  have p37 : 0 ≤ (x33_2 : Int) := of_decide_eq_true (by assumption)
                  have q37 : (x33_2 : Int) < ((x7_2.length : Int) : Int) := of_decide_eq_true (by assumption)
                  obtain ⟨go37, co37, eo37, gb37, gl37, cl37, HG37⟩ := Kd.R_form HO_7.out (by omega)
                  (first|cases eo37|(injection eo37 with ea_ en_ ec_;(first|subst ea_|(injection ea_ with ea_;subst ea_));subst ec_;clear en_))
                  have GB37 := Aside0.mk gb37
                  have GG37 := Aside0.mk HG37
                  clear gb37 gl37 HG37
                  (first|simp only [add_plain] at hx305_0|skip)
                  obtain ⟨hx37_0, hf37_0⟩ := Kd.R_celln 0 HO_7.out (x33_2 : Int) p37 q37
                  replace p37 := eq_true p37
                  replace q37 := eq_true q37
                  have HP41 := Kd.R_putn HO_7.out (x33_2 : Int) (IntKind.u16.wrap ((rd x7_2 x33_2) + (ji36)))
                  rw [← Ny306.out] at HP41
                  have HQ41 := Aside0.mk HP41
                  clear HP41
                  refine start_ (n := 9) (S := fun w' => w'.cell? ⟨go37, (x33_2).toNat, none⟩ = some (.int .u16 (rd x7_2 x33_2))) (ds := [8]) #[false, false, false, false, false, false, false, false, false] (by kernel_rfl) rfl rfl (hx305_0) (fun hHeld => ?_);refine with_tabW pinfoldref26_Sets.tab13 pinfoldref26_Sets.bits13 (fun HT_ HW_ => ?_)
                  generalize wc.drew = w39 at HO_6 HO_7 HO_9 HO_10 BK288 HB GG37 HQ41 hf37_0 hx305_0 hx37_0 hHeld ⊢
                  refine pure_ (i := 0) (N := some 52) (v := ?_) (a' := ?_) #[true, false, false, false, false, false, false, false, false] rfl rfl (any_of HT_.out (by kernel_rfl)) (fun _ _ _ h => h) (Or.inl ⟨by rfl, ?_⟩) ?_ ?_
                  rotate_left
                  ·intro w'
                   go_simp
                   with_reducible rfl
                  rotate_left
                  ·simp only [Act.put, List.setIfInBounds_toArray, List.set_cons_zero, List.set_cons_succ, i64_w, i32_w]
                   rfl
                  refine pure_ (i := 1) (N := some 53) (v := ?_) (a' := ?_) #[true, true, false, false, false, false, false, false, false] rfl rfl (any_of HT_.out (by kernel_rfl)) (fun _ _ _ h => h) (Or.inl ⟨by rfl, ?_⟩) ?_ ?_
                  rotate_left
                  ·intro w'
                   go_simp
                   with_reducible rfl
                  rotate_left
                  ·simp only [Act.put, List.setIfInBounds_toArray, List.set_cons_zero, List.set_cons_succ, i64_w, i32_w]
                   rfl
                  refine pure_ (i := 2) (N := some 54) (v := ?_) (a' := ?_) #[true, true, true, false, false, false, false, false, false] rfl rfl (any_of HT_.out (by kernel_rfl)) (fun _ _ _ h => h) (Or.inl ⟨by rfl, ?_⟩) ?_ ?_
                  rotate_left
                  ·intro w'
                   go_simp
                   with_reducible rfl
                  rotate_left
                  ·simp only [Act.put, List.setIfInBounds_toArray, List.set_cons_zero, List.set_cons_succ, i64_w, i32_w]
                   rfl
                  refine pure_ (i := 4) (N := some 56) (v := ?_) (a' := ?_) #[true, true, true, false, true, false, false, false, false] rfl rfl (any_of HT_.out (by kernel_rfl)) (fun _ _ _ h => h) (Or.inl ⟨by rfl, ?_⟩) ?_ ?_
                  rotate_left
                  ·intro w'
                   go_simp
                   with_reducible rfl
                  rotate_left
                  ·simp only [Act.put, List.setIfInBounds_toArray, List.set_cons_zero, List.set_cons_succ, i64_w, i32_w]
                   rfl
                  refine pure_ (i := 5) (N := some 57) (v := ?_) (a' := ?_) #[true, true, true, false, true, true, false, false, false] rfl rfl (any_of HT_.out (by kernel_rfl)) (fun _ _ _ h => h) (Or.inl ⟨by rfl, ?_⟩) ?_ ?_
                  rotate_left
                  ·intro w'
                   go_simp
                   with_reducible rfl
                  rotate_left
                  ·simp only [Act.put, List.setIfInBounds_toArray, List.set_cons_zero, List.set_cons_succ, i64_w, i32_w]
                   rfl
                  refine take_ (i := 3) (N := some 55) (v := ?_) (a' := ?_) #[true, true, true, true, true, true, false, false, false] rfl rfl (take_ofW HT_.out HW_.out (by kernel_rfl)) (fun _ _ _ h => h) (Or.inl ⟨by rfl, ?_⟩) hHeld ?_ ?_
                  rotate_left
                  ·intro w' s0
                   go_simp
                   with_reducible rfl
                  rotate_left
                  ·simp only [Act.put, List.setIfInBounds_toArray, List.set_cons_zero, List.set_cons_succ, i64_w, i32_w]
                   rfl
                  refine pure_ (i := 6) (N := some 58) (v := ?_) (a' := ?_) #[true, true, true, true, true, true, true, false, false] rfl rfl (any_of HT_.out (by kernel_rfl)) (fun _ _ _ h => h) (Or.inl ⟨by rfl, ?_⟩) ?_ ?_
                  rotate_left
                  ·intro w'
                   go_simp
                   with_reducible rfl
                  rotate_left
                  ·simp only [Act.put, List.setIfInBounds_toArray, List.set_cons_zero, List.set_cons_succ, i64_w, i32_w]
                   rfl
                  refine pure_ (i := 7) (N := some 59) (v := ?_) (a' := ?_) #[true, true, true, true, true, true, true, true, false] rfl rfl (any_of HT_.out (by kernel_rfl)) (fun _ _ _ h => h) (Or.inl ⟨by rfl, ?_⟩) ?_ ?_
                  rotate_left
                  ·intro w'
                   go_simp
                   with_reducible rfl
                  rotate_left
                  ·simp only [Act.put, List.setIfInBounds_toArray, List.set_cons_zero, List.set_cons_succ, i64_w, i32_w]
                   rfl
                  refine last_ (i := 8) (N := none) #[true, true, true, true, true, true, true, true, true] rfl rfl (one_of HT_.out (by kernel_rfl)) (by decide) (fun K hK => ?_)
                  refine skip_ (w1 := ?_) (by rfl) rfl ?_ ?_
                  rotate_left
                  ·go_simp
                   rfl
                  refine hK.out _ _ ?_
                  clear hK K
                  refine done_ (done_of HT_.out (by kernel_rfl)) ?_
                  try go_wp2
                  (try simp only [← hl6_2, ← hl6_19])
                  go_roundg kj19
                  case measure => have := HK1.out;have := HK2.out;have := HJ19.out;omega
                  case rel => exact ⟨(x6_19), (y306), (wrap64 (x33_2 + 1)), (by first|rfl|(simp;done)|(simp [*];done)), H', ⟨by have := HK1.out;have := HK2.out;have := HJ19.out;omega⟩, ⟨by (try simp only [hl6_2]);(try simp only [hl6_19]);(with_reducible repeat (first|apply Kd.R_alloc|apply Kd.R_drewN|apply Kd.R_drew));exact Kd.R_mono (Kd.R_far (p := ⟨go37, (x33_2 : Int).toNat, none⟩) (Kd.R_mono HO_6.out (fun k_ hk => (⟨hk, fun e_ => hk (by rw [e_];rfl)⟩ : _ ∧ k_ ≠ go37))) (fun _ hk => hk.2) (.int .u16 (IntKind.u16.wrap ((rd x7_2 x33_2) + (ji36))))) (fun _ hk => hk.1)⟩, ⟨by (try simp only [hl6_2]);(try simp only [hl6_19]);(with_reducible repeat (first|apply Kd.R_alloc|apply Kd.R_drewN|apply Kd.R_drew));exact HQ41.out⟩, ⟨by (try simp only [hl6_2]);(try simp only [hl6_19]);(with_reducible repeat (first|apply Kd.R_alloc|apply Kd.R_drewN|apply Kd.R_drew));exact Kd.R_mono (Kd.R_far (p := ⟨go37, (x33_2 : Int).toNat, none⟩) (Kd.R_types HO_9.out GG37.out (by decide)) (fun _ hk => hk.2) (.int .u16 (IntKind.u16.wrap ((rd x7_2 x33_2) + (ji36))))) (fun _ hk => hk.1)⟩, ⟨by (try simp only [hl6_2]);(try simp only [hl6_19]);(with_reducible repeat (first|apply Kd.R_alloc|apply Kd.R_drewN|apply Kd.R_drew));exact Kd.R_mono (Kd.R_far (p := ⟨go37, (x33_2 : Int).toNat, none⟩) (Kd.R_types HO_10.out GG37.out (by decide)) (fun _ hk => hk.2) (.int .u16 (IntKind.u16.wrap ((rd x7_2 x33_2) + (ji36))))) (fun _ hk => hk.1)⟩, ⟨by (try simp only [hl6_2]);(try simp only [hl6_19]);(with_reducible repeat (first|apply blk_drewN|apply blk_drew|apply blk_alloc));refine blk_far ?_ (by have h_ := Kd.R_ne HO_7.out BK288.out (by decide);intro e_;exact h_ (by rw [e_];rfl)) _;(with_reducible repeat (first|apply blk_drewN|apply blk_drew|apply blk_alloc));exact BK288.out⟩, ⟨by repeat (first|(with_reducible first|exact HB.out|apply xa|apply xb|apply xc|refine below_set ?_ GB37.out|refine below_set ?_ GE288.out)|exact HB.out)⟩⟩
                 ·rw [if_neg c35] at H
                  exact absurd H (by simp)
                ·rw [if_neg c34] at H
                 exact absurd H (by simp)
               ·replace c33 := Bool.eq_false_iff.mpr c33
                subst c33
                have H1 : (pinfoldref26_Sets.l1 kj19 a1 x6_19 x7_2 x8_1 t295 t298 (x6_1.length : Int) (wrap64 (x33_2 + 1)) a0_0 l0_1) = some (r1, r2) := by rw [if_neg (show ¬ (false = true) by decide)] at H;exact H
                clear H
                have H := H1
                clear H1
                have H' := Aside0.mk H
                clear H
                obtain ⟨Ao42, co42, eo42⟩ := Kd.R_slice HO_10.out
                subst eo42
                have p304 : 0 ≤ (x33_2 : Int) := of_decide_eq_true (by assumption)
                have q304 : x33_2 < (t298.length : Int) := of_decide_eq_true (by assumption)
                obtain ⟨ad304, e304, hx304_0⟩ := Kd.at_bool (Kd.R_reads' HO_10.out).2.2 x33_2 p304 q304
                (try rw [← Nbq32.out] at hx304_0)
                cases e304
                replace p304 := eq_true p304
                replace q304 := eq_true q304
                go_wp2
                (try simp only [← hl6_2, ← hl6_19])
                go_roundg kj19
                case measure => have := HK1.out;have := HK2.out;have := HJ19.out;omega
                case rel => exact ⟨(x6_19), (x7_2), (wrap64 (x33_2 + 1)), (by first|rfl|(simp;done)|(simp [*];done)), H', ⟨by have := HK1.out;have := HK2.out;have := HJ19.out;omega⟩, ⟨by (try simp only [hl6_2]);(try simp only [hl6_19]);(with_reducible repeat (first|apply Kd.R_alloc|apply Kd.R_drewN|apply Kd.R_drew));exact HO_6.out⟩, ⟨by (try simp only [hl6_2]);(try simp only [hl6_19]);(with_reducible repeat (first|apply Kd.R_alloc|apply Kd.R_drewN|apply Kd.R_drew));exact HO_7.out⟩, ⟨by (try simp only [hl6_2]);(try simp only [hl6_19]);(with_reducible repeat (first|apply Kd.R_alloc|apply Kd.R_drewN|apply Kd.R_drew));exact HO_9.out⟩, ⟨by (try simp only [hl6_2]);(try simp only [hl6_19]);(with_reducible repeat (first|apply Kd.R_alloc|apply Kd.R_drewN|apply Kd.R_drew));exact HO_10.out⟩, ⟨by (try simp only [hl6_2]);(try simp only [hl6_19]);(with_reducible repeat (first|apply blk_drewN|apply blk_drew|apply blk_alloc));exact BK288.out⟩, ⟨by repeat (first|(with_reducible first|exact HB.out|apply xa|apply xb|apply xc|refine below_set ?_ GE288.out)|exact HB.out)⟩⟩
              ·rw [if_neg c31] at H
               exact absurd H (by simp)
             ·rw [if_neg c30] at H
              exact absurd H (by simp)
          ·rw [if_neg c19] at H
           exact absurd H (by simp)
         ·rw [if_neg c18] at H
          exact absurd H (by simp)
        ·rw [if_neg c17] at H
         have c17b0 : decide (x33_2 < (x6_1.length : Int)) = false := decide_eq_false c17
         have c17b9 := c17b0
         (try simp only [hl6_2] at c17b9)
         clear c17
         have H' := Aside0.mk H
         clear H
         go_wp2
         (try simp only [← hl6_2])
         (try simp only [px_add0] at *)
         go_roundg k2
         case measure => have := HK1.out;have := HK2.out;omega
         case rel => exact ⟨(x6_2), (x7_2), (wrap64 (x8_1 + 1)), (by first|rfl|(simp;done)|(simp [*];done)), H', ⟨by have := HK1.out;have := HK2.out;omega⟩, ⟨by (try simp only [hl6_2]);(with_reducible repeat (first|apply Kd.R_alloc|apply Kd.R_drewN|apply Kd.R_drew));exact HO_6.out⟩, ⟨by (try simp only [hl6_2]);(with_reducible repeat (first|apply Kd.R_alloc|apply Kd.R_drewN|apply Kd.R_drew));exact HO_7.out⟩, ⟨by (try simp only [hl6_2]);(with_reducible repeat (first|apply blk_drewN|apply blk_drew|apply blk_alloc));exact BK288.out⟩, ⟨by repeat (first|(with_reducible first|exact HB.out|apply xa|apply xb|apply xc|refine below_set ?_ GE288.out)|exact HB.out)⟩⟩
     ·rw [if_neg c12] at H
      have c12b0 : decide (x8_1 < 16) = false := decide_eq_false c12
      clear c12
      simp only [Option.some.injEq, Prod.mk.injEq] at H
      obtain ⟨rfl, rfl⟩ := H
      go_wp2
      go_ret2
      exact ⟨_, _, by first|rfl|(simp [errW_none, errW_some] <;> rfl)|(simp [*, errW_none, errW_some] <;> rfl), by (with_reducible repeat (first|apply Kd.R_alloc|apply Kd.R_drewN|apply Kd.R_drew));exact HO_6.out, by (with_reducible repeat (first|apply Kd.R_alloc|apply Kd.R_drewN|apply Kd.R_drew));exact HO_7.out, by repeat (first|(with_reducible first|exact HB.out|apply xa|apply xb|apply xc|refine below_set ?_ GE288.out)|exact HB.out)⟩
  ·rw [if_neg c4] at H
   exact absurd H (by simp)
 ·rw [if_neg c3] at H
  exact absurd H (by simp)

end Go.Proofs.Ytgiimdoabkcoaaa.PLint
