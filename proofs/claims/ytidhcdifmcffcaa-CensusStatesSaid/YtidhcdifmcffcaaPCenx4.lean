/- Functions of the program as Lean functions, and proofs that the code comes to their answers: printed by this session's program. -/
import Derived.Test.YtidhcdifmcffcaaGNine
import Derived.Test.YtidhcdifmcffcaaGStates
import Derived.Test.YtidhcdifmcffcaaPCenx0
import Derived.Test.YtidhcdifmcffcaaPCenx1
namespace Go.Proofs.Ytidhcdifmcffcaa.PCen
open Go.RowKit Go.Proofs.YtidhcdifmcffcaaW.PrintWords Go.Proofs.YtidhcdifmcffcaaW.PrintLast Go.Proofs.YtidhcdifmcffcaaW.PrintMore
attribute [local go_sem] max2_int min2_int max_two min_two max_three min_three max_four min_four   -- for this text's walks alone
set_option linter.unusedVariables false
set_option linter.unusedSimpArgs false

/-! ### pinfoldlaw35_CensusStates: function 9 -/
mutual
def pinfoldlaw35_CensusStates.l0 : Nat → Int → List (S74) → Int → Int → Int → Int → Int → Int → Int → Int → Int → Int → Int → Int → Int → Int → Int → Int → List Int → Int → Int → Int → Int → Int → Int → Int → Int → Int → Int → Option (Bool)
 | 0, _, _, _, _, _, _, _, _, _, _, _, _, _, _, _, _, _, _, _, _, _, _, _, _, _, _, _, _, _ => none
 | k + 1, x15, x186000, x186001, x186002, x186003, x186004, x186005, x186006, x186007, x186008, x186009, x186010, x186011, x186012, x186013, x186014, x186015, x186016, x186017, x186018, x197000, x197001, x197002, x197003, x197004, x197005, x197006, x197007, x197008 => if x15 < 9 then (pinfoldlaw35_CensusStates.l1 k x15 0 x15 x186000 (x186000.length : Int) 0 x186000 x186001 x186002 x186003 x186004 x186005 x186006 x186007 x186008 x186009 x186010 x186011 x186012 x186013 x186014 x186015 x186016 x186017 x186018 x197000 x197001 x197002 x197003 x197004 x197005 x197006 x197007 x197008) else ((pinfoldlaw35_lives.f k).bind fun t197 => (some t197))
def pinfoldlaw35_CensusStates.l1 : Nat → Int → Int → Int → List (S74) → Int → Int → List (S74) → Int → Int → Int → Int → Int → Int → Int → Int → Int → Int → Int → Int → Int → Int → Int → Int → List Int → Int → Int → Int → Int → Int → Int → Int → Int → Int → Int → Option (Bool)
 | 0, _, _, _, _, _, _, _, _, _, _, _, _, _, _, _, _, _, _, _, _, _, _, _, _, _, _, _, _, _, _, _, _, _, _ => none
 | k + 1, x4, x5, x15, x19, x20, x21, x186000, x186001, x186002, x186003, x186004, x186005, x186006, x186007, x186008, x186009, x186010, x186011, x186012, x186013, x186014, x186015, x186016, x186017, x186018, x197000, x197001, x197002, x197003, x197004, x197005, x197006, x197007, x197008 => if x21 < x20 then (if 0 ≤ x21 then (if x21 < (x19.length : Int) then (if ((rd_T74 x19 x21).f3) = x4 then (pinfoldlaw35_CensusStates.l1 k x4 (wrap64 (x5 + 1)) x15 x19 x20 (wrap64 (x21 + 1)) x186000 x186001 x186002 x186003 x186004 x186005 x186006 x186007 x186008 x186009 x186010 x186011 x186012 x186013 x186014 x186015 x186016 x186017 x186018 x197000 x197001 x197002 x197003 x197004 x197005 x197006 x197007 x197008) else (pinfoldlaw35_CensusStates.l1 k x4 x5 x15 x19 x20 (wrap64 (x21 + 1)) x186000 x186001 x186002 x186003 x186004 x186005 x186006 x186007 x186008 x186009 x186010 x186011 x186012 x186013 x186014 x186015 x186016 x186017 x186018 x197000 x197001 x197002 x197003 x197004 x197005 x197006 x197007 x197008)) else (none)) else (none)) else ((census_Kinds.f x197000 x197001 x197002 x197003 x197004 x197005 x197006 x197007 x197008 x4).bind fun t200 => (if t200 = x5 then (pinfoldlaw35_CensusStates.l0 k (wrap64 (x15 + 1)) x186000 x186001 x186002 x186003 x186004 x186005 x186006 x186007 x186008 x186009 x186010 x186011 x186012 x186013 x186014 x186015 x186016 x186017 x186018 x197000 x197001 x197002 x197003 x197004 x197005 x197006 x197007 x197008) else (some false)))
end
def pinfoldlaw35_CensusStates.f (k : Nat) (l0_0 : List (S74)) (a0_1 : Int) (a0_2 : Int) (a0_3 : Int) (a0_4 : Int) (a0_5 : Int) (a0_6 : Int) (a0_7 : Int) (a0_8 : Int) (a0_9 : Int) (a0_10 : Int) (a0_11 : Int) (a0_12 : Int) (a0_13 : Int) (a0_14 : Int) (a0_15 : Int) (a0_16 : Int) (l0_17 : List Int) (a0_18 : Int) : Option (Bool) := if (l0_0.length : Int) > 60 then ((pinfoldlaw35_lives.f k).bind fun t186 => (some t186)) else ((census_States.f l0_0 a0_1 a0_2 a0_3 a0_4 a0_5 a0_6 a0_7 a0_8 a0_9 a0_10 a0_11 a0_12 a0_13 a0_14 a0_15 a0_16 l0_17 a0_18).bind fun bt187 => (pinfoldlaw35_CensusStates.l0 k 0 l0_0 a0_1 a0_2 a0_3 a0_4 a0_5 a0_6 a0_7 a0_8 a0_9 a0_10 a0_11 a0_12 a0_13 a0_14 a0_15 a0_16 l0_17 a0_18 bt187.1 bt187.2.1 bt187.2.2.1 bt187.2.2.2.1 bt187.2.2.2.2.1 bt187.2.2.2.2.2.1 bt187.2.2.2.2.2.2.1 bt187.2.2.2.2.2.2.2.1 bt187.2.2.2.2.2.2.2.2))
theorem pinfoldlaw35_CensusStates.mono_l : ∀ k, (∀ y0 y1 y2 y3 y4 y5 y6 y7 y8 y9 y10 y11 y12 y13 y14 y15 y16 y17 y18 y19 y20 y21 y22 y23 y24 y25 y26 y27 y28, LeO (pinfoldlaw35_CensusStates.l0 k y0 y1 y2 y3 y4 y5 y6 y7 y8 y9 y10 y11 y12 y13 y14 y15 y16 y17 y18 y19 y20 y21 y22 y23 y24 y25 y26 y27 y28) (pinfoldlaw35_CensusStates.l0 (k + 1) y0 y1 y2 y3 y4 y5 y6 y7 y8 y9 y10 y11 y12 y13 y14 y15 y16 y17 y18 y19 y20 y21 y22 y23 y24 y25 y26 y27 y28)) ∧ (∀ y0 y1 y2 y3 y4 y5 y6 y7 y8 y9 y10 y11 y12 y13 y14 y15 y16 y17 y18 y19 y20 y21 y22 y23 y24 y25 y26 y27 y28 y29 y30 y31 y32 y33, LeO (pinfoldlaw35_CensusStates.l1 k y0 y1 y2 y3 y4 y5 y6 y7 y8 y9 y10 y11 y12 y13 y14 y15 y16 y17 y18 y19 y20 y21 y22 y23 y24 y25 y26 y27 y28 y29 y30 y31 y32 y33) (pinfoldlaw35_CensusStates.l1 (k + 1) y0 y1 y2 y3 y4 y5 y6 y7 y8 y9 y10 y11 y12 y13 y14 y15 y16 y17 y18 y19 y20 y21 y22 y23 y24 y25 y26 y27 y28 y29 y30 y31 y32 y33))
 | 0 => ⟨fun _ _ _ _ _ _ _ _ _ _ _ _ _ _ _ _ _ _ _ _ _ _ _ _ _ _ _ _ _ r h => by simp [pinfoldlaw35_CensusStates.l0] at h, fun _ _ _ _ _ _ _ _ _ _ _ _ _ _ _ _ _ _ _ _ _ _ _ _ _ _ _ _ _ _ _ _ _ _ r h => by simp [pinfoldlaw35_CensusStates.l1] at h⟩
 | k + 1 => by
  obtain ⟨ih0, ih1⟩ := pinfoldlaw35_CensusStates.mono_l k
  refine ⟨?_, ?_⟩
  ·intro y0 y1 y2 y3 y4 y5 y6 y7 y8 y9 y10 y11 y12 y13 y14 y15 y16 y17 y18 y19 y20 y21 y22 y23 y24 y25 y26 y27 y28
   unfold pinfoldlaw35_CensusStates.l0
   repeat' first
   | (with_reducible exact ih0 _ _ _ _ _ _ _ _ _ _ _ _ _ _ _ _ _ _ _ _ _ _ _ _ _ _ _ _ _)
   | (with_reducible exact ih1 _ _ _ _ _ _ _ _ _ _ _ _ _ _ _ _ _ _ _ _ _ _ _ _ _ _ _ _ _ _ _ _ _ _)
   | (with_reducible exact pinfoldlaw35_lives.mono _)
   | (with_reducible exact LeO.refl _)
   | (with_reducible exact LeO.none _)
   | (with_reducible refine LeO.ite ?_ ?_)
   | (with_reducible refine LeO.bind ?_ (fun _ => ?_))
   | exact ih0 _ _ _ _ _ _ _ _ _ _ _ _ _ _ _ _ _ _ _ _ _ _ _ _ _ _ _ _ _
   | exact ih1 _ _ _ _ _ _ _ _ _ _ _ _ _ _ _ _ _ _ _ _ _ _ _ _ _ _ _ _ _ _ _ _ _ _
   | exact pinfoldlaw35_lives.mono _
   | exact LeO.none _
   | refine LeO.ite ?_ ?_
   | refine LeO.bind ?_ (fun _ => ?_)
  ·intro y0 y1 y2 y3 y4 y5 y6 y7 y8 y9 y10 y11 y12 y13 y14 y15 y16 y17 y18 y19 y20 y21 y22 y23 y24 y25 y26 y27 y28 y29 y30 y31 y32 y33
   unfold pinfoldlaw35_CensusStates.l1
   repeat' first
   | (with_reducible exact ih0 _ _ _ _ _ _ _ _ _ _ _ _ _ _ _ _ _ _ _ _ _ _ _ _ _ _ _ _ _)
   | (with_reducible exact ih1 _ _ _ _ _ _ _ _ _ _ _ _ _ _ _ _ _ _ _ _ _ _ _ _ _ _ _ _ _ _ _ _ _ _)
   | (with_reducible exact pinfoldlaw35_lives.mono _)
   | (with_reducible exact LeO.refl _)
   | (with_reducible exact LeO.none _)
   | (with_reducible refine LeO.ite ?_ ?_)
   | (with_reducible refine LeO.bind ?_ (fun _ => ?_))
   | exact ih0 _ _ _ _ _ _ _ _ _ _ _ _ _ _ _ _ _ _ _ _ _ _ _ _ _ _ _ _ _
   | exact ih1 _ _ _ _ _ _ _ _ _ _ _ _ _ _ _ _ _ _ _ _ _ _ _ _ _ _ _ _ _ _ _ _ _ _
   | exact pinfoldlaw35_lives.mono _
   | exact LeO.none _
   | refine LeO.ite ?_ ?_
   | refine LeO.bind ?_ (fun _ => ?_)
theorem pinfoldlaw35_CensusStates.mono : ∀ a0 a1 a2 a3 a4 a5 a6 a7 a8 a9 a10 a11 a12 a13 a14 a15 a16 a17 a18 k, LeO (pinfoldlaw35_CensusStates.f k a0 a1 a2 a3 a4 a5 a6 a7 a8 a9 a10 a11 a12 a13 a14 a15 a16 a17 a18) (pinfoldlaw35_CensusStates.f (k + 1) a0 a1 a2 a3 a4 a5 a6 a7 a8 a9 a10 a11 a12 a13 a14 a15 a16 a17 a18) := by
 intro a0 a1 a2 a3 a4 a5 a6 a7 a8 a9 a10 a11 a12 a13 a14 a15 a16 a17 a18 k
 obtain ⟨ih0, ih1⟩ := pinfoldlaw35_CensusStates.mono_l k
 unfold pinfoldlaw35_CensusStates.f
 repeat' first
   | (with_reducible exact ih0 _ _ _ _ _ _ _ _ _ _ _ _ _ _ _ _ _ _ _ _ _ _ _ _ _ _ _ _ _)
   | (with_reducible exact ih1 _ _ _ _ _ _ _ _ _ _ _ _ _ _ _ _ _ _ _ _ _ _ _ _ _ _ _ _ _ _ _ _ _ _)
   | (with_reducible exact pinfoldlaw35_lives.mono _)
   | (with_reducible exact LeO.refl _)
   | (with_reducible exact LeO.none _)
   | (with_reducible refine LeO.ite ?_ ?_)
   | (with_reducible refine LeO.bind ?_ (fun _ => ?_))
   | exact ih0 _ _ _ _ _ _ _ _ _ _ _ _ _ _ _ _ _ _ _ _ _ _ _ _ _ _ _ _ _
   | exact ih1 _ _ _ _ _ _ _ _ _ _ _ _ _ _ _ _ _ _ _ _ _ _ _ _ _ _ _ _ _ _ _ _ _ _
   | exact pinfoldlaw35_lives.mono _
   | exact LeO.none _
   | refine LeO.ite ?_ ?_
   | refine LeO.bind ?_ (fun _ => ?_)
set_option maxHeartbeats 8000000 in
set_option maxRecDepth 100000 in
theorem pinfoldlaw35_CensusStates.calls (k : Nat) (A0_0 : Option Addr) (c0_0 : Nat) (l0_0 : List (S74)) (a0_1 : Int) (a0_2 : Int) (a0_3 : Int) (a0_4 : Int) (a0_5 : Int) (a0_6 : Int) (a0_7 : Int) (a0_8 : Int) (a0_9 : Int) (a0_10 : Int) (a0_11 : Int) (a0_12 : Int) (a0_13 : Int) (a0_14 : Int) (a0_15 : Int) (a0_16 : Int) (A0_17 : Option Addr) (c0_17 : Nat) (l0_17 : List Int) (a0_18 : Int) (r : Bool) (w : World) (hr0_0 : Kd.C k74 w A0_0 l0_0.length l0_0) (hc0_0 : l0_0.length ≤ c0_0) (hr0_17 : Kd.C (Kd.int .i64) w A0_17 l0_17.length l0_17) (hc0_17 : l0_17.length ≤ c0_17) (h : pinfoldlaw35_CensusStates.f k l0_0 a0_1 a0_2 a0_3 a0_4 a0_5 a0_6 a0_7 a0_8 a0_9 a0_10 a0_11 a0_12 a0_13 a0_14 a0_15 a0_16 l0_17 a0_18 = some r) :
  Calls Try.prog 9 #[.agg #[.slice A0_0 l0_0.length c0_0, .int .u64 a0_1, .int .u64 a0_2, .int .u64 a0_3, .int .u64 a0_4, .int .u64 a0_5, .int .u64 a0_6, .int .u64 a0_7, .int .u64 a0_8, .int .u64 a0_9, .int .u64 a0_10, .int .u64 a0_11, .int .u64 a0_12, .int .u64 a0_13, .int .u64 a0_14, .int .u64 a0_15, .int .u64 a0_16, .slice A0_17 l0_17.length c0_17, .int .i64 a0_18]] w fun e w' => e = .returned (.bool r) ∧ Below w.heap.size w w' := by
 have hu69 := Try.underlying69
 have hu70 := Try.underlying70
 have hu74 := Try.underlying74
 have HR0_0 := Aside0.mk hr0_0
 have HC0_0 := Aside0.mk hc0_0
 clear hr0_0 hc0_0
 have HR0_17 := Aside0.mk hr0_17
 have HC0_17 := Aside0.mk hc0_17
 clear hr0_17 hc0_17
 have HB := Aside0.mk (Below.refl w.heap.size w)
 have H : (if (l0_0.length : Int) > 60 then ((pinfoldlaw35_lives.f k).bind fun t186 => (some t186)) else ((census_States.f l0_0 a0_1 a0_2 a0_3 a0_4 a0_5 a0_6 a0_7 a0_8 a0_9 a0_10 a0_11 a0_12 a0_13 a0_14 a0_15 a0_16 l0_17 a0_18).bind fun bt187 => (pinfoldlaw35_CensusStates.l0 k 0 l0_0 a0_1 a0_2 a0_3 a0_4 a0_5 a0_6 a0_7 a0_8 a0_9 a0_10 a0_11 a0_12 a0_13 a0_14 a0_15 a0_16 l0_17 a0_18 bt187.1 bt187.2.1 bt187.2.2.1 bt187.2.2.2.1 bt187.2.2.2.2.1 bt187.2.2.2.2.2.1 bt187.2.2.2.2.2.2.1 bt187.2.2.2.2.2.2.2.1 bt187.2.2.2.2.2.2.2.2))) = some r := h
 clear h
 by_cases c2 : (l0_0.length : Int) > 60
 ·rw [if_pos c2] at H
  have c2b0 : decide (60 < (l0_0.length : Int)) = true := decide_eq_true c2
  have c2b1 : decide (60 < l0_0.length) = true := decide_eq_true (by omega)
  clear c2
  replace H := Option.bind_eq_some_iff.mp H
  obtain ⟨t186, A30, H⟩ := H
  replace H : (some t186) = some r := H
  have A3 := Aside0.mk A30
  clear A30
  obtain rfl := Option.some.inj H
  go_enter Try.func9, Try.ntmps9
  go_wp2_with (first|((with_reducible refine gate_dst (N := 1) rfl ?_);refine box_event ?hg (N := 1) ?hd (cs := #[.slice A0_0 l0_0.length c0_0, .int .u64 a0_1, .int .u64 a0_2, .int .u64 a0_3, .int .u64 a0_4, .int .u64 a0_5, .int .u64 a0_6, .int .u64 a0_7, .int .u64 a0_8, .int .u64 a0_9, .int .u64 a0_10, .int .u64 a0_11, .int .u64 a0_12, .int .u64 a0_13, .int .u64 a0_14, .int .u64 a0_15, .int .u64 a0_16, .slice A0_17 l0_17.length c0_17, .int .i64 a0_18]) (t := 69) ?hr ?_;(case hd => rfl);(case hg => rfl);(case hr => first|(go_simp;done)|(go_simp;rfl));intro gb185 hg w4 hbox hb;have n0_ := Aside0.mk (below_step (by repeat (with_reducible first|exact HB.out|apply xa|apply xb|apply xc)) hb);have n1_ := Aside0.mk (hbox);have n2_ := Aside0.mk ((by rw [hg];exact (below_size (by repeat (with_reducible first|exact HB.out|apply xa|apply xb|apply xc))) : w.heap.size ≤ gb185));have n3_ := Aside0.mk ((by rw [hg];exact (below_size (by repeat (with_reducible first|exact HB.out|apply xa|apply xb|apply xc))) : w.heap.size ≤ gb185));clear HB;have HB := n0_;have BK185 := n1_;have GW185 := n2_;have GE185 := n3_;clear n0_ n1_ n2_ n3_;clear hb hbox hg;have hcz5_0 : w4.cell? ⟨gb185, 0, none⟩ = some (.slice A0_0 l0_0.length c0_0) := (blk_cell BK185.out 0).trans rfl;have hcz5_1 : w4.cell? ⟨gb185, 1, none⟩ = some (.int .u64 a0_1) := (blk_cell BK185.out 1).trans rfl;have hcz5_2 : w4.cell? ⟨gb185, 2, none⟩ = some (.int .u64 a0_2) := (blk_cell BK185.out 2).trans rfl;have hcz5_3 : w4.cell? ⟨gb185, 3, none⟩ = some (.int .u64 a0_3) := (blk_cell BK185.out 3).trans rfl;have hcz5_4 : w4.cell? ⟨gb185, 4, none⟩ = some (.int .u64 a0_4) := (blk_cell BK185.out 4).trans rfl;have hcz5_5 : w4.cell? ⟨gb185, 5, none⟩ = some (.int .u64 a0_5) := (blk_cell BK185.out 5).trans rfl;have hcz5_6 : w4.cell? ⟨gb185, 6, none⟩ = some (.int .u64 a0_6) := (blk_cell BK185.out 6).trans rfl;have hcz5_7 : w4.cell? ⟨gb185, 7, none⟩ = some (.int .u64 a0_7) := (blk_cell BK185.out 7).trans rfl;have hcz5_8 : w4.cell? ⟨gb185, 8, none⟩ = some (.int .u64 a0_8) := (blk_cell BK185.out 8).trans rfl;have hcz5_9 : w4.cell? ⟨gb185, 9, none⟩ = some (.int .u64 a0_9) := (blk_cell BK185.out 9).trans rfl;have hcz5_10 : w4.cell? ⟨gb185, 10, none⟩ = some (.int .u64 a0_10) := (blk_cell BK185.out 10).trans rfl;have hcz5_11 : w4.cell? ⟨gb185, 11, none⟩ = some (.int .u64 a0_11) := (blk_cell BK185.out 11).trans rfl;have hcz5_12 : w4.cell? ⟨gb185, 12, none⟩ = some (.int .u64 a0_12) := (blk_cell BK185.out 12).trans rfl;have hcz5_13 : w4.cell? ⟨gb185, 13, none⟩ = some (.int .u64 a0_13) := (blk_cell BK185.out 13).trans rfl;have hcz5_14 : w4.cell? ⟨gb185, 14, none⟩ = some (.int .u64 a0_14) := (blk_cell BK185.out 14).trans rfl;have hcz5_15 : w4.cell? ⟨gb185, 15, none⟩ = some (.int .u64 a0_15) := (blk_cell BK185.out 15).trans rfl;have hcz5_16 : w4.cell? ⟨gb185, 16, none⟩ = some (.int .u64 a0_16) := (blk_cell BK185.out 16).trans rfl;have hcz5_17 : w4.cell? ⟨gb185, 17, none⟩ = some (.slice A0_17 l0_17.length c0_17) := (blk_cell BK185.out 17).trans rfl;have hcz5_18 : w4.cell? ⟨gb185, 18, none⟩ = some (.int .i64 a0_18) := (blk_cell BK185.out 18).trans rfl;have hfz5_0 := blk_frozen BK185.out 0;have hfz5_1 := blk_frozen BK185.out 1;have hfz5_2 := blk_frozen BK185.out 2;have hfz5_3 := blk_frozen BK185.out 3;have hfz5_4 := blk_frozen BK185.out 4;have hfz5_5 := blk_frozen BK185.out 5;have hfz5_6 := blk_frozen BK185.out 6;have hfz5_7 := blk_frozen BK185.out 7;have hfz5_8 := blk_frozen BK185.out 8;have hfz5_9 := blk_frozen BK185.out 9;have hfz5_10 := blk_frozen BK185.out 10;have hfz5_11 := blk_frozen BK185.out 11;have hfz5_12 := blk_frozen BK185.out 12;have hfz5_13 := blk_frozen BK185.out 13;have hfz5_14 := blk_frozen BK185.out 14;have hfz5_15 := blk_frozen BK185.out 15;have hfz5_16 := blk_frozen BK185.out 16;have hfz5_17 := blk_frozen BK185.out 17;have hfz5_18 := blk_frozen BK185.out 18)|((with_reducible refine gate_callee (f := 39) rfl ?_);refine goesL_ (some 12) rfl rfl Try.func39 (by kernel_rfl) rfl #[] rfl (by (try simp only [List.map_toArray, List.map_cons, List.map_nil]);first|done|rfl|(simp only [List.length_drop, List.length_take];rfl)) ?_;(with_reducible refine (pinfoldlaw35_lives.calls k  t186 _ A3.out).mono ?_);rintro e w6 ⟨rfl, hb⟩;refine ⟨_, rfl, ?_⟩;have n0_ := Aside0.mk (blk_below (g := gb185) (o := .cells #[.slice A0_0 l0_0.length c0_0, .int .u64 a0_1, .int .u64 a0_2, .int .u64 a0_3, .int .u64 a0_4, .int .u64 a0_5, .int .u64 a0_6, .int .u64 a0_7, .int .u64 a0_8, .int .u64 a0_9, .int .u64 a0_10, .int .u64 a0_11, .int .u64 a0_12, .int .u64 a0_13, .int .u64 a0_14, .int .u64 a0_15, .int .u64 a0_16, .slice A0_17 l0_17.length c0_17, .int .i64 a0_18] 69 (0, 0)) (by (with_reducible repeat (first|apply blk_drewN|apply blk_drew|apply blk_alloc));exact BK185.out) hb);have n1_ := Aside0.mk (below_step (by repeat (first|(with_reducible first|exact HB.out|apply xa|apply xb|apply xc|refine below_set ?_ GE185.out)|exact HB.out)) hb);clear BK185;clear HB;have BK185 := n0_;have HB := n1_;clear n0_ n1_;(try clear hb);(try clear hb2);(try clear hk);(try clear hi)))
  go_ret
  exact ⟨by first|rfl|(simp [errW_none, errW_some] <;> rfl)|(simp [*, errW_none, errW_some] <;> rfl), by repeat (first|(with_reducible first|exact HB.out|apply xa|apply xb|apply xc|refine below_set ?_ GE185.out)|exact HB.out)⟩
 ·rw [if_neg c2] at H
  have c2b0 : decide (60 < (l0_0.length : Int)) = false := decide_eq_false c2
  have c2b1 : decide (60 < l0_0.length) = false := decide_eq_false (by omega)
  clear c2
  replace H := Option.bind_eq_some_iff.mp H
  obtain ⟨⟨t187, t188, t189, t190, t191, t192, t193, t194, t195⟩, A70, H⟩ := H
  replace H : (pinfoldlaw35_CensusStates.l0 k 0 l0_0 a0_1 a0_2 a0_3 a0_4 a0_5 a0_6 a0_7 a0_8 a0_9 a0_10 a0_11 a0_12 a0_13 a0_14 a0_15 a0_16 l0_17 a0_18 t187 t188 t189 t190 t191 t192 t193 t194 t195) = some r := H
  have A7 := Aside0.mk A70
  clear A70
  have H' := Aside0.mk H
  clear H
  go_enter Try.func9, Try.ntmps9
  go_wp2_with (first|((with_reducible refine gate_dst (N := 13) rfl ?_);refine wpList_load_row rfl 69 (.tmp 1) rfl gb185 rfl 69 #[.slice A0_0 l0_0.length c0_0, .int .u64 a0_1, .int .u64 a0_2, .int .u64 a0_3, .int .u64 a0_4, .int .u64 a0_5, .int .u64 a0_6, .int .u64 a0_7, .int .u64 a0_8, .int .u64 a0_9, .int .u64 a0_10, .int .u64 a0_11, .int .u64 a0_12, .int .u64 a0_13, .int .u64 a0_14, .int .u64 a0_15, .int .u64 a0_16, .slice A0_17 l0_17.length c0_17, .int .i64 a0_18] (0, 0) _ BK185.out hu69 rfl rfl ?_)|((with_reducible refine gate_dst (N := 1) rfl ?_);refine box_event ?hg (N := 1) ?hd (cs := #[.slice A0_0 l0_0.length c0_0, .int .u64 a0_1, .int .u64 a0_2, .int .u64 a0_3, .int .u64 a0_4, .int .u64 a0_5, .int .u64 a0_6, .int .u64 a0_7, .int .u64 a0_8, .int .u64 a0_9, .int .u64 a0_10, .int .u64 a0_11, .int .u64 a0_12, .int .u64 a0_13, .int .u64 a0_14, .int .u64 a0_15, .int .u64 a0_16, .slice A0_17 l0_17.length c0_17, .int .i64 a0_18]) (t := 69) ?hr ?_;(case hd => rfl);(case hg => rfl);(case hr => first|(go_simp;done)|(go_simp;rfl));intro gb185 hg w8 hbox hb;have n0_ := Aside0.mk (below_step (by repeat (with_reducible first|exact HB.out|apply xa|apply xb|apply xc)) hb);have n1_ := Aside0.mk (hbox);have n2_ := Aside0.mk ((by rw [hg];exact (below_size (by repeat (with_reducible first|exact HB.out|apply xa|apply xb|apply xc))) : w.heap.size ≤ gb185));have n3_ := Aside0.mk ((by rw [hg];exact (below_size (by repeat (with_reducible first|exact HB.out|apply xa|apply xb|apply xc))) : w.heap.size ≤ gb185));clear HB;have HB := n0_;have BK185 := n1_;have GW185 := n2_;have GE185 := n3_;clear n0_ n1_ n2_ n3_;clear hb hbox hg;have hcz9_0 : w8.cell? ⟨gb185, 0, none⟩ = some (.slice A0_0 l0_0.length c0_0) := (blk_cell BK185.out 0).trans rfl;have hcz9_1 : w8.cell? ⟨gb185, 1, none⟩ = some (.int .u64 a0_1) := (blk_cell BK185.out 1).trans rfl;have hcz9_2 : w8.cell? ⟨gb185, 2, none⟩ = some (.int .u64 a0_2) := (blk_cell BK185.out 2).trans rfl;have hcz9_3 : w8.cell? ⟨gb185, 3, none⟩ = some (.int .u64 a0_3) := (blk_cell BK185.out 3).trans rfl;have hcz9_4 : w8.cell? ⟨gb185, 4, none⟩ = some (.int .u64 a0_4) := (blk_cell BK185.out 4).trans rfl;have hcz9_5 : w8.cell? ⟨gb185, 5, none⟩ = some (.int .u64 a0_5) := (blk_cell BK185.out 5).trans rfl;have hcz9_6 : w8.cell? ⟨gb185, 6, none⟩ = some (.int .u64 a0_6) := (blk_cell BK185.out 6).trans rfl;have hcz9_7 : w8.cell? ⟨gb185, 7, none⟩ = some (.int .u64 a0_7) := (blk_cell BK185.out 7).trans rfl;have hcz9_8 : w8.cell? ⟨gb185, 8, none⟩ = some (.int .u64 a0_8) := (blk_cell BK185.out 8).trans rfl;have hcz9_9 : w8.cell? ⟨gb185, 9, none⟩ = some (.int .u64 a0_9) := (blk_cell BK185.out 9).trans rfl;have hcz9_10 : w8.cell? ⟨gb185, 10, none⟩ = some (.int .u64 a0_10) := (blk_cell BK185.out 10).trans rfl;have hcz9_11 : w8.cell? ⟨gb185, 11, none⟩ = some (.int .u64 a0_11) := (blk_cell BK185.out 11).trans rfl;have hcz9_12 : w8.cell? ⟨gb185, 12, none⟩ = some (.int .u64 a0_12) := (blk_cell BK185.out 12).trans rfl;have hcz9_13 : w8.cell? ⟨gb185, 13, none⟩ = some (.int .u64 a0_13) := (blk_cell BK185.out 13).trans rfl;have hcz9_14 : w8.cell? ⟨gb185, 14, none⟩ = some (.int .u64 a0_14) := (blk_cell BK185.out 14).trans rfl;have hcz9_15 : w8.cell? ⟨gb185, 15, none⟩ = some (.int .u64 a0_15) := (blk_cell BK185.out 15).trans rfl;have hcz9_16 : w8.cell? ⟨gb185, 16, none⟩ = some (.int .u64 a0_16) := (blk_cell BK185.out 16).trans rfl;have hcz9_17 : w8.cell? ⟨gb185, 17, none⟩ = some (.slice A0_17 l0_17.length c0_17) := (blk_cell BK185.out 17).trans rfl;have hcz9_18 : w8.cell? ⟨gb185, 18, none⟩ = some (.int .i64 a0_18) := (blk_cell BK185.out 18).trans rfl;have hfz9_0 := blk_frozen BK185.out 0;have hfz9_1 := blk_frozen BK185.out 1;have hfz9_2 := blk_frozen BK185.out 2;have hfz9_3 := blk_frozen BK185.out 3;have hfz9_4 := blk_frozen BK185.out 4;have hfz9_5 := blk_frozen BK185.out 5;have hfz9_6 := blk_frozen BK185.out 6;have hfz9_7 := blk_frozen BK185.out 7;have hfz9_8 := blk_frozen BK185.out 8;have hfz9_9 := blk_frozen BK185.out 9;have hfz9_10 := blk_frozen BK185.out 10;have hfz9_11 := blk_frozen BK185.out 11;have hfz9_12 := blk_frozen BK185.out 12;have hfz9_13 := blk_frozen BK185.out 13;have hfz9_14 := blk_frozen BK185.out 14;have hfz9_15 := blk_frozen BK185.out 15;have hfz9_16 := blk_frozen BK185.out 16;have hfz9_17 := blk_frozen BK185.out 17;have hfz9_18 := blk_frozen BK185.out 18)|((with_reducible refine gate_callee (f := 42) rfl ?_);refine goesL_ (some 14) rfl rfl Try.func42 (by kernel_rfl) rfl #[.agg #[.slice A0_0 l0_0.length c0_0, .int .u64 a0_1, .int .u64 a0_2, .int .u64 a0_3, .int .u64 a0_4, .int .u64 a0_5, .int .u64 a0_6, .int .u64 a0_7, .int .u64 a0_8, .int .u64 a0_9, .int .u64 a0_10, .int .u64 a0_11, .int .u64 a0_12, .int .u64 a0_13, .int .u64 a0_14, .int .u64 a0_15, .int .u64 a0_16, .slice A0_17 l0_17.length c0_17, .int .i64 a0_18]] rfl (by (try simp only [List.map_toArray, List.map_cons, List.map_nil]);first|done|rfl|(simp only [List.length_drop, List.length_take];rfl)) ?_;(with_reducible refine (census_States.calls _ _ l0_0 a0_1 a0_2 a0_3 a0_4 a0_5 a0_6 a0_7 a0_8 a0_9 a0_10 a0_11 a0_12 a0_13 a0_14 a0_15 a0_16 _ _ l0_17 a0_18 t187 t188 t189 t190 t191 t192 t193 t194 t195 _ ?side1 ?side2 ?side3 ?side4 A7.out).mono ?_);(case side1 => repeat (first|exact (Kd.C_below HR0_0.out HB.out)|(with_reducible refine Kd.C_alloc ?_ _)|(with_reducible refine Kd.C_drewN ?_ _)|(with_reducible refine Kd.C_drew ?_)));(case side2 => exact HC0_0.out);(case side3 => repeat (first|exact (Kd.C_below HR0_17.out HB.out)|(with_reducible refine Kd.C_alloc ?_ _)|(with_reducible refine Kd.C_drewN ?_ _)|(with_reducible refine Kd.C_drew ?_)));(case side4 => exact HC0_17.out);rintro e w10 ⟨rfl, hb⟩;refine ⟨_, rfl, ?_⟩;have n0_ := Aside0.mk (blk_below (g := gb185) (o := .cells #[.slice A0_0 l0_0.length c0_0, .int .u64 a0_1, .int .u64 a0_2, .int .u64 a0_3, .int .u64 a0_4, .int .u64 a0_5, .int .u64 a0_6, .int .u64 a0_7, .int .u64 a0_8, .int .u64 a0_9, .int .u64 a0_10, .int .u64 a0_11, .int .u64 a0_12, .int .u64 a0_13, .int .u64 a0_14, .int .u64 a0_15, .int .u64 a0_16, .slice A0_17 l0_17.length c0_17, .int .i64 a0_18] 69 (0, 0)) (by (with_reducible repeat (first|apply blk_drewN|apply blk_drew|apply blk_alloc));exact BK185.out) hb);have n1_ := Aside0.mk (below_step (by repeat (first|(with_reducible first|exact HB.out|apply xa|apply xb|apply xc|refine below_set ?_ GE185.out)|exact HB.out)) hb);clear BK185;clear HB;have BK185 := n0_;have HB := n1_;clear n0_ n1_;(try clear hb);(try clear hb2);(try clear hk);(try clear hi))|((with_reducible refine gate_dst (N := 3) rfl ?_);refine box_event ?hg (N := 3) ?hd (cs := #[.int .i64 0, .int .i64 0, .int .i64 0, .int .i64 0, .int .i64 0, .int .i64 0, .int .i64 0, .int .i64 0, .int .i64 0]) (t := 70) ?hr ?_;(case hd => rfl);(case hg => rfl);(case hr => first|(go_simp;done)|(go_simp;rfl));intro gb196 hg w11 hbox hb;have n0_ := Aside0.mk (blk_below (g := gb185) (o := .cells #[.slice A0_0 l0_0.length c0_0, .int .u64 a0_1, .int .u64 a0_2, .int .u64 a0_3, .int .u64 a0_4, .int .u64 a0_5, .int .u64 a0_6, .int .u64 a0_7, .int .u64 a0_8, .int .u64 a0_9, .int .u64 a0_10, .int .u64 a0_11, .int .u64 a0_12, .int .u64 a0_13, .int .u64 a0_14, .int .u64 a0_15, .int .u64 a0_16, .slice A0_17 l0_17.length c0_17, .int .i64 a0_18] 69 (0, 0)) (by (with_reducible repeat (first|apply blk_drewN|apply blk_drew|apply blk_alloc));exact BK185.out) hb);have n1_ := Aside0.mk (below_step (by repeat (first|(with_reducible first|exact HB.out|apply xa|apply xb|apply xc|refine below_set ?_ GE185.out)|exact HB.out)) hb);have n2_ := Aside0.mk (hbox);have n3_ := Aside0.mk ((by rw [hg];exact (below_size (by repeat (first|(with_reducible first|exact HB.out|apply xa|apply xb|apply xc|refine below_set ?_ GE185.out)|exact HB.out))) : w.heap.size ≤ gb196));have n4_ := Aside0.mk ((by rw [hg];exact (below_size (by repeat (first|(with_reducible first|exact HB.out|apply xa|apply xb|apply xc|refine below_set ?_ GE185.out)|exact HB.out))) : w.heap.size ≤ gb196));have n5_ := Aside0.mk ((by rw [hg];exact Nat.ne_of_lt (blk_lt (g := gb185) (o := .cells #[.slice A0_0 l0_0.length c0_0, .int .u64 a0_1, .int .u64 a0_2, .int .u64 a0_3, .int .u64 a0_4, .int .u64 a0_5, .int .u64 a0_6, .int .u64 a0_7, .int .u64 a0_8, .int .u64 a0_9, .int .u64 a0_10, .int .u64 a0_11, .int .u64 a0_12, .int .u64 a0_13, .int .u64 a0_14, .int .u64 a0_15, .int .u64 a0_16, .slice A0_17 l0_17.length c0_17, .int .i64 a0_18] 69 (0, 0)) (by (with_reducible repeat (first|apply blk_drewN|apply blk_drew|apply blk_alloc));exact BK185.out)) : gb185 ≠ gb196));have n6_ := Aside0.mk ((by rw [hg];exact Nat.ne_of_gt (blk_lt (g := gb185) (o := .cells #[.slice A0_0 l0_0.length c0_0, .int .u64 a0_1, .int .u64 a0_2, .int .u64 a0_3, .int .u64 a0_4, .int .u64 a0_5, .int .u64 a0_6, .int .u64 a0_7, .int .u64 a0_8, .int .u64 a0_9, .int .u64 a0_10, .int .u64 a0_11, .int .u64 a0_12, .int .u64 a0_13, .int .u64 a0_14, .int .u64 a0_15, .int .u64 a0_16, .slice A0_17 l0_17.length c0_17, .int .i64 a0_18] 69 (0, 0)) (by (with_reducible repeat (first|apply blk_drewN|apply blk_drew|apply blk_alloc));exact BK185.out)) : gb196 ≠ gb185));clear BK185;clear HB;have BK185 := n0_;have HB := n1_;have BK196 := n2_;have GW196 := n3_;have GE196 := n4_;have NB185_196 := n5_;have NB196_185 := n6_;clear n0_ n1_ n2_ n3_ n4_ n5_ n6_;clear hb hbox hg;have hnb12 := NB196_185.out;have hnc12 := NB185_196.out;have hcz13_0 : w11.cell? ⟨gb196, 0, none⟩ = some (.int .i64 0) := (blk_cell BK196.out 0).trans rfl;have hcz13_1 : w11.cell? ⟨gb196, 1, none⟩ = some (.int .i64 0) := (blk_cell BK196.out 1).trans rfl;have hcz13_2 : w11.cell? ⟨gb196, 2, none⟩ = some (.int .i64 0) := (blk_cell BK196.out 2).trans rfl;have hcz13_3 : w11.cell? ⟨gb196, 3, none⟩ = some (.int .i64 0) := (blk_cell BK196.out 3).trans rfl;have hcz13_4 : w11.cell? ⟨gb196, 4, none⟩ = some (.int .i64 0) := (blk_cell BK196.out 4).trans rfl;have hcz13_5 : w11.cell? ⟨gb196, 5, none⟩ = some (.int .i64 0) := (blk_cell BK196.out 5).trans rfl;have hcz13_6 : w11.cell? ⟨gb196, 6, none⟩ = some (.int .i64 0) := (blk_cell BK196.out 6).trans rfl;have hcz13_7 : w11.cell? ⟨gb196, 7, none⟩ = some (.int .i64 0) := (blk_cell BK196.out 7).trans rfl;have hcz13_8 : w11.cell? ⟨gb196, 8, none⟩ = some (.int .i64 0) := (blk_cell BK196.out 8).trans rfl;have hfz13_0 := blk_frozen BK196.out 0;have hfz13_1 := blk_frozen BK196.out 1;have hfz13_2 := blk_frozen BK196.out 2;have hfz13_3 := blk_frozen BK196.out 3;have hfz13_4 := blk_frozen BK196.out 4;have hfz13_5 := blk_frozen BK196.out 5;have hfz13_6 := blk_frozen BK196.out 6;have hfz13_7 := blk_frozen BK196.out 7;have hfz13_8 := blk_frozen BK196.out 8))
  go_loopg [15] k (fun kq v15 w' => ∃ (x15_1 : Int), v15 = .int .i64 x15_1 ∧ Aside0 (pinfoldlaw35_CensusStates.l0 kq x15_1 l0_0 a0_1 a0_2 a0_3 a0_4 a0_5 a0_6 a0_7 a0_8 a0_9 a0_10 a0_11 a0_12 a0_13 a0_14 a0_15 a0_16 l0_17 a0_18 t187 t188 t189 t190 t191 t192 t193 t194 t195 = some r) ∧ Aside0 (kq ≤ k) ∧ Aside0 (w'.heap[gb185]? = some (.cells #[(.slice A0_0 l0_0.length c0_0), .int .u64 a0_1, .int .u64 a0_2, .int .u64 a0_3, .int .u64 a0_4, .int .u64 a0_5, .int .u64 a0_6, .int .u64 a0_7, .int .u64 a0_8, .int .u64 a0_9, .int .u64 a0_10, .int .u64 a0_11, .int .u64 a0_12, .int .u64 a0_13, .int .u64 a0_14, .int .u64 a0_15, .int .u64 a0_16, (.slice A0_17 l0_17.length c0_17), .int .i64 a0_18] 69 (0, 0))) ∧ Aside0 (w'.heap[gb196]? = some (.cells #[.int .i64 t187, .int .i64 t188, .int .i64 t189, .int .i64 t190, .int .i64 t191, .int .i64 t192, .int .i64 t193, .int .i64 t194, .int .i64 t195] 70 (0, 0))) ∧ Aside0 (Below w.heap.size w w'))
  case atStart => exact ⟨(0), (by first|rfl|(simp;done)|(simp [*];done)), H', ⟨Nat.le_refl _⟩, ⟨by (with_reducible repeat (first|apply blk_drewN|apply blk_drew|apply blk_alloc));refine blk_far ?_ NB185_196.out _;(with_reducible repeat (first|apply blk_drewN|apply blk_drew|apply blk_alloc));refine blk_far ?_ NB185_196.out _;(with_reducible repeat (first|apply blk_drewN|apply blk_drew|apply blk_alloc));refine blk_far ?_ NB185_196.out _;(with_reducible repeat (first|apply blk_drewN|apply blk_drew|apply blk_alloc));refine blk_far ?_ NB185_196.out _;(with_reducible repeat (first|apply blk_drewN|apply blk_drew|apply blk_alloc));refine blk_far ?_ NB185_196.out _;(with_reducible repeat (first|apply blk_drewN|apply blk_drew|apply blk_alloc));refine blk_far ?_ NB185_196.out _;(with_reducible repeat (first|apply blk_drewN|apply blk_drew|apply blk_alloc));refine blk_far ?_ NB185_196.out _;(with_reducible repeat (first|apply blk_drewN|apply blk_drew|apply blk_alloc));refine blk_far ?_ NB185_196.out _;(with_reducible repeat (first|apply blk_drewN|apply blk_drew|apply blk_alloc));refine blk_far ?_ NB185_196.out _;(with_reducible repeat (first|apply blk_drewN|apply blk_drew|apply blk_alloc));exact BK185.out⟩, ⟨by (with_reducible repeat (first|apply blk_drewN|apply blk_drew|apply blk_alloc));refine blk_put (cs := #[.int .i64 t187, .int .i64 t188, .int .i64 t189, .int .i64 t190, .int .i64 t191, .int .i64 t192, .int .i64 t193, .int .i64 t194, .int .i64 0]) ?_ 8 _ rfl;(with_reducible repeat (first|apply blk_drewN|apply blk_drew|apply blk_alloc));refine blk_put (cs := #[.int .i64 t187, .int .i64 t188, .int .i64 t189, .int .i64 t190, .int .i64 t191, .int .i64 t192, .int .i64 t193, .int .i64 0, .int .i64 0]) ?_ 7 _ rfl;(with_reducible repeat (first|apply blk_drewN|apply blk_drew|apply blk_alloc));refine blk_put (cs := #[.int .i64 t187, .int .i64 t188, .int .i64 t189, .int .i64 t190, .int .i64 t191, .int .i64 t192, .int .i64 0, .int .i64 0, .int .i64 0]) ?_ 6 _ rfl;(with_reducible repeat (first|apply blk_drewN|apply blk_drew|apply blk_alloc));refine blk_put (cs := #[.int .i64 t187, .int .i64 t188, .int .i64 t189, .int .i64 t190, .int .i64 t191, .int .i64 0, .int .i64 0, .int .i64 0, .int .i64 0]) ?_ 5 _ rfl;(with_reducible repeat (first|apply blk_drewN|apply blk_drew|apply blk_alloc));refine blk_put (cs := #[.int .i64 t187, .int .i64 t188, .int .i64 t189, .int .i64 t190, .int .i64 0, .int .i64 0, .int .i64 0, .int .i64 0, .int .i64 0]) ?_ 4 _ rfl;(with_reducible repeat (first|apply blk_drewN|apply blk_drew|apply blk_alloc));refine blk_put (cs := #[.int .i64 t187, .int .i64 t188, .int .i64 t189, .int .i64 0, .int .i64 0, .int .i64 0, .int .i64 0, .int .i64 0, .int .i64 0]) ?_ 3 _ rfl;(with_reducible repeat (first|apply blk_drewN|apply blk_drew|apply blk_alloc));refine blk_put (cs := #[.int .i64 t187, .int .i64 t188, .int .i64 0, .int .i64 0, .int .i64 0, .int .i64 0, .int .i64 0, .int .i64 0, .int .i64 0]) ?_ 2 _ rfl;(with_reducible repeat (first|apply blk_drewN|apply blk_drew|apply blk_alloc));refine blk_put (cs := #[.int .i64 t187, .int .i64 0, .int .i64 0, .int .i64 0, .int .i64 0, .int .i64 0, .int .i64 0, .int .i64 0, .int .i64 0]) ?_ 1 _ rfl;(with_reducible repeat (first|apply blk_drewN|apply blk_drew|apply blk_alloc));refine blk_put (cs := #[.int .i64 0, .int .i64 0, .int .i64 0, .int .i64 0, .int .i64 0, .int .i64 0, .int .i64 0, .int .i64 0, .int .i64 0]) ?_ 0 _ rfl;(with_reducible repeat (first|apply blk_drewN|apply blk_drew|apply blk_alloc));exact BK196.out⟩, ⟨by repeat (first|(with_reducible first|exact HB.out|apply xa|apply xb|apply xc|refine below_set ?_ GE185.out|refine below_set ?_ GE196.out)|exact HB.out)⟩⟩
  case round =>
   clear H'
   try clear c1
   try clear c2
   try clear c2b0
   try clear c2b1
   try clear p2
   try clear c3
   try clear c4
   try clear c9
   try clear c12
   try clear hcz13_0
   try clear hcz13_1
   try clear hcz13_2
   try clear hcz13_3
   try clear hcz13_4
   try clear hcz13_5
   try clear hcz13_6
   try clear hcz13_7
   try clear hcz13_8
   try clear hcz5_0
   try clear hcz5_1
   try clear hcz5_10
   try clear hcz5_11
   try clear hcz5_12
   try clear hcz5_13
   try clear hcz5_14
   try clear hcz5_15
   try clear hcz5_16
   try clear hcz5_17
   try clear hcz5_18
   try clear hcz5_2
   try clear hcz5_3
   try clear hcz5_4
   try clear hcz5_5
   try clear hcz5_6
   try clear hcz5_7
   try clear hcz5_8
   try clear hcz5_9
   try clear hcz9_0
   try clear hcz9_1
   try clear hcz9_10
   try clear hcz9_11
   try clear hcz9_12
   try clear hcz9_13
   try clear hcz9_14
   try clear hcz9_15
   try clear hcz9_16
   try clear hcz9_17
   try clear hcz9_18
   try clear hcz9_2
   try clear hcz9_3
   try clear hcz9_4
   try clear hcz9_5
   try clear hcz9_6
   try clear hcz9_7
   try clear hcz9_8
   try clear hcz9_9
   try clear hfz13_0
   try clear hfz13_1
   try clear hfz13_2
   try clear hfz13_3
   try clear hfz13_4
   try clear hfz13_5
   try clear hfz13_6
   try clear hfz13_7
   try clear hfz13_8
   try clear hfz5_0
   try clear hfz5_1
   try clear hfz5_10
   try clear hfz5_11
   try clear hfz5_12
   try clear hfz5_13
   try clear hfz5_14
   try clear hfz5_15
   try clear hfz5_16
   try clear hfz5_17
   try clear hfz5_18
   try clear hfz5_2
   try clear hfz5_3
   try clear hfz5_4
   try clear hfz5_5
   try clear hfz5_6
   try clear hfz5_7
   try clear hfz5_8
   try clear hfz5_9
   try clear hfz9_0
   try clear hfz9_1
   try clear hfz9_10
   try clear hfz9_11
   try clear hfz9_12
   try clear hfz9_13
   try clear hfz9_14
   try clear hfz9_15
   try clear hfz9_16
   try clear hfz9_17
   try clear hfz9_18
   try clear hfz9_2
   try clear hfz9_3
   try clear hfz9_4
   try clear hfz9_5
   try clear hfz9_6
   try clear hfz9_7
   try clear hfz9_8
   try clear hfz9_9
   obtain ⟨x15_1, rfl, HA, HK1, BK185, BK196, HB⟩ := hrel
   cases gk with
   | zero => exact absurd HA.out (by simp [pinfoldlaw35_CensusStates.l0])
   | succ k1 =>
    have H := HA.out
    clear HA
    simp only [pinfoldlaw35_CensusStates.l0] at H
    by_cases c14 : x15_1 < 9
    ·rw [if_pos c14] at H
     have c14b0 : decide (x15_1 < 9) = true := decide_eq_true c14
     clear c14
     have H' := Aside0.mk H
     clear H
     have hnb15 := NB185_196.out
     have hnc15 := NB196_185.out
     have hcz16_0 : wr.cell? ⟨gb185, 0, none⟩ = some (.slice A0_0 l0_0.length c0_0) := (blk_cell BK185.out 0).trans rfl
     have hcz16_1 : wr.cell? ⟨gb185, 1, none⟩ = some (.int .u64 a0_1) := (blk_cell BK185.out 1).trans rfl
     have hcz16_2 : wr.cell? ⟨gb185, 2, none⟩ = some (.int .u64 a0_2) := (blk_cell BK185.out 2).trans rfl
     have hcz16_3 : wr.cell? ⟨gb185, 3, none⟩ = some (.int .u64 a0_3) := (blk_cell BK185.out 3).trans rfl
     have hcz16_4 : wr.cell? ⟨gb185, 4, none⟩ = some (.int .u64 a0_4) := (blk_cell BK185.out 4).trans rfl
     have hcz16_5 : wr.cell? ⟨gb185, 5, none⟩ = some (.int .u64 a0_5) := (blk_cell BK185.out 5).trans rfl
     have hcz16_6 : wr.cell? ⟨gb185, 6, none⟩ = some (.int .u64 a0_6) := (blk_cell BK185.out 6).trans rfl
     have hcz16_7 : wr.cell? ⟨gb185, 7, none⟩ = some (.int .u64 a0_7) := (blk_cell BK185.out 7).trans rfl
     have hcz16_8 : wr.cell? ⟨gb185, 8, none⟩ = some (.int .u64 a0_8) := (blk_cell BK185.out 8).trans rfl
     have hcz16_9 : wr.cell? ⟨gb185, 9, none⟩ = some (.int .u64 a0_9) := (blk_cell BK185.out 9).trans rfl
     have hcz16_10 : wr.cell? ⟨gb185, 10, none⟩ = some (.int .u64 a0_10) := (blk_cell BK185.out 10).trans rfl
     have hcz16_11 : wr.cell? ⟨gb185, 11, none⟩ = some (.int .u64 a0_11) := (blk_cell BK185.out 11).trans rfl
     have hcz16_12 : wr.cell? ⟨gb185, 12, none⟩ = some (.int .u64 a0_12) := (blk_cell BK185.out 12).trans rfl
     have hcz16_13 : wr.cell? ⟨gb185, 13, none⟩ = some (.int .u64 a0_13) := (blk_cell BK185.out 13).trans rfl
     have hcz16_14 : wr.cell? ⟨gb185, 14, none⟩ = some (.int .u64 a0_14) := (blk_cell BK185.out 14).trans rfl
     have hcz16_15 : wr.cell? ⟨gb185, 15, none⟩ = some (.int .u64 a0_15) := (blk_cell BK185.out 15).trans rfl
     have hcz16_16 : wr.cell? ⟨gb185, 16, none⟩ = some (.int .u64 a0_16) := (blk_cell BK185.out 16).trans rfl
     have hcz16_17 : wr.cell? ⟨gb185, 17, none⟩ = some (.slice A0_17 l0_17.length c0_17) := (blk_cell BK185.out 17).trans rfl
     have hcz16_18 : wr.cell? ⟨gb185, 18, none⟩ = some (.int .i64 a0_18) := (blk_cell BK185.out 18).trans rfl
     have hfz16_0 := blk_frozen BK185.out 0
     have hfz16_1 := blk_frozen BK185.out 1
     have hfz16_2 := blk_frozen BK185.out 2
     have hfz16_3 := blk_frozen BK185.out 3
     have hfz16_4 := blk_frozen BK185.out 4
     have hfz16_5 := blk_frozen BK185.out 5
     have hfz16_6 := blk_frozen BK185.out 6
     have hfz16_7 := blk_frozen BK185.out 7
     have hfz16_8 := blk_frozen BK185.out 8
     have hfz16_9 := blk_frozen BK185.out 9
     have hfz16_10 := blk_frozen BK185.out 10
     have hfz16_11 := blk_frozen BK185.out 11
     have hfz16_12 := blk_frozen BK185.out 12
     have hfz16_13 := blk_frozen BK185.out 13
     have hfz16_14 := blk_frozen BK185.out 14
     have hfz16_15 := blk_frozen BK185.out 15
     have hfz16_16 := blk_frozen BK185.out 16
     have hfz16_17 := blk_frozen BK185.out 17
     have hfz16_18 := blk_frozen BK185.out 18
     go_wp2
     go_loopg [5, 21] k1 (fun kq v5 v21 w' => ∃ (x5_2 : Int) (x21_2 : Int), v5 = .int .i64 x5_2 ∧ v21 = .int .i64 x21_2 ∧ Aside0 (pinfoldlaw35_CensusStates.l1 kq x15_1 x5_2 x15_1 l0_0 (l0_0.length : Int) x21_2 l0_0 a0_1 a0_2 a0_3 a0_4 a0_5 a0_6 a0_7 a0_8 a0_9 a0_10 a0_11 a0_12 a0_13 a0_14 a0_15 a0_16 l0_17 a0_18 t187 t188 t189 t190 t191 t192 t193 t194 t195 = some r) ∧ Aside0 (kq ≤ k1) ∧ Aside0 (w'.heap[gb185]? = some (.cells #[(.slice A0_0 l0_0.length c0_0), .int .u64 a0_1, .int .u64 a0_2, .int .u64 a0_3, .int .u64 a0_4, .int .u64 a0_5, .int .u64 a0_6, .int .u64 a0_7, .int .u64 a0_8, .int .u64 a0_9, .int .u64 a0_10, .int .u64 a0_11, .int .u64 a0_12, .int .u64 a0_13, .int .u64 a0_14, .int .u64 a0_15, .int .u64 a0_16, (.slice A0_17 l0_17.length c0_17), .int .i64 a0_18] 69 (0, 0))) ∧ Aside0 (w'.heap[gb196]? = some (.cells #[.int .i64 t187, .int .i64 t188, .int .i64 t189, .int .i64 t190, .int .i64 t191, .int .i64 t192, .int .i64 t193, .int .i64 t194, .int .i64 t195] 70 (0, 0))) ∧ Aside0 (Below w.heap.size w w'))
     case atStart => exact ⟨(0), (0), (by first|rfl|(simp;done)|(simp [*];done)), (by first|rfl|(simp;done)|(simp [*];done)), H', ⟨Nat.le_refl _⟩, ⟨by (with_reducible repeat (first|apply blk_drewN|apply blk_drew|apply blk_alloc));exact BK185.out⟩, ⟨by (with_reducible repeat (first|apply blk_drewN|apply blk_drew|apply blk_alloc));exact BK196.out⟩, ⟨by repeat (first|(with_reducible first|exact HB.out|apply xa|apply xb|apply xc|refine below_set ?_ GE185.out|refine below_set ?_ GE196.out)|exact HB.out)⟩⟩
     case round =>
      clear H'
      try clear c1
      try clear c2
      try clear c2b0
      try clear c2b1
      try clear p2
      try clear c3
      try clear c4
      try clear c9
      try clear c12
      try clear c14
      try clear c14b0
      try clear c15
      try clear hcz13_0
      try clear hcz13_1
      try clear hcz13_2
      try clear hcz13_3
      try clear hcz13_4
      try clear hcz13_5
      try clear hcz13_6
      try clear hcz13_7
      try clear hcz13_8
      try clear hcz16_0
      try clear hcz16_1
      try clear hcz16_10
      try clear hcz16_11
      try clear hcz16_12
      try clear hcz16_13
      try clear hcz16_14
      try clear hcz16_15
      try clear hcz16_16
      try clear hcz16_17
      try clear hcz16_18
      try clear hcz16_2
      try clear hcz16_3
      try clear hcz16_4
      try clear hcz16_5
      try clear hcz16_6
      try clear hcz16_7
      try clear hcz16_8
      try clear hcz16_9
      try clear hcz5_0
      try clear hcz5_1
      try clear hcz5_10
      try clear hcz5_11
      try clear hcz5_12
      try clear hcz5_13
      try clear hcz5_14
      try clear hcz5_15
      try clear hcz5_16
      try clear hcz5_17
      try clear hcz5_18
      try clear hcz5_2
      try clear hcz5_3
      try clear hcz5_4
      try clear hcz5_5
      try clear hcz5_6
      try clear hcz5_7
      try clear hcz5_8
      try clear hcz5_9
      try clear hcz9_0
      try clear hcz9_1
      try clear hcz9_10
      try clear hcz9_11
      try clear hcz9_12
      try clear hcz9_13
      try clear hcz9_14
      try clear hcz9_15
      try clear hcz9_16
      try clear hcz9_17
      try clear hcz9_18
      try clear hcz9_2
      try clear hcz9_3
      try clear hcz9_4
      try clear hcz9_5
      try clear hcz9_6
      try clear hcz9_7
      try clear hcz9_8
      try clear hcz9_9
      try clear hfz13_0
      try clear hfz13_1
      try clear hfz13_2
      try clear hfz13_3
      try clear hfz13_4
      try clear hfz13_5
      try clear hfz13_6
      try clear hfz13_7
      try clear hfz13_8
      try clear hfz16_0
      try clear hfz16_1
      try clear hfz16_10
      try clear hfz16_11
      try clear hfz16_12
      try clear hfz16_13
      try clear hfz16_14
      try clear hfz16_15
      try clear hfz16_16
      try clear hfz16_17
      try clear hfz16_18
      try clear hfz16_2
      try clear hfz16_3
      try clear hfz16_4
      try clear hfz16_5
      try clear hfz16_6
      try clear hfz16_7
      try clear hfz16_8
      try clear hfz16_9
      try clear hfz5_0
      try clear hfz5_1
      try clear hfz5_10
      try clear hfz5_11
      try clear hfz5_12
      try clear hfz5_13
      try clear hfz5_14
      try clear hfz5_15
      try clear hfz5_16
      try clear hfz5_17
      try clear hfz5_18
      try clear hfz5_2
      try clear hfz5_3
      try clear hfz5_4
      try clear hfz5_5
      try clear hfz5_6
      try clear hfz5_7
      try clear hfz5_8
      try clear hfz5_9
      try clear hfz9_0
      try clear hfz9_1
      try clear hfz9_10
      try clear hfz9_11
      try clear hfz9_12
      try clear hfz9_13
      try clear hfz9_14
      try clear hfz9_15
      try clear hfz9_16
      try clear hfz9_17
      try clear hfz9_18
      try clear hfz9_2
      try clear hfz9_3
      try clear hfz9_4
      try clear hfz9_5
      try clear hfz9_6
      try clear hfz9_7
      try clear hfz9_8
      try clear hfz9_9
      try clear p2
      obtain ⟨x5_2, x21_2, rfl, rfl, HA, HK2, BK185, BK196, HB⟩ := hrel
      cases gk with
      | zero => exact absurd HA.out (by simp [pinfoldlaw35_CensusStates.l1])
      | succ k2 =>
       have H := HA.out
       clear HA
       simp only [pinfoldlaw35_CensusStates.l1] at H
       by_cases c17 : x21_2 < (l0_0.length : Int)
       ·rw [if_pos c17] at H
        have c17b0 : decide (x21_2 < (l0_0.length : Int)) = true := decide_eq_true c17
        clear c17
        by_cases c18 : 0 ≤ x21_2
        ·rw [if_pos c18] at H
         have c18b0 : decide (0 ≤ x21_2) = true := decide_eq_true c18
         clear c18
         by_cases c19 : x21_2 < (l0_0.length : Int)
         ·rw [if_pos c19] at H
          have c19b0 : decide (x21_2 < (l0_0.length : Int)) = true := decide_eq_true c19
          clear c19
          by_cases c20 : ((rd_T74 l0_0 x21_2).f3) = x15_1
          ·rw [if_pos c20] at H
           have c20b0 : (((rd_T74 l0_0 x21_2).f3) == x15_1) = true := beq_iff_eq.mpr c20
           have c20b1 : (((rd_T74 l0_0 x21_2).f3) != x15_1) = false := bne_eq_false_iff_eq.mpr c20
           clear c20
           have H' := Aside0.mk H
           clear H
           have p198 : 0 ≤ (x21_2 : Int) := of_decide_eq_true (by assumption)
           have q198 : x21_2 < (l0_0.length : Int) := of_decide_eq_true (by assumption)
           obtain ⟨ad198, e198, hx198_0, hx198_1, hx198_2, hx198_3, hx198_4, hx198_5, hx198_6, hx198_7⟩ := at_T74 HR0_0.out x21_2 p198 q198
           cases e198
           replace hx198_0 := (HB.out.cell (World.block_lt_of_cell? w _ hx198_0)).trans hx198_0
           replace hx198_1 := (HB.out.cell (World.block_lt_of_cell? w _ hx198_1)).trans hx198_1
           replace hx198_2 := (HB.out.cell (World.block_lt_of_cell? w _ hx198_2)).trans hx198_2
           replace hx198_3 := (HB.out.cell (World.block_lt_of_cell? w _ hx198_3)).trans hx198_3
           replace hx198_4 := (HB.out.cell (World.block_lt_of_cell? w _ hx198_4)).trans hx198_4
           replace hx198_5 := (HB.out.cell (World.block_lt_of_cell? w _ hx198_5)).trans hx198_5
           replace hx198_6 := (HB.out.cell (World.block_lt_of_cell? w _ hx198_6)).trans hx198_6
           replace hx198_7 := (HB.out.cell (World.block_lt_of_cell? w _ hx198_7)).trans hx198_7
           replace p198 := eq_true p198
           replace q198 := eq_true q198
           go_wp2_with (first|((with_reducible refine gate_dst (N := 7) rfl ?_);refine box_event ?hg (N := 7) ?hd (cs := #[.int .i64 0, .int .i64 0, .int .i32 0, .int .i32 0, .int .i32 0, .int .i32 0, .int .i64 0, .int .i64 0]) (t := 74) ?hr ?_;(case hd => rfl);(case hg => rfl);(case hr => first|(go_simp;done)|(go_simp;rfl));intro gb199 hg w21 hbox hb;have n0_ := Aside0.mk (blk_below (g := gb185) (o := .cells #[.slice (some ad198) l0_0.length c0_0, .int .u64 a0_1, .int .u64 a0_2, .int .u64 a0_3, .int .u64 a0_4, .int .u64 a0_5, .int .u64 a0_6, .int .u64 a0_7, .int .u64 a0_8, .int .u64 a0_9, .int .u64 a0_10, .int .u64 a0_11, .int .u64 a0_12, .int .u64 a0_13, .int .u64 a0_14, .int .u64 a0_15, .int .u64 a0_16, .slice A0_17 l0_17.length c0_17, .int .i64 a0_18] 69 (0, 0)) (by (with_reducible repeat (first|apply blk_drewN|apply blk_drew|apply blk_alloc));exact BK185.out) hb);have n1_ := Aside0.mk (blk_below (g := gb196) (o := .cells #[.int .i64 t187, .int .i64 t188, .int .i64 t189, .int .i64 t190, .int .i64 t191, .int .i64 t192, .int .i64 t193, .int .i64 t194, .int .i64 t195] 70 (0, 0)) (by (with_reducible repeat (first|apply blk_drewN|apply blk_drew|apply blk_alloc));exact BK196.out) hb);have n2_ := Aside0.mk (below_step (by repeat (first|(with_reducible first|exact HB.out|apply xa|apply xb|apply xc|refine below_set ?_ GE185.out|refine below_set ?_ GE196.out)|exact HB.out)) hb);have n3_ := Aside0.mk (hbox);have n4_ := Aside0.mk ((by rw [hg];exact (below_size (by repeat (first|(with_reducible first|exact HB.out|apply xa|apply xb|apply xc|refine below_set ?_ GE185.out|refine below_set ?_ GE196.out)|exact HB.out))) : w.heap.size ≤ gb199));have n5_ := Aside0.mk ((by rw [hg];exact (below_size (by repeat (first|(with_reducible first|exact HB.out|apply xa|apply xb|apply xc|refine below_set ?_ GE185.out|refine below_set ?_ GE196.out)|exact HB.out))) : w.heap.size ≤ gb199));have n6_ := Aside0.mk ((by rw [hg];exact Nat.ne_of_lt (blk_lt (g := gb185) (o := .cells #[.slice (some ad198) l0_0.length c0_0, .int .u64 a0_1, .int .u64 a0_2, .int .u64 a0_3, .int .u64 a0_4, .int .u64 a0_5, .int .u64 a0_6, .int .u64 a0_7, .int .u64 a0_8, .int .u64 a0_9, .int .u64 a0_10, .int .u64 a0_11, .int .u64 a0_12, .int .u64 a0_13, .int .u64 a0_14, .int .u64 a0_15, .int .u64 a0_16, .slice A0_17 l0_17.length c0_17, .int .i64 a0_18] 69 (0, 0)) (by (with_reducible repeat (first|apply blk_drewN|apply blk_drew|apply blk_alloc));exact BK185.out)) : gb185 ≠ gb199));have n7_ := Aside0.mk ((by rw [hg];exact Nat.ne_of_gt (blk_lt (g := gb185) (o := .cells #[.slice (some ad198) l0_0.length c0_0, .int .u64 a0_1, .int .u64 a0_2, .int .u64 a0_3, .int .u64 a0_4, .int .u64 a0_5, .int .u64 a0_6, .int .u64 a0_7, .int .u64 a0_8, .int .u64 a0_9, .int .u64 a0_10, .int .u64 a0_11, .int .u64 a0_12, .int .u64 a0_13, .int .u64 a0_14, .int .u64 a0_15, .int .u64 a0_16, .slice A0_17 l0_17.length c0_17, .int .i64 a0_18] 69 (0, 0)) (by (with_reducible repeat (first|apply blk_drewN|apply blk_drew|apply blk_alloc));exact BK185.out)) : gb199 ≠ gb185));have n8_ := Aside0.mk ((by rw [hg];exact Nat.ne_of_lt (blk_lt (g := gb196) (o := .cells #[.int .i64 t187, .int .i64 t188, .int .i64 t189, .int .i64 t190, .int .i64 t191, .int .i64 t192, .int .i64 t193, .int .i64 t194, .int .i64 t195] 70 (0, 0)) (by (with_reducible repeat (first|apply blk_drewN|apply blk_drew|apply blk_alloc));exact BK196.out)) : gb196 ≠ gb199));have n9_ := Aside0.mk ((by rw [hg];exact Nat.ne_of_gt (blk_lt (g := gb196) (o := .cells #[.int .i64 t187, .int .i64 t188, .int .i64 t189, .int .i64 t190, .int .i64 t191, .int .i64 t192, .int .i64 t193, .int .i64 t194, .int .i64 t195] 70 (0, 0)) (by (with_reducible repeat (first|apply blk_drewN|apply blk_drew|apply blk_alloc));exact BK196.out)) : gb199 ≠ gb196));clear BK185;clear BK196;clear HB;have BK185 := n0_;have BK196 := n1_;have HB := n2_;have BK199 := n3_;have GW199 := n4_;have GE199 := n5_;have NB185_199 := n6_;have NB199_185 := n7_;have NB196_199 := n8_;have NB199_196 := n9_;clear n0_ n1_ n2_ n3_ n4_ n5_ n6_ n7_ n8_ n9_;clear hb hbox hg;have hnb22 := NB199_185.out;have hnc22 := NB185_199.out;have hnb23 := NB199_196.out;have hnc23 := NB196_199.out;have hcz24_0 : w21.cell? ⟨gb199, 0, none⟩ = some (.int .i64 0) := (blk_cell BK199.out 0).trans rfl;have hcz24_1 : w21.cell? ⟨gb199, 1, none⟩ = some (.int .i64 0) := (blk_cell BK199.out 1).trans rfl;have hcz24_2 : w21.cell? ⟨gb199, 2, none⟩ = some (.int .i32 0) := (blk_cell BK199.out 2).trans rfl;have hcz24_3 : w21.cell? ⟨gb199, 3, none⟩ = some (.int .i32 0) := (blk_cell BK199.out 3).trans rfl;have hcz24_4 : w21.cell? ⟨gb199, 4, none⟩ = some (.int .i32 0) := (blk_cell BK199.out 4).trans rfl;have hcz24_5 : w21.cell? ⟨gb199, 5, none⟩ = some (.int .i32 0) := (blk_cell BK199.out 5).trans rfl;have hcz24_6 : w21.cell? ⟨gb199, 6, none⟩ = some (.int .i64 0) := (blk_cell BK199.out 6).trans rfl;have hcz24_7 : w21.cell? ⟨gb199, 7, none⟩ = some (.int .i64 0) := (blk_cell BK199.out 7).trans rfl;have hfz24_0 := blk_frozen BK199.out 0;have hfz24_1 := blk_frozen BK199.out 1;have hfz24_2 := blk_frozen BK199.out 2;have hfz24_3 := blk_frozen BK199.out 3;have hfz24_4 := blk_frozen BK199.out 4;have hfz24_5 := blk_frozen BK199.out 5;have hfz24_6 := blk_frozen BK199.out 6;have hfz24_7 := blk_frozen BK199.out 7))
           (try simp only [px_add0] at *)
           go_roundg k2
           case measure => have := HK1.out;have := HK2.out;omega
           case rel => exact ⟨(wrap64 (x5_2 + 1)), (wrap64 (x21_2 + 1)), (by first|rfl|(simp;done)|(simp [*];done)), (by first|rfl|(simp;done)|(simp [*];done)), H', ⟨by have := HK1.out;have := HK2.out;omega⟩, ⟨by (with_reducible repeat (first|apply blk_drewN|apply blk_drew|apply blk_alloc));refine blk_far ?_ NB185_199.out _;(with_reducible repeat (first|apply blk_drewN|apply blk_drew|apply blk_alloc));refine blk_far ?_ NB185_199.out _;(with_reducible repeat (first|apply blk_drewN|apply blk_drew|apply blk_alloc));refine blk_far ?_ NB185_199.out _;(with_reducible repeat (first|apply blk_drewN|apply blk_drew|apply blk_alloc));refine blk_far ?_ NB185_199.out _;(with_reducible repeat (first|apply blk_drewN|apply blk_drew|apply blk_alloc));refine blk_far ?_ NB185_199.out _;(with_reducible repeat (first|apply blk_drewN|apply blk_drew|apply blk_alloc));refine blk_far ?_ NB185_199.out _;(with_reducible repeat (first|apply blk_drewN|apply blk_drew|apply blk_alloc));refine blk_far ?_ NB185_199.out _;(with_reducible repeat (first|apply blk_drewN|apply blk_drew|apply blk_alloc));refine blk_far ?_ NB185_199.out _;(with_reducible repeat (first|apply blk_drewN|apply blk_drew|apply blk_alloc));exact BK185.out⟩, ⟨by (with_reducible repeat (first|apply blk_drewN|apply blk_drew|apply blk_alloc));refine blk_far ?_ NB196_199.out _;(with_reducible repeat (first|apply blk_drewN|apply blk_drew|apply blk_alloc));refine blk_far ?_ NB196_199.out _;(with_reducible repeat (first|apply blk_drewN|apply blk_drew|apply blk_alloc));refine blk_far ?_ NB196_199.out _;(with_reducible repeat (first|apply blk_drewN|apply blk_drew|apply blk_alloc));refine blk_far ?_ NB196_199.out _;(with_reducible repeat (first|apply blk_drewN|apply blk_drew|apply blk_alloc));refine blk_far ?_ NB196_199.out _;(with_reducible repeat (first|apply blk_drewN|apply blk_drew|apply blk_alloc));refine blk_far ?_ NB196_199.out _;(with_reducible repeat (first|apply blk_drewN|apply blk_drew|apply blk_alloc));refine blk_far ?_ NB196_199.out _;(with_reducible repeat (first|apply blk_drewN|apply blk_drew|apply blk_alloc));refine blk_far ?_ NB196_199.out _;(with_reducible repeat (first|apply blk_drewN|apply blk_drew|apply blk_alloc));exact BK196.out⟩, ⟨by repeat (first|(with_reducible first|exact HB.out|apply xa|apply xb|apply xc|refine below_set ?_ GE185.out|refine below_set ?_ GE196.out|refine below_set ?_ GE199.out)|exact HB.out)⟩⟩
          ·rw [if_neg c20] at H
           have c20b0 : (((rd_T74 l0_0 x21_2).f3) == x15_1) = false := beq_eq_false_iff_ne.mpr c20
           have c20b1 : (((rd_T74 l0_0 x21_2).f3) != x15_1) = true := bne_iff_ne.mpr c20
           have H' := Aside0.mk H
           clear H
           have p198 : 0 ≤ (x21_2 : Int) := of_decide_eq_true (by assumption)
           have q198 : x21_2 < (l0_0.length : Int) := of_decide_eq_true (by assumption)
           obtain ⟨ad198, e198, hx198_0, hx198_1, hx198_2, hx198_3, hx198_4, hx198_5, hx198_6, hx198_7⟩ := at_T74 HR0_0.out x21_2 p198 q198
           cases e198
           replace hx198_0 := (HB.out.cell (World.block_lt_of_cell? w _ hx198_0)).trans hx198_0
           replace hx198_1 := (HB.out.cell (World.block_lt_of_cell? w _ hx198_1)).trans hx198_1
           replace hx198_2 := (HB.out.cell (World.block_lt_of_cell? w _ hx198_2)).trans hx198_2
           replace hx198_3 := (HB.out.cell (World.block_lt_of_cell? w _ hx198_3)).trans hx198_3
           replace hx198_4 := (HB.out.cell (World.block_lt_of_cell? w _ hx198_4)).trans hx198_4
           replace hx198_5 := (HB.out.cell (World.block_lt_of_cell? w _ hx198_5)).trans hx198_5
           replace hx198_6 := (HB.out.cell (World.block_lt_of_cell? w _ hx198_6)).trans hx198_6
           replace hx198_7 := (HB.out.cell (World.block_lt_of_cell? w _ hx198_7)).trans hx198_7
           replace p198 := eq_true p198
           replace q198 := eq_true q198
           go_wp2_with (first|((with_reducible refine gate_dst (N := 7) rfl ?_);refine box_event ?hg (N := 7) ?hd (cs := #[.int .i64 0, .int .i64 0, .int .i32 0, .int .i32 0, .int .i32 0, .int .i32 0, .int .i64 0, .int .i64 0]) (t := 74) ?hr ?_;(case hd => rfl);(case hg => rfl);(case hr => first|(go_simp;done)|(go_simp;rfl));intro gb199 hg w25 hbox hb;have n0_ := Aside0.mk (blk_below (g := gb185) (o := .cells #[.slice (some ad198) l0_0.length c0_0, .int .u64 a0_1, .int .u64 a0_2, .int .u64 a0_3, .int .u64 a0_4, .int .u64 a0_5, .int .u64 a0_6, .int .u64 a0_7, .int .u64 a0_8, .int .u64 a0_9, .int .u64 a0_10, .int .u64 a0_11, .int .u64 a0_12, .int .u64 a0_13, .int .u64 a0_14, .int .u64 a0_15, .int .u64 a0_16, .slice A0_17 l0_17.length c0_17, .int .i64 a0_18] 69 (0, 0)) (by (with_reducible repeat (first|apply blk_drewN|apply blk_drew|apply blk_alloc));exact BK185.out) hb);have n1_ := Aside0.mk (blk_below (g := gb196) (o := .cells #[.int .i64 t187, .int .i64 t188, .int .i64 t189, .int .i64 t190, .int .i64 t191, .int .i64 t192, .int .i64 t193, .int .i64 t194, .int .i64 t195] 70 (0, 0)) (by (with_reducible repeat (first|apply blk_drewN|apply blk_drew|apply blk_alloc));exact BK196.out) hb);have n2_ := Aside0.mk (below_step (by repeat (first|(with_reducible first|exact HB.out|apply xa|apply xb|apply xc|refine below_set ?_ GE185.out|refine below_set ?_ GE196.out)|exact HB.out)) hb);have n3_ := Aside0.mk (hbox);have n4_ := Aside0.mk ((by rw [hg];exact (below_size (by repeat (first|(with_reducible first|exact HB.out|apply xa|apply xb|apply xc|refine below_set ?_ GE185.out|refine below_set ?_ GE196.out)|exact HB.out))) : w.heap.size ≤ gb199));have n5_ := Aside0.mk ((by rw [hg];exact (below_size (by repeat (first|(with_reducible first|exact HB.out|apply xa|apply xb|apply xc|refine below_set ?_ GE185.out|refine below_set ?_ GE196.out)|exact HB.out))) : w.heap.size ≤ gb199));have n6_ := Aside0.mk ((by rw [hg];exact Nat.ne_of_lt (blk_lt (g := gb185) (o := .cells #[.slice (some ad198) l0_0.length c0_0, .int .u64 a0_1, .int .u64 a0_2, .int .u64 a0_3, .int .u64 a0_4, .int .u64 a0_5, .int .u64 a0_6, .int .u64 a0_7, .int .u64 a0_8, .int .u64 a0_9, .int .u64 a0_10, .int .u64 a0_11, .int .u64 a0_12, .int .u64 a0_13, .int .u64 a0_14, .int .u64 a0_15, .int .u64 a0_16, .slice A0_17 l0_17.length c0_17, .int .i64 a0_18] 69 (0, 0)) (by (with_reducible repeat (first|apply blk_drewN|apply blk_drew|apply blk_alloc));exact BK185.out)) : gb185 ≠ gb199));have n7_ := Aside0.mk ((by rw [hg];exact Nat.ne_of_gt (blk_lt (g := gb185) (o := .cells #[.slice (some ad198) l0_0.length c0_0, .int .u64 a0_1, .int .u64 a0_2, .int .u64 a0_3, .int .u64 a0_4, .int .u64 a0_5, .int .u64 a0_6, .int .u64 a0_7, .int .u64 a0_8, .int .u64 a0_9, .int .u64 a0_10, .int .u64 a0_11, .int .u64 a0_12, .int .u64 a0_13, .int .u64 a0_14, .int .u64 a0_15, .int .u64 a0_16, .slice A0_17 l0_17.length c0_17, .int .i64 a0_18] 69 (0, 0)) (by (with_reducible repeat (first|apply blk_drewN|apply blk_drew|apply blk_alloc));exact BK185.out)) : gb199 ≠ gb185));have n8_ := Aside0.mk ((by rw [hg];exact Nat.ne_of_lt (blk_lt (g := gb196) (o := .cells #[.int .i64 t187, .int .i64 t188, .int .i64 t189, .int .i64 t190, .int .i64 t191, .int .i64 t192, .int .i64 t193, .int .i64 t194, .int .i64 t195] 70 (0, 0)) (by (with_reducible repeat (first|apply blk_drewN|apply blk_drew|apply blk_alloc));exact BK196.out)) : gb196 ≠ gb199));have n9_ := Aside0.mk ((by rw [hg];exact Nat.ne_of_gt (blk_lt (g := gb196) (o := .cells #[.int .i64 t187, .int .i64 t188, .int .i64 t189, .int .i64 t190, .int .i64 t191, .int .i64 t192, .int .i64 t193, .int .i64 t194, .int .i64 t195] 70 (0, 0)) (by (with_reducible repeat (first|apply blk_drewN|apply blk_drew|apply blk_alloc));exact BK196.out)) : gb199 ≠ gb196));clear BK185;clear BK196;clear HB;have BK185 := n0_;have BK196 := n1_;have HB := n2_;have BK199 := n3_;have GW199 := n4_;have GE199 := n5_;have NB185_199 := n6_;have NB199_185 := n7_;have NB196_199 := n8_;have NB199_196 := n9_;clear n0_ n1_ n2_ n3_ n4_ n5_ n6_ n7_ n8_ n9_;clear hb hbox hg;have hnb26 := NB199_185.out;have hnc26 := NB185_199.out;have hnb27 := NB199_196.out;have hnc27 := NB196_199.out;have hcz28_0 : w25.cell? ⟨gb199, 0, none⟩ = some (.int .i64 0) := (blk_cell BK199.out 0).trans rfl;have hcz28_1 : w25.cell? ⟨gb199, 1, none⟩ = some (.int .i64 0) := (blk_cell BK199.out 1).trans rfl;have hcz28_2 : w25.cell? ⟨gb199, 2, none⟩ = some (.int .i32 0) := (blk_cell BK199.out 2).trans rfl;have hcz28_3 : w25.cell? ⟨gb199, 3, none⟩ = some (.int .i32 0) := (blk_cell BK199.out 3).trans rfl;have hcz28_4 : w25.cell? ⟨gb199, 4, none⟩ = some (.int .i32 0) := (blk_cell BK199.out 4).trans rfl;have hcz28_5 : w25.cell? ⟨gb199, 5, none⟩ = some (.int .i32 0) := (blk_cell BK199.out 5).trans rfl;have hcz28_6 : w25.cell? ⟨gb199, 6, none⟩ = some (.int .i64 0) := (blk_cell BK199.out 6).trans rfl;have hcz28_7 : w25.cell? ⟨gb199, 7, none⟩ = some (.int .i64 0) := (blk_cell BK199.out 7).trans rfl;have hfz28_0 := blk_frozen BK199.out 0;have hfz28_1 := blk_frozen BK199.out 1;have hfz28_2 := blk_frozen BK199.out 2;have hfz28_3 := blk_frozen BK199.out 3;have hfz28_4 := blk_frozen BK199.out 4;have hfz28_5 := blk_frozen BK199.out 5;have hfz28_6 := blk_frozen BK199.out 6;have hfz28_7 := blk_frozen BK199.out 7))
           (try simp only [px_add0] at *)
           go_roundg k2
           case measure => have := HK1.out;have := HK2.out;omega
           case rel => exact ⟨(x5_2), (wrap64 (x21_2 + 1)), (by first|rfl|(simp;done)|(simp [*];done)), (by first|rfl|(simp;done)|(simp [*];done)), H', ⟨by have := HK1.out;have := HK2.out;omega⟩, ⟨by (with_reducible repeat (first|apply blk_drewN|apply blk_drew|apply blk_alloc));refine blk_far ?_ NB185_199.out _;(with_reducible repeat (first|apply blk_drewN|apply blk_drew|apply blk_alloc));refine blk_far ?_ NB185_199.out _;(with_reducible repeat (first|apply blk_drewN|apply blk_drew|apply blk_alloc));refine blk_far ?_ NB185_199.out _;(with_reducible repeat (first|apply blk_drewN|apply blk_drew|apply blk_alloc));refine blk_far ?_ NB185_199.out _;(with_reducible repeat (first|apply blk_drewN|apply blk_drew|apply blk_alloc));refine blk_far ?_ NB185_199.out _;(with_reducible repeat (first|apply blk_drewN|apply blk_drew|apply blk_alloc));refine blk_far ?_ NB185_199.out _;(with_reducible repeat (first|apply blk_drewN|apply blk_drew|apply blk_alloc));refine blk_far ?_ NB185_199.out _;(with_reducible repeat (first|apply blk_drewN|apply blk_drew|apply blk_alloc));refine blk_far ?_ NB185_199.out _;(with_reducible repeat (first|apply blk_drewN|apply blk_drew|apply blk_alloc));exact BK185.out⟩, ⟨by (with_reducible repeat (first|apply blk_drewN|apply blk_drew|apply blk_alloc));refine blk_far ?_ NB196_199.out _;(with_reducible repeat (first|apply blk_drewN|apply blk_drew|apply blk_alloc));refine blk_far ?_ NB196_199.out _;(with_reducible repeat (first|apply blk_drewN|apply blk_drew|apply blk_alloc));refine blk_far ?_ NB196_199.out _;(with_reducible repeat (first|apply blk_drewN|apply blk_drew|apply blk_alloc));refine blk_far ?_ NB196_199.out _;(with_reducible repeat (first|apply blk_drewN|apply blk_drew|apply blk_alloc));refine blk_far ?_ NB196_199.out _;(with_reducible repeat (first|apply blk_drewN|apply blk_drew|apply blk_alloc));refine blk_far ?_ NB196_199.out _;(with_reducible repeat (first|apply blk_drewN|apply blk_drew|apply blk_alloc));refine blk_far ?_ NB196_199.out _;(with_reducible repeat (first|apply blk_drewN|apply blk_drew|apply blk_alloc));refine blk_far ?_ NB196_199.out _;(with_reducible repeat (first|apply blk_drewN|apply blk_drew|apply blk_alloc));exact BK196.out⟩, ⟨by repeat (first|(with_reducible first|exact HB.out|apply xa|apply xb|apply xc|refine below_set ?_ GE185.out|refine below_set ?_ GE196.out|refine below_set ?_ GE199.out)|exact HB.out)⟩⟩
         ·rw [if_neg c19] at H
          exact absurd H (by simp)
        ·rw [if_neg c18] at H
         exact absurd H (by simp)
       ·rw [if_neg c17] at H
        have c17b0 : decide (x21_2 < (l0_0.length : Int)) = false := decide_eq_false c17
        clear c17
        replace H := Option.bind_eq_some_iff.mp H
        obtain ⟨t200, A290, H⟩ := H
        replace H : (if t200 = x5_2 then (pinfoldlaw35_CensusStates.l0 k2 (wrap64 (x15_1 + 1)) l0_0 a0_1 a0_2 a0_3 a0_4 a0_5 a0_6 a0_7 a0_8 a0_9 a0_10 a0_11 a0_12 a0_13 a0_14 a0_15 a0_16 l0_17 a0_18 t187 t188 t189 t190 t191 t192 t193 t194 t195) else (some false)) = some r := H
        have A29 := Aside0.mk A290
        clear A290
        by_cases c30 : t200 = x5_2
        ·rw [if_pos c30] at H
         have c30b0 : (t200 == x5_2) = true := beq_iff_eq.mpr c30
         have c30b1 : (t200 != x5_2) = false := bne_eq_false_iff_eq.mpr c30
         clear c30
         have H' := Aside0.mk H
         clear H
         have hnb31 := NB196_185.out
         have hnc31 := NB185_196.out
         have hcz32_0 : wr.cell? ⟨gb196, 0, none⟩ = some (.int .i64 t187) := (blk_cell BK196.out 0).trans rfl
         have hcz32_1 : wr.cell? ⟨gb196, 1, none⟩ = some (.int .i64 t188) := (blk_cell BK196.out 1).trans rfl
         have hcz32_2 : wr.cell? ⟨gb196, 2, none⟩ = some (.int .i64 t189) := (blk_cell BK196.out 2).trans rfl
         have hcz32_3 : wr.cell? ⟨gb196, 3, none⟩ = some (.int .i64 t190) := (blk_cell BK196.out 3).trans rfl
         have hcz32_4 : wr.cell? ⟨gb196, 4, none⟩ = some (.int .i64 t191) := (blk_cell BK196.out 4).trans rfl
         have hcz32_5 : wr.cell? ⟨gb196, 5, none⟩ = some (.int .i64 t192) := (blk_cell BK196.out 5).trans rfl
         have hcz32_6 : wr.cell? ⟨gb196, 6, none⟩ = some (.int .i64 t193) := (blk_cell BK196.out 6).trans rfl
         have hcz32_7 : wr.cell? ⟨gb196, 7, none⟩ = some (.int .i64 t194) := (blk_cell BK196.out 7).trans rfl
         have hcz32_8 : wr.cell? ⟨gb196, 8, none⟩ = some (.int .i64 t195) := (blk_cell BK196.out 8).trans rfl
         have hfz32_0 := blk_frozen BK196.out 0
         have hfz32_1 := blk_frozen BK196.out 1
         have hfz32_2 := blk_frozen BK196.out 2
         have hfz32_3 := blk_frozen BK196.out 3
         have hfz32_4 := blk_frozen BK196.out 4
         have hfz32_5 := blk_frozen BK196.out 5
         have hfz32_6 := blk_frozen BK196.out 6
         have hfz32_7 := blk_frozen BK196.out 7
         have hfz32_8 := blk_frozen BK196.out 8
         obtain ⟨hk0, hk9, hkx⟩ := nine_at A29.out BK196.out
         have hkb := eq_true (And.intro (of_decide_eq_true hk0) (of_decide_eq_true hk9))
         clear hk0 hk9
         go_wp2
         (try simp only [px_add0] at *)
         go_roundg k2
         case measure => have := HK1.out;have := HK2.out;omega
         case rel => exact ⟨(wrap64 (x15_1 + 1)), (by first|rfl|(simp;done)|(simp [*];done)), H', ⟨by have := HK1.out;have := HK2.out;omega⟩, ⟨by (with_reducible repeat (first|apply blk_drewN|apply blk_drew|apply blk_alloc));exact BK185.out⟩, ⟨by (with_reducible repeat (first|apply blk_drewN|apply blk_drew|apply blk_alloc));exact BK196.out⟩, ⟨by repeat (first|(with_reducible first|exact HB.out|apply xa|apply xb|apply xc|refine below_set ?_ GE185.out|refine below_set ?_ GE196.out)|exact HB.out)⟩⟩
        ·rw [if_neg c30] at H
         have c30b0 : (t200 == x5_2) = false := beq_eq_false_iff_ne.mpr c30
         have c30b1 : (t200 != x5_2) = true := bne_iff_ne.mpr c30
         obtain rfl := Option.some.inj H
         have hnb34 := NB196_185.out
         have hnc34 := NB185_196.out
         have hcz35_0 : wr.cell? ⟨gb196, 0, none⟩ = some (.int .i64 t187) := (blk_cell BK196.out 0).trans rfl
         have hcz35_1 : wr.cell? ⟨gb196, 1, none⟩ = some (.int .i64 t188) := (blk_cell BK196.out 1).trans rfl
         have hcz35_2 : wr.cell? ⟨gb196, 2, none⟩ = some (.int .i64 t189) := (blk_cell BK196.out 2).trans rfl
         have hcz35_3 : wr.cell? ⟨gb196, 3, none⟩ = some (.int .i64 t190) := (blk_cell BK196.out 3).trans rfl
         have hcz35_4 : wr.cell? ⟨gb196, 4, none⟩ = some (.int .i64 t191) := (blk_cell BK196.out 4).trans rfl
         have hcz35_5 : wr.cell? ⟨gb196, 5, none⟩ = some (.int .i64 t192) := (blk_cell BK196.out 5).trans rfl
         have hcz35_6 : wr.cell? ⟨gb196, 6, none⟩ = some (.int .i64 t193) := (blk_cell BK196.out 6).trans rfl
         have hcz35_7 : wr.cell? ⟨gb196, 7, none⟩ = some (.int .i64 t194) := (blk_cell BK196.out 7).trans rfl
         have hcz35_8 : wr.cell? ⟨gb196, 8, none⟩ = some (.int .i64 t195) := (blk_cell BK196.out 8).trans rfl
         have hfz35_0 := blk_frozen BK196.out 0
         have hfz35_1 := blk_frozen BK196.out 1
         have hfz35_2 := blk_frozen BK196.out 2
         have hfz35_3 := blk_frozen BK196.out 3
         have hfz35_4 := blk_frozen BK196.out 4
         have hfz35_5 := blk_frozen BK196.out 5
         have hfz35_6 := blk_frozen BK196.out 6
         have hfz35_7 := blk_frozen BK196.out 7
         have hfz35_8 := blk_frozen BK196.out 8
         obtain ⟨hk0, hk9, hkx⟩ := nine_at A29.out BK196.out
         have hkb := eq_true (And.intro (of_decide_eq_true hk0) (of_decide_eq_true hk9))
         clear hk0 hk9
         go_wp2
         go_ret
         exact ⟨by first|rfl|(simp [errW_none, errW_some] <;> rfl)|(simp [*, errW_none, errW_some] <;> rfl), by repeat (first|(with_reducible first|exact HB.out|apply xa|apply xb|apply xc|refine below_set ?_ GE185.out|refine below_set ?_ GE196.out)|exact HB.out)⟩
    ·rw [if_neg c14] at H
     have c14b0 : decide (x15_1 < 9) = false := decide_eq_false c14
     clear c14
     replace H := Option.bind_eq_some_iff.mp H
     obtain ⟨t197, A370, H⟩ := H
     replace H : (some t197) = some r := H
     have A37 := Aside0.mk A370
     clear A370
     obtain rfl := Option.some.inj H
     go_wp2_with (first|((with_reducible refine gate_callee (f := 39) rfl ?_);refine goesL_ (some 38) rfl rfl Try.func39 (by kernel_rfl) rfl #[] rfl (by (try simp only [List.map_toArray, List.map_cons, List.map_nil]);first|done|rfl|(simp only [List.length_drop, List.length_take];rfl)) ?_;(with_reducible refine (pinfoldlaw35_lives.calls k1  t197 _ A37.out).mono ?_);rintro e w38 ⟨rfl, hb⟩;refine ⟨_, rfl, ?_⟩;have n0_ := Aside0.mk (blk_below (g := gb185) (o := .cells #[.slice A0_0 l0_0.length c0_0, .int .u64 a0_1, .int .u64 a0_2, .int .u64 a0_3, .int .u64 a0_4, .int .u64 a0_5, .int .u64 a0_6, .int .u64 a0_7, .int .u64 a0_8, .int .u64 a0_9, .int .u64 a0_10, .int .u64 a0_11, .int .u64 a0_12, .int .u64 a0_13, .int .u64 a0_14, .int .u64 a0_15, .int .u64 a0_16, .slice A0_17 l0_17.length c0_17, .int .i64 a0_18] 69 (0, 0)) (by (with_reducible repeat (first|apply blk_drewN|apply blk_drew|apply blk_alloc));exact BK185.out) hb);have n1_ := Aside0.mk (blk_below (g := gb196) (o := .cells #[.int .i64 t187, .int .i64 t188, .int .i64 t189, .int .i64 t190, .int .i64 t191, .int .i64 t192, .int .i64 t193, .int .i64 t194, .int .i64 t195] 70 (0, 0)) (by (with_reducible repeat (first|apply blk_drewN|apply blk_drew|apply blk_alloc));exact BK196.out) hb);have n2_ := Aside0.mk (below_step (by repeat (first|(with_reducible first|exact HB.out|apply xa|apply xb|apply xc|refine below_set ?_ GE185.out|refine below_set ?_ GE196.out)|exact HB.out)) hb);clear BK185;clear BK196;clear HB;have BK185 := n0_;have BK196 := n1_;have HB := n2_;clear n0_ n1_ n2_;(try clear hb);(try clear hb2);(try clear hk);(try clear hi)))
     go_ret
     exact ⟨by first|rfl|(simp [errW_none, errW_some] <;> rfl)|(simp [*, errW_none, errW_some] <;> rfl), by repeat (first|(with_reducible first|exact HB.out|apply xa|apply xb|apply xc|refine below_set ?_ GE185.out|refine below_set ?_ GE196.out)|exact HB.out)⟩

end Go.Proofs.Ytidhcdifmcffcaa.PCen
