/- Functions of the program as Lean functions, and proofs that the code comes to their answers: printed by this session's program. -/
import Derived.Test.YtidhcdifmcffcaaGKinds
import Derived.Test.YtidhcdifmcffcaaGKindsAt
import Derived.Test.YtidhcdifmcffcaaPCenx0
import Derived.Test.YtidhcdifmcffcaaPCenx1
import Derived.Test.YtidhcdifmcffcaaPCenx2
import Derived.Test.YtidhcdifmcffcaaPCenx3
import Derived.Test.YtidhcdifmcffcaaPCenx4
namespace Go.Proofs.Ytidhcdifmcffcaa.PCen
open Go.RowKit Go.Proofs.YtidhcdifmcffcaaW.PrintWords Go.Proofs.YtidhcdifmcffcaaW.PrintLast Go.Proofs.YtidhcdifmcffcaaW.PrintMore
attribute [local go_sem] max2_int min2_int max_two min_two max_three min_three max_four min_four   -- for this text's walks alone
set_option linter.unusedVariables false
set_option linter.unusedSimpArgs false

/-! ### pinfoldlaw35_CensusEvents: function 10 -/
mutual
def pinfoldlaw35_CensusEvents.j0 : Nat → List (S84) → List ByteArray → Bool → Option (Bool)
 | 0, _, _, _ => none
 | k + 1, x0, x7, x38 => if x38 = true then (some false) else (pinfoldlaw35_CensusEvents.l0 k x0 x7 (x7.length : Int) 0)
def pinfoldlaw35_CensusEvents.l0 : Nat → List (S84) → List ByteArray → Int → Int → Option (Bool)
 | 0, _, _, _, _ => none
 | k + 1, x0, x7, x40, x41 => if x41 < x40 then (if 0 ≤ x41 then (if x41 < (x7.length : Int) then ((pinfoldref35_Line.f k x0 x41).bind fun t241 => (if (rdOf ByteArray.empty x7 x41).toList = t241.toList then (pinfoldlaw35_CensusEvents.l0 k x0 x7 x40 (wrap64 (x41 + 1))) else (some false))) else (none)) else (none)) else ((census_Kinds.f x0).bind fun bt242 => (pinfoldlaw35_CensusEvents.l1 k x0 1 bt242.1 bt242.2.1 bt242.2.2.1 bt242.2.2.2.1 bt242.2.2.2.2.1 bt242.2.2.2.2.2.1 bt242.2.2.2.2.2.2.1 bt242.2.2.2.2.2.2.2.1 bt242.2.2.2.2.2.2.2.2.1 bt242.2.2.2.2.2.2.2.2.2.1 bt242.2.2.2.2.2.2.2.2.2.2.1 bt242.2.2.2.2.2.2.2.2.2.2.2.1 bt242.2.2.2.2.2.2.2.2.2.2.2.2.1 bt242.2.2.2.2.2.2.2.2.2.2.2.2.2.1 bt242.2.2.2.2.2.2.2.2.2.2.2.2.2.2.1 bt242.2.2.2.2.2.2.2.2.2.2.2.2.2.2.2.1 bt242.2.2.2.2.2.2.2.2.2.2.2.2.2.2.2.2.1 bt242.2.2.2.2.2.2.2.2.2.2.2.2.2.2.2.2.2.1 bt242.2.2.2.2.2.2.2.2.2.2.2.2.2.2.2.2.2.2.1 bt242.2.2.2.2.2.2.2.2.2.2.2.2.2.2.2.2.2.2.2.1 bt242.2.2.2.2.2.2.2.2.2.2.2.2.2.2.2.2.2.2.2.2.1 bt242.2.2.2.2.2.2.2.2.2.2.2.2.2.2.2.2.2.2.2.2.2))
def pinfoldlaw35_CensusEvents.l1 : Nat → List (S84) → Int → Int → Int → Int → Int → Int → Int → Int → Int → Int → Int → Int → Int → Int → Int → Int → Int → Int → Int → Int → Int → Int → Int → Option (Bool)
 | 0, _, _, _, _, _, _, _, _, _, _, _, _, _, _, _, _, _, _, _, _, _, _, _, _ => none
 | k + 1, x0, x10, x265000, x265001, x265002, x265003, x265004, x265005, x265006, x265007, x265008, x265009, x265010, x265011, x265012, x265013, x265014, x265015, x265016, x265017, x265018, x265019, x265020, x265021 => if x10 ≤ 21 then (pinfoldlaw35_CensusEvents.l2 k x0 x10 0 x0 (x0.length : Int) 0 x265000 x265001 x265002 x265003 x265004 x265005 x265006 x265007 x265008 x265009 x265010 x265011 x265012 x265013 x265014 x265015 x265016 x265017 x265018 x265019 x265020 x265021) else (if x265000 = 0 then ((pinfoldlaw35_lives.f k).bind fun t265 => (some t265)) else (some false))
def pinfoldlaw35_CensusEvents.l2 : Nat → List (S84) → Int → Int → List (S84) → Int → Int → Int → Int → Int → Int → Int → Int → Int → Int → Int → Int → Int → Int → Int → Int → Int → Int → Int → Int → Int → Int → Int → Int → Option (Bool)
 | 0, _, _, _, _, _, _, _, _, _, _, _, _, _, _, _, _, _, _, _, _, _, _, _, _, _, _, _, _ => none
 | k + 1, x0, x10, x11, x59, x60, x61, x265000, x265001, x265002, x265003, x265004, x265005, x265006, x265007, x265008, x265009, x265010, x265011, x265012, x265013, x265014, x265015, x265016, x265017, x265018, x265019, x265020, x265021 => if x61 < x60 then (if 0 ≤ x61 then (if x61 < (x59.length : Int) then (if ((rd_T84 x59 x61).f0) = x10 then (pinfoldlaw35_CensusEvents.l2 k x0 x10 (wrap64 (x11 + 1)) x59 x60 (wrap64 (x61 + 1)) x265000 x265001 x265002 x265003 x265004 x265005 x265006 x265007 x265008 x265009 x265010 x265011 x265012 x265013 x265014 x265015 x265016 x265017 x265018 x265019 x265020 x265021) else (pinfoldlaw35_CensusEvents.l2 k x0 x10 x11 x59 x60 (wrap64 (x61 + 1)) x265000 x265001 x265002 x265003 x265004 x265005 x265006 x265007 x265008 x265009 x265010 x265011 x265012 x265013 x265014 x265015 x265016 x265017 x265018 x265019 x265020 x265021)) else (none)) else (none)) else ((census_States.f x265000 x265001 x265002 x265003 x265004 x265005 x265006 x265007 x265008 x265009 x265010 x265011 x265012 x265013 x265014 x265015 x265016 x265017 x265018 x265019 x265020 x265021 x10).bind fun t268 => (if t268 = x11 then (pinfoldlaw35_CensusEvents.l1 k x0 (wrap64 (x10 + 1)) x265000 x265001 x265002 x265003 x265004 x265005 x265006 x265007 x265008 x265009 x265010 x265011 x265012 x265013 x265014 x265015 x265016 x265017 x265018 x265019 x265020 x265021) else (some false)))
end
def pinfoldlaw35_CensusEvents.f (k : Nat) (l0 : List (S84)) (a1 : Int) (a2 : Int) : Option (Bool) := if 0 ≤ (mn (l0.length : Int) 60) then (if (mn (l0.length : Int) 60) ≤ (l0.length : Int) then ((some (l0.take ((mn (l0.length : Int) 60) : Int).toNat : List (S84))).bind fun y226 => ((census_Table.f k y226 (mn a1 20)).bind fun t230 => (if (t230.length : Int) = (mx (mn a1 20) 0) then ((census_Delays.f k y226 a2).bind fun t233 => ((pinfoldref35_Delays.f k y226 a2).bind fun t236 => ((pinfoldref04_Same.f k t233 t236).bind fun t239 => (pinfoldlaw35_CensusEvents.j0 k y226 t230 (!t239))))) else (pinfoldlaw35_CensusEvents.j0 k y226 t230 true)))) else (none)) else (none)
theorem pinfoldlaw35_CensusEvents.mono_l : ∀ k, (∀ y0 y1 y2, LeO (pinfoldlaw35_CensusEvents.j0 k y0 y1 y2) (pinfoldlaw35_CensusEvents.j0 (k + 1) y0 y1 y2)) ∧ (∀ y0 y1 y2 y3, LeO (pinfoldlaw35_CensusEvents.l0 k y0 y1 y2 y3) (pinfoldlaw35_CensusEvents.l0 (k + 1) y0 y1 y2 y3)) ∧ (∀ y0 y1 y2 y3 y4 y5 y6 y7 y8 y9 y10 y11 y12 y13 y14 y15 y16 y17 y18 y19 y20 y21 y22 y23, LeO (pinfoldlaw35_CensusEvents.l1 k y0 y1 y2 y3 y4 y5 y6 y7 y8 y9 y10 y11 y12 y13 y14 y15 y16 y17 y18 y19 y20 y21 y22 y23) (pinfoldlaw35_CensusEvents.l1 (k + 1) y0 y1 y2 y3 y4 y5 y6 y7 y8 y9 y10 y11 y12 y13 y14 y15 y16 y17 y18 y19 y20 y21 y22 y23)) ∧ (∀ y0 y1 y2 y3 y4 y5 y6 y7 y8 y9 y10 y11 y12 y13 y14 y15 y16 y17 y18 y19 y20 y21 y22 y23 y24 y25 y26 y27, LeO (pinfoldlaw35_CensusEvents.l2 k y0 y1 y2 y3 y4 y5 y6 y7 y8 y9 y10 y11 y12 y13 y14 y15 y16 y17 y18 y19 y20 y21 y22 y23 y24 y25 y26 y27) (pinfoldlaw35_CensusEvents.l2 (k + 1) y0 y1 y2 y3 y4 y5 y6 y7 y8 y9 y10 y11 y12 y13 y14 y15 y16 y17 y18 y19 y20 y21 y22 y23 y24 y25 y26 y27))
 | 0 => ⟨fun _ _ _ r h => by simp [pinfoldlaw35_CensusEvents.j0] at h, fun _ _ _ _ r h => by simp [pinfoldlaw35_CensusEvents.l0] at h, fun _ _ _ _ _ _ _ _ _ _ _ _ _ _ _ _ _ _ _ _ _ _ _ _ r h => by simp [pinfoldlaw35_CensusEvents.l1] at h, fun _ _ _ _ _ _ _ _ _ _ _ _ _ _ _ _ _ _ _ _ _ _ _ _ _ _ _ _ r h => by simp [pinfoldlaw35_CensusEvents.l2] at h⟩
 | k + 1 => by
  obtain ⟨ih0, ih1, ih2, ih3⟩ := pinfoldlaw35_CensusEvents.mono_l k
  refine ⟨?_, ?_, ?_, ?_⟩
  ·intro y0 y1 y2
   unfold pinfoldlaw35_CensusEvents.j0
   repeat' first
   | (with_reducible exact ih0 _ _ _)
   | (with_reducible exact ih1 _ _ _ _)
   | (with_reducible exact ih2 _ _ _ _ _ _ _ _ _ _ _ _ _ _ _ _ _ _ _ _ _ _ _ _)
   | (with_reducible exact ih3 _ _ _ _ _ _ _ _ _ _ _ _ _ _ _ _ _ _ _ _ _ _ _ _ _ _ _ _)
   | (with_reducible exact census_Delays.mono _ _ _)
   | (with_reducible exact census_Table.mono _ _ _)
   | (with_reducible exact pinfoldlaw35_lives.mono _)
   | (with_reducible exact pinfoldref04_Same.mono _ _ _)
   | (with_reducible exact pinfoldref35_Delays.mono _ _ _)
   | (with_reducible exact pinfoldref35_Line.mono _ _ _)
   | (with_reducible exact LeO.refl _)
   | (with_reducible exact LeO.none _)
   | (with_reducible refine LeO.ite ?_ ?_)
   | (with_reducible refine LeO.bind ?_ (fun _ => ?_))
   | exact ih0 _ _ _
   | exact ih1 _ _ _ _
   | exact ih2 _ _ _ _ _ _ _ _ _ _ _ _ _ _ _ _ _ _ _ _ _ _ _ _
   | exact ih3 _ _ _ _ _ _ _ _ _ _ _ _ _ _ _ _ _ _ _ _ _ _ _ _ _ _ _ _
   | exact census_Delays.mono _ _ _
   | exact census_Table.mono _ _ _
   | exact pinfoldlaw35_lives.mono _
   | exact pinfoldref04_Same.mono _ _ _
   | exact pinfoldref35_Delays.mono _ _ _
   | exact pinfoldref35_Line.mono _ _ _
   | exact LeO.none _
   | refine LeO.ite ?_ ?_
   | refine LeO.bind ?_ (fun _ => ?_)
  ·intro y0 y1 y2 y3
   unfold pinfoldlaw35_CensusEvents.l0
   repeat' first
   | (with_reducible exact ih0 _ _ _)
   | (with_reducible exact ih1 _ _ _ _)
   | (with_reducible exact ih2 _ _ _ _ _ _ _ _ _ _ _ _ _ _ _ _ _ _ _ _ _ _ _ _)
   | (with_reducible exact ih3 _ _ _ _ _ _ _ _ _ _ _ _ _ _ _ _ _ _ _ _ _ _ _ _ _ _ _ _)
   | (with_reducible exact census_Delays.mono _ _ _)
   | (with_reducible exact census_Table.mono _ _ _)
   | (with_reducible exact pinfoldlaw35_lives.mono _)
   | (with_reducible exact pinfoldref04_Same.mono _ _ _)
   | (with_reducible exact pinfoldref35_Delays.mono _ _ _)
   | (with_reducible exact pinfoldref35_Line.mono _ _ _)
   | (with_reducible exact LeO.refl _)
   | (with_reducible exact LeO.none _)
   | (with_reducible refine LeO.ite ?_ ?_)
   | (with_reducible refine LeO.bind ?_ (fun _ => ?_))
   | exact ih0 _ _ _
   | exact ih1 _ _ _ _
   | exact ih2 _ _ _ _ _ _ _ _ _ _ _ _ _ _ _ _ _ _ _ _ _ _ _ _
   | exact ih3 _ _ _ _ _ _ _ _ _ _ _ _ _ _ _ _ _ _ _ _ _ _ _ _ _ _ _ _
   | exact census_Delays.mono _ _ _
   | exact census_Table.mono _ _ _
   | exact pinfoldlaw35_lives.mono _
   | exact pinfoldref04_Same.mono _ _ _
   | exact pinfoldref35_Delays.mono _ _ _
   | exact pinfoldref35_Line.mono _ _ _
   | exact LeO.none _
   | refine LeO.ite ?_ ?_
   | refine LeO.bind ?_ (fun _ => ?_)
  ·intro y0 y1 y2 y3 y4 y5 y6 y7 y8 y9 y10 y11 y12 y13 y14 y15 y16 y17 y18 y19 y20 y21 y22 y23
   unfold pinfoldlaw35_CensusEvents.l1
   repeat' first
   | (with_reducible exact ih0 _ _ _)
   | (with_reducible exact ih1 _ _ _ _)
   | (with_reducible exact ih2 _ _ _ _ _ _ _ _ _ _ _ _ _ _ _ _ _ _ _ _ _ _ _ _)
   | (with_reducible exact ih3 _ _ _ _ _ _ _ _ _ _ _ _ _ _ _ _ _ _ _ _ _ _ _ _ _ _ _ _)
   | (with_reducible exact census_Delays.mono _ _ _)
   | (with_reducible exact census_Table.mono _ _ _)
   | (with_reducible exact pinfoldlaw35_lives.mono _)
   | (with_reducible exact pinfoldref04_Same.mono _ _ _)
   | (with_reducible exact pinfoldref35_Delays.mono _ _ _)
   | (with_reducible exact pinfoldref35_Line.mono _ _ _)
   | (with_reducible exact LeO.refl _)
   | (with_reducible exact LeO.none _)
   | (with_reducible refine LeO.ite ?_ ?_)
   | (with_reducible refine LeO.bind ?_ (fun _ => ?_))
   | exact ih0 _ _ _
   | exact ih1 _ _ _ _
   | exact ih2 _ _ _ _ _ _ _ _ _ _ _ _ _ _ _ _ _ _ _ _ _ _ _ _
   | exact ih3 _ _ _ _ _ _ _ _ _ _ _ _ _ _ _ _ _ _ _ _ _ _ _ _ _ _ _ _
   | exact census_Delays.mono _ _ _
   | exact census_Table.mono _ _ _
   | exact pinfoldlaw35_lives.mono _
   | exact pinfoldref04_Same.mono _ _ _
   | exact pinfoldref35_Delays.mono _ _ _
   | exact pinfoldref35_Line.mono _ _ _
   | exact LeO.none _
   | refine LeO.ite ?_ ?_
   | refine LeO.bind ?_ (fun _ => ?_)
  ·intro y0 y1 y2 y3 y4 y5 y6 y7 y8 y9 y10 y11 y12 y13 y14 y15 y16 y17 y18 y19 y20 y21 y22 y23 y24 y25 y26 y27
   unfold pinfoldlaw35_CensusEvents.l2
   repeat' first
   | (with_reducible exact ih0 _ _ _)
   | (with_reducible exact ih1 _ _ _ _)
   | (with_reducible exact ih2 _ _ _ _ _ _ _ _ _ _ _ _ _ _ _ _ _ _ _ _ _ _ _ _)
   | (with_reducible exact ih3 _ _ _ _ _ _ _ _ _ _ _ _ _ _ _ _ _ _ _ _ _ _ _ _ _ _ _ _)
   | (with_reducible exact census_Delays.mono _ _ _)
   | (with_reducible exact census_Table.mono _ _ _)
   | (with_reducible exact pinfoldlaw35_lives.mono _)
   | (with_reducible exact pinfoldref04_Same.mono _ _ _)
   | (with_reducible exact pinfoldref35_Delays.mono _ _ _)
   | (with_reducible exact pinfoldref35_Line.mono _ _ _)
   | (with_reducible exact LeO.refl _)
   | (with_reducible exact LeO.none _)
   | (with_reducible refine LeO.ite ?_ ?_)
   | (with_reducible refine LeO.bind ?_ (fun _ => ?_))
   | exact ih0 _ _ _
   | exact ih1 _ _ _ _
   | exact ih2 _ _ _ _ _ _ _ _ _ _ _ _ _ _ _ _ _ _ _ _ _ _ _ _
   | exact ih3 _ _ _ _ _ _ _ _ _ _ _ _ _ _ _ _ _ _ _ _ _ _ _ _ _ _ _ _
   | exact census_Delays.mono _ _ _
   | exact census_Table.mono _ _ _
   | exact pinfoldlaw35_lives.mono _
   | exact pinfoldref04_Same.mono _ _ _
   | exact pinfoldref35_Delays.mono _ _ _
   | exact pinfoldref35_Line.mono _ _ _
   | exact LeO.none _
   | refine LeO.ite ?_ ?_
   | refine LeO.bind ?_ (fun _ => ?_)
theorem pinfoldlaw35_CensusEvents.mono : ∀ a0 a1 a2 k, LeO (pinfoldlaw35_CensusEvents.f k a0 a1 a2) (pinfoldlaw35_CensusEvents.f (k + 1) a0 a1 a2) := by
 intro a0 a1 a2 k
 obtain ⟨ih0, ih1, ih2, ih3⟩ := pinfoldlaw35_CensusEvents.mono_l k
 unfold pinfoldlaw35_CensusEvents.f
 repeat' first
   | (with_reducible exact ih0 _ _ _)
   | (with_reducible exact ih1 _ _ _ _)
   | (with_reducible exact ih2 _ _ _ _ _ _ _ _ _ _ _ _ _ _ _ _ _ _ _ _ _ _ _ _)
   | (with_reducible exact ih3 _ _ _ _ _ _ _ _ _ _ _ _ _ _ _ _ _ _ _ _ _ _ _ _ _ _ _ _)
   | (with_reducible exact census_Delays.mono _ _ _)
   | (with_reducible exact census_Table.mono _ _ _)
   | (with_reducible exact pinfoldlaw35_lives.mono _)
   | (with_reducible exact pinfoldref04_Same.mono _ _ _)
   | (with_reducible exact pinfoldref35_Delays.mono _ _ _)
   | (with_reducible exact pinfoldref35_Line.mono _ _ _)
   | (with_reducible exact LeO.refl _)
   | (with_reducible exact LeO.none _)
   | (with_reducible refine LeO.ite ?_ ?_)
   | (with_reducible refine LeO.bind ?_ (fun _ => ?_))
   | exact ih0 _ _ _
   | exact ih1 _ _ _ _
   | exact ih2 _ _ _ _ _ _ _ _ _ _ _ _ _ _ _ _ _ _ _ _ _ _ _ _
   | exact ih3 _ _ _ _ _ _ _ _ _ _ _ _ _ _ _ _ _ _ _ _ _ _ _ _ _ _ _ _
   | exact census_Delays.mono _ _ _
   | exact census_Table.mono _ _ _
   | exact pinfoldlaw35_lives.mono _
   | exact pinfoldref04_Same.mono _ _ _
   | exact pinfoldref35_Delays.mono _ _ _
   | exact pinfoldref35_Line.mono _ _ _
   | exact LeO.none _
   | refine LeO.ite ?_ ?_
   | refine LeO.bind ?_ (fun _ => ?_)
def pinfoldlaw35_CensusEvents.T8 : Bool × List (List Nat × List Nat) := (true, [([], []), ([], []), ([0, 1], [0, 1]), ([2], [2]), ([], []), ([], []), ([4, 5], [4, 5]), ([3, 6], [3, 6])])
def pinfoldlaw35_CensusEvents.B8 : List Nat := [0, 0, 3, 7, 0, 0, 48, 127]
theorem pinfoldlaw35_CensusEvents.tab8 : rtab .any (opsOf Try.f10 8) = pinfoldlaw35_CensusEvents.T8 := by kernel_rfl
theorem pinfoldlaw35_CensusEvents.bits8 : waitsOk pinfoldlaw35_CensusEvents.T8.2 pinfoldlaw35_CensusEvents.B8 = true := by kernel_rfl
set_option maxHeartbeats 8000000 in
set_option maxRecDepth 100000 in
theorem pinfoldlaw35_CensusEvents.calls (k : Nat) (A0 : Option Addr) (c0 : Nat) (l0 : List (S84)) (a1 : Int) (a2 : Int) (r : Bool) (w : World) (hr0 : Kd.C k84 w A0 l0.length l0) (hc0 : l0.length ≤ c0) (h : pinfoldlaw35_CensusEvents.f k l0 a1 a2 = some r) :
  Calls Try.prog 10 #[.slice A0 l0.length c0, .int .i64 a1, .int .i64 a2] w fun e w' => e = .returned (.bool r) ∧ Below w.heap.size w w' := by
 have hu81 := Try.underlying81
 have hu84 := Try.underlying84
 have HR0 := Aside0.mk hr0
 have HC0 := Aside0.mk hc0
 clear hr0 hc0
 have HB := Aside0.mk (Below.refl w.heap.size w)
 have H : (if 0 ≤ (mn (l0.length : Int) 60) then (if (mn (l0.length : Int) 60) ≤ (l0.length : Int) then ((some (l0.take ((mn (l0.length : Int) 60) : Int).toNat : List (S84))).bind fun y226 => ((census_Table.f k y226 (mn a1 20)).bind fun t230 => (if (t230.length : Int) = (mx (mn a1 20) 0) then ((census_Delays.f k y226 a2).bind fun t233 => ((pinfoldref35_Delays.f k y226 a2).bind fun t236 => ((pinfoldref04_Same.f k t233 t236).bind fun t239 => (pinfoldlaw35_CensusEvents.j0 k y226 t230 (!t239))))) else (pinfoldlaw35_CensusEvents.j0 k y226 t230 true)))) else (none)) else (none)) = some r := h
 clear h
 obtain ⟨ji4, hji4⟩ : ∃ j_ : Int, (mn (l0.length : Int) 60) = j_ := ⟨_, rfl⟩
 replace H : (if 0 ≤ (ji4) then (if (ji4) ≤ (l0.length : Int) then ((some (l0.take ((ji4) : Int).toNat : List (S84))).bind fun y226 => ((census_Table.f k y226 (mn a1 20)).bind fun t230 => (if (t230.length : Int) = (mx (mn a1 20) 0) then ((census_Delays.f k y226 a2).bind fun t233 => ((pinfoldref35_Delays.f k y226 a2).bind fun t236 => ((pinfoldref04_Same.f k t233 t236).bind fun t239 => (pinfoldlaw35_CensusEvents.j0 k y226 t230 (!t239))))) else (pinfoldlaw35_CensusEvents.j0 k y226 t230 true)))) else (none)) else (none)) = some r := by first|(rw [hji4] at H;exact H)|(simp only [hji4] at H ⊢;exact H)
 (try (have hji4h : ji4 ≤ 60 := by (rw [← hji4];unfold mn;(repeat' split) <;> omega)))
 (try (have hji4g : ji4 ≤ 64 := by omega))
 (try (have hji4l : 0 ≤ ji4 := by (rw [← hji4];unfold mn;(repeat' split) <;> omega)))
 (try (have hji4m : 0 ≤ ji4 := by omega))
 have hji4_ : (if 60 < (l0.length : Int) then 60 else (l0.length : Int)) = ji4 := hji4
 by_cases c5 : 0 ≤ (ji4)
 ·rw [if_pos c5] at H
  have c5b0 := eq_true c5
  have c5b1 : decide (0 ≤ (ji4)) = true := decide_eq_true c5
  clear c5
  by_cases c6 : (ji4) ≤ (l0.length : Int)
  ·rw [if_pos c6] at H
   have c6b0 := eq_true c6
   have c6b1 : decide ((ji4) ≤ (l0.length : Int)) = true := decide_eq_true c6
   clear c6
   obtain ⟨y226, hy226⟩ : ∃ y_ : List (S84), y_ = (l0.take ((ji4) : Int).toNat) := ⟨_, rfl⟩
   replace H : ((census_Table.f k y226 (mn a1 20)).bind fun t230 => (if (t230.length : Int) = (mx (mn a1 20) 0) then ((census_Delays.f k y226 a2).bind fun t233 => ((pinfoldref35_Delays.f k y226 a2).bind fun t236 => ((pinfoldref04_Same.f k t233 t236).bind fun t239 => (pinfoldlaw35_CensusEvents.j0 k y226 t230 (!t239))))) else (pinfoldlaw35_CensusEvents.j0 k y226 t230 true))) = some r := by first|(rw [hy226];with_reducible exact H)|(have H2_ := (Option.bind_some _ _).symm.trans H;rw [hy226];with_reducible exact H2_)|(have H2_ := (Option.bind_some _ _).symm.trans H;with_reducible exact H2_)|with_reducible exact H|(rw [hy226];exact H)|exact H
   have Ny226 := Aside0.mk hy226
   clear hy226
   obtain ⟨ji7, hji7⟩ : ∃ j_ : Int, (mn a1 20) = j_ := ⟨_, rfl⟩
   replace H : ((census_Table.f k y226 (ji7)).bind fun t230 => (if (t230.length : Int) = (mx (ji7) 0) then ((census_Delays.f k y226 a2).bind fun t233 => ((pinfoldref35_Delays.f k y226 a2).bind fun t236 => ((pinfoldref04_Same.f k t233 t236).bind fun t239 => (pinfoldlaw35_CensusEvents.j0 k y226 t230 (!t239))))) else (pinfoldlaw35_CensusEvents.j0 k y226 t230 true))) = some r := by first|(rw [hji7] at H;exact H)|(simp only [hji7] at H ⊢;exact H)
   (try (have hji7h : ji7 ≤ 20 := by (rw [← hji7];unfold mn;(repeat' split) <;> omega)))
   (try (have hji7g : ji7 ≤ 64 := by omega))
   have hji7_ : (if 20 < a1 then 20 else a1) = ji7 := hji7
   replace H := Option.bind_eq_some_iff.mp H
   obtain ⟨t230, A80, H⟩ := H
   replace H : (if (t230.length : Int) = (mx (ji7) 0) then ((census_Delays.f k y226 a2).bind fun t233 => ((pinfoldref35_Delays.f k y226 a2).bind fun t236 => ((pinfoldref04_Same.f k t233 t236).bind fun t239 => (pinfoldlaw35_CensusEvents.j0 k y226 t230 (!t239))))) else (pinfoldlaw35_CensusEvents.j0 k y226 t230 true)) = some r := H
   have A8 := Aside0.mk A80
   clear A80
   have HC9 := Aside0.mk H
   clear H
   have q10 : ((ji4) : Int) ≤ ((l0.length : Int) : Int) := of_decide_eq_true (by assumption)
   obtain ⟨i010, hi010, _, hsz10, _⟩ := info_parts info84
   have hroom10 : l0.length ≤ c0 := HC0.out
   have hC10 : Kd.C k84 _ A0 l0.length l0 := HR0.out
   have hcut10 := cut_to (P := Try.prog) 76 84 .i64 Try.underlying76 hi010 A0 l0.length c0 (ji4) (of_decide_eq_true (by assumption)) q10 hroom10
   have hr10 := Kd.C_take (m := ((ji4) : Int).toNat) hC10 (by omega)
   have hy10 : y226.length = ((ji4) : Int).toNat := (by rw [Ny226.out, List.length_take];omega)
   rw [← Ny226.out] at hr10
   rw [← hy10] at hcut10
   have HR229 := Aside0.mk hr10
   have HC229 := Aside0.mk (show y226.length ≤ c0 from by omega)
   clear hr10 hC10 hroom10 hi010 hsz10
   have KY10 := Aside0.mk hy10
   clear hy10
   replace q10 := eq_true q10
   go_enter Try.func10, Try.ntmps10
   go_upto_region 3 with (first|((with_reducible refine gate_callee (f := 43) rfl ?_);refine goesL_ (some 23) rfl rfl Try.func43 (by kernel_rfl) rfl #[.slice A0 y226.length c0, .int .i64 ji7] rfl (by (try simp only [List.map_toArray, List.map_cons, List.map_nil]);first|done|(simp only [hji7];rfl)|rfl|(simp only [List.length_drop, List.length_take];rfl)) ?_;(with_reducible refine (census_Table.calls k _ _ y226 ji7 t230 _ ?side1 ?side2 A8.out).mono ?_);(case side1 => repeat (first|exact HR229.out|(with_reducible refine Kd.C_alloc ?_ _)|(with_reducible refine Kd.C_drewN ?_ _)|(with_reducible refine Kd.C_drew ?_)));(case side2 => exact HC229.out);rintro e w11 ⟨v231, rfl, ho0, hb⟩;refine ⟨_, rfl, ?_⟩;have n0_ := Aside0.mk (Kd.R_lower ho0 (below_size (by repeat (with_reducible first|exact HB.out|apply xa|apply xb|apply xc))));have n1_ := Aside0.mk (below_step (by repeat (with_reducible first|exact HB.out|apply xa|apply xb|apply xc)) hb);clear HB;have HO232 := n0_;have HB := n1_;clear n0_ n1_;(try clear hb);(try clear hb2);(try clear hk);(try clear hi);(try clear ho0)))
   (try simp only [Act.put, List.setIfInBounds_toArray, List.set_cons_zero, List.set_cons_succ])
   go_cut [38] (fun v38 wc => ∃ (kq : Nat) (x38_8 : Bool), v38 = .bool x38_8 ∧ Aside0 (pinfoldlaw35_CensusEvents.j0 kq y226 t230 x38_8 = some r) ∧ Aside0 (kq ≤ k) ∧ Aside0 (Kd.R Kd.string 9 wc w.heap.size (fun _ => True) v231 t230) ∧ Aside0 (Below w.heap.size w wc))
   case first =>
    have H := HC9.out
    clear HC9
    obtain ⟨ji12, hji12⟩ : ∃ j_ : Int, (mx (ji7) 0) = j_ := ⟨_, rfl⟩
    replace H : (if (t230.length : Int) = (ji12) then ((census_Delays.f k y226 a2).bind fun t233 => ((pinfoldref35_Delays.f k y226 a2).bind fun t236 => ((pinfoldref04_Same.f k t233 t236).bind fun t239 => (pinfoldlaw35_CensusEvents.j0 k y226 t230 (!t239))))) else (pinfoldlaw35_CensusEvents.j0 k y226 t230 true)) = some r := by first|(rw [hji12] at H;exact H)|(simp only [hji12] at H ⊢;exact H)
    have hji12_ : (if (ji7) < 0 then 0 else (ji7)) = ji12 := hji12
    by_cases c13 : (t230.length : Int) = (ji12)
    ·rw [if_pos c13] at H
     have c13b0 : ((t230.length : Int) == (ji12)) = true := beq_iff_eq.mpr c13
     have c13b1 : ((t230.length : Int) != (ji12)) = false := bne_eq_false_iff_eq.mpr c13
     clear c13
     (first|rw [c13b0]|(simp only [i64_w, i32_w];rw [c13b0])|skip)
     replace H := Option.bind_eq_some_iff.mp H
     obtain ⟨t233, A140, H⟩ := H
     replace H : ((pinfoldref35_Delays.f k y226 a2).bind fun t236 => ((pinfoldref04_Same.f k t233 t236).bind fun t239 => (pinfoldlaw35_CensusEvents.j0 k y226 t230 (!t239)))) = some r := H
     have A14 := Aside0.mk A140
     clear A140
     replace H := Option.bind_eq_some_iff.mp H
     obtain ⟨t236, A150, H⟩ := H
     replace H : ((pinfoldref04_Same.f k t233 t236).bind fun t239 => (pinfoldlaw35_CensusEvents.j0 k y226 t230 (!t239))) = some r := H
     have A15 := Aside0.mk A150
     clear A150
     replace H := Option.bind_eq_some_iff.mp H
     obtain ⟨t239, A160, H⟩ := H
     replace H : (pinfoldlaw35_CensusEvents.j0 k y226 t230 (!t239)) = some r := H
     have A16 := Aside0.mk A160
     clear A160
     have H' := Aside0.mk H
     clear H
     obtain ⟨Ao17, co17, eo17⟩ := Kd.R_slice HO232.out
     subst eo17
     go_wp2_with (first|(go_at_call 44;(with_reducible refine (census_Delays.calls k _ _ y226 a2 t233 _ ?side1 ?side2 A14.out).mono ?_);(case side1 => repeat (first|exact (Kd.C_below HR229.out HB.out)|(with_reducible refine Kd.C_alloc ?_ _)|(with_reducible refine Kd.C_drewN ?_ _)|(with_reducible refine Kd.C_drew ?_)));(case side2 => exact HC229.out);rintro e w18 ⟨v234, rfl, ho0, hb⟩;have n0_ := Aside0.mk (Kd.R_below (by (with_reducible repeat (first|apply Kd.R_alloc|apply Kd.R_drewN|apply Kd.R_drew));exact HO232.out) hb);have n1_ := Aside0.mk (Kd.R_lower ho0 (below_size (by repeat (with_reducible first|exact HB.out|apply xa|apply xb|apply xc))));have n2_ := Aside0.mk (below_step (by repeat (with_reducible first|exact HB.out|apply xa|apply xb|apply xc)) hb);clear HO232;clear HB;have HO232 := n0_;have HO235 := n1_;have HB := n2_;clear n0_ n1_ n2_;(try clear hb);(try clear hb2);(try clear hk);(try clear hi);(try clear ho0))|(go_at_call 45;(with_reducible refine (pinfoldref35_Delays.calls k _ _ y226 a2 t236 _ ?side1 ?side2 A15.out).mono ?_);(case side1 => repeat (first|exact (Kd.C_below HR229.out HB.out)|(with_reducible refine Kd.C_alloc ?_ _)|(with_reducible refine Kd.C_drewN ?_ _)|(with_reducible refine Kd.C_drew ?_)));(case side2 => exact HC229.out);rintro e w19 ⟨v237, rfl, ho0, hb⟩;have n0_ := Aside0.mk (Kd.R_below (by (with_reducible repeat (first|apply Kd.R_alloc|apply Kd.R_drewN|apply Kd.R_drew));exact HO232.out) hb);have n1_ := Aside0.mk (Kd.R_elder' (by (with_reducible repeat (first|apply Kd.R_alloc|apply Kd.R_drewN|apply Kd.R_drew));exact HO235.out) (Kd.R_base ho0) hb);have n2_ := Aside0.mk (Kd.R_lower (Kd.R_new' ho0 (Kd.R_lt (by (with_reducible repeat (first|apply Kd.R_alloc|apply Kd.R_drewN|apply Kd.R_drew));exact HO235.out))) (below_size (by repeat (with_reducible first|exact HB.out|apply xa|apply xb|apply xc))));have n3_ := Aside0.mk (below_step (by repeat (with_reducible first|exact HB.out|apply xa|apply xb|apply xc)) hb);clear HO232;clear HO235;clear HB;have HO232 := n0_;have HO235 := n1_;have HO238 := n2_;have HB := n3_;clear n0_ n1_ n2_ n3_;(try clear hb);(try clear hb2);(try clear hk);(try clear hi);(try clear ho0);obtain ⟨Ao20, co20, eo20⟩ := Kd.R_slice HO235.out;subst eo20;obtain ⟨Ao21, co21, eo21⟩ := Kd.R_slice HO238.out;subst eo21)|(go_at_call 21;(with_reducible refine (pinfoldref04_Same.calls k _ _ t233 _ _ t236 t239 _ ?side1 ?side2 ?side3 ?side4 A16.out).mono ?_);(case side1 => repeat (first|exact (Kd.R_reads' HO235.out).2.2|(with_reducible refine Kd.C_alloc ?_ _)|(with_reducible refine Kd.C_drewN ?_ _)|(with_reducible refine Kd.C_drew ?_)));(case side2 => exact (Kd.R_reads' HO235.out).2.1);(case side3 => repeat (first|exact (Kd.R_reads' HO238.out).2.2|(with_reducible refine Kd.C_alloc ?_ _)|(with_reducible refine Kd.C_drewN ?_ _)|(with_reducible refine Kd.C_drew ?_)));(case side4 => exact (Kd.R_reads' HO238.out).2.1);rintro e w' ⟨rfl, ⟨nd, rfl⟩⟩))
     go_meet
     case rel => exact ⟨_, (!t239), (by first|rfl|(simp;done)|(simp [*];done)), H', ⟨by first|omega|exact Nat.le_refl _⟩, ⟨by (with_reducible repeat (first|apply Kd.R_alloc|apply Kd.R_drewN|apply Kd.R_drew));exact HO232.out⟩, ⟨by repeat (with_reducible first|exact HB.out|apply xa|apply xb|apply xc)⟩⟩
    ·rw [if_neg c13] at H
     have c13b0 : ((t230.length : Int) == (ji12)) = false := beq_eq_false_iff_ne.mpr c13
     have c13b1 : ((t230.length : Int) != (ji12)) = true := bne_iff_ne.mpr c13
     (first|rw [c13b0]|(simp only [i64_w, i32_w];rw [c13b0])|skip)
     have H' := Aside0.mk H
     clear H
     obtain ⟨Ao22, co22, eo22⟩ := Kd.R_slice HO232.out
     subst eo22
     go_wp2
     go_meet
     case rel => exact ⟨_, (true), (by first|rfl|(simp;done)|(simp [*];done)), H', ⟨by first|omega|exact Nat.le_refl _⟩, ⟨by (with_reducible repeat (first|apply Kd.R_alloc|apply Kd.R_drewN|apply Kd.R_drew));exact HO232.out⟩, ⟨by repeat (with_reducible first|exact HB.out|apply xa|apply xb|apply xc)⟩⟩
   case rest =>
    clear HC9
    try clear c1
    try clear q1
    try clear p2
    try clear c4
    try clear c5
    try clear c5b0
    try clear c5b1
    try clear c6
    try clear c6b0
    try clear c6b1
    try clear c10
    try clear q10
    try clear c13
    try clear c13b0
    try clear c13b1
    try clear q10
    obtain ⟨kq, x38_8, rfl, HA, HJ8, HO_7, HB⟩ := hcut
    cases kq with
    | zero => exact absurd HA.out (by simp [pinfoldlaw35_CensusEvents.j0])
    | succ kj8 =>
     have H := HA.out
     clear HA
     simp only [pinfoldlaw35_CensusEvents.j0] at H
     by_cases c23 : x38_8 = true
     ·subst c23
      have H1 : (some false) = some r := by rw [if_pos rfl] at H;exact H
      clear H
      have H := H1
      clear H1
      obtain rfl := Option.some.inj H
      go_wp2
      go_ret
      exact ⟨by first|rfl|(simp [errW_none, errW_some] <;> rfl)|(simp only [← hji4, ← hji7];first|rfl|(simp [errW_none, errW_some] <;> rfl))|(simp [*, errW_none, errW_some] <;> rfl), by repeat (with_reducible first|exact HB.out|apply xa|apply xb|apply xc)⟩
     ·replace c23 := Bool.eq_false_iff.mpr c23
      subst c23
      have H1 : (pinfoldlaw35_CensusEvents.l0 kj8 y226 t230 (t230.length : Int) 0) = some r := by rw [if_neg (show ¬ (false = true) by decide)] at H;exact H
      clear H
      have H := H1
      clear H1
      have H' := Aside0.mk H
      clear H
      obtain ⟨Ao24, co24, eo24⟩ := Kd.R_slice HO_7.out
      subst eo24
      go_wp2
      go_loopg [41] kj8 (fun kq v41 w' => ∃ (x41_2 : Int), v41 = .int .i64 x41_2 ∧ Aside0 (pinfoldlaw35_CensusEvents.l0 kq y226 t230 (t230.length : Int) x41_2 = some r) ∧ Aside0 (kq ≤ kj8) ∧ Aside0 (Kd.R Kd.string 9 w' w.heap.size (fun _ => True) (.slice Ao24 t230.length co24) t230) ∧ Aside0 (Below w.heap.size w w'))
      case atStart => exact ⟨(0), (by first|rfl|(simp;done)|(simp [*];done)), H', ⟨Nat.le_refl _⟩, ⟨by (with_reducible repeat (first|apply Kd.R_alloc|apply Kd.R_drewN|apply Kd.R_drew));exact HO_7.out⟩, ⟨by repeat (with_reducible first|exact HB.out|apply xa|apply xb|apply xc)⟩⟩
      case round =>
       clear H'
       try clear c1
       try clear q1
       try clear c2
       try clear p2
       try clear c4
       try clear c5
       try clear c5b0
       try clear c5b1
       try clear c6
       try clear c6b0
       try clear c6b1
       try clear c10
       try clear q10
       try clear c13
       try clear c13b0
       try clear c13b1
       try clear c23
       try clear p2
       try clear q1
       try clear q10
       obtain ⟨x41_2, rfl, HA, HK2, HO_7, HB⟩ := hrel
       cases gk with
       | zero => exact absurd HA.out (by simp [pinfoldlaw35_CensusEvents.l0])
       | succ k2 =>
        have H := HA.out
        clear HA
        simp only [pinfoldlaw35_CensusEvents.l0] at H
        by_cases c25 : x41_2 < (t230.length : Int)
        ·rw [if_pos c25] at H
         have c25b0 : decide (x41_2 < (t230.length : Int)) = true := decide_eq_true c25
         clear c25
         by_cases c26 : 0 ≤ x41_2
         ·rw [if_pos c26] at H
          have c26b0 : decide (0 ≤ x41_2) = true := decide_eq_true c26
          clear c26
          by_cases c27 : x41_2 < (t230.length : Int)
          ·rw [if_pos c27] at H
           have c27b0 : decide (x41_2 < (t230.length : Int)) = true := decide_eq_true c27
           clear c27
           replace H := Option.bind_eq_some_iff.mp H
           obtain ⟨t241, A280, H⟩ := H
           replace H : (if (rdOf ByteArray.empty t230 x41_2).toList = t241.toList then (pinfoldlaw35_CensusEvents.l0 k2 y226 t230 (t230.length : Int) (wrap64 (x41_2 + 1))) else (some false)) = some r := H
           have A28 := Aside0.mk A280
           clear A280
           by_cases c29 : (rdOf ByteArray.empty t230 x41_2).toList = t241.toList
           ·rw [if_pos c29] at H
            have c29b0 : ((rdOf ByteArray.empty t230 x41_2).toList == t241.toList) = true := beq_iff_eq.mpr c29
            have c29b1 : ((rdOf ByteArray.empty t230 x41_2).toList != t241.toList) = false := bne_eq_false_iff_eq.mpr c29
            clear c29
            have H' := Aside0.mk H
            clear H
            try go_wp2
            have n0_ := Aside0.mk (Kd.R_drew HO_7.out)
            have n1_ := Aside0.mk (below_drew1 HB.out)
            clear HO_7
            clear HB
            have HO_7 := n0_
            have HB := n1_
            clear n0_ n1_
            have p240 : 0 ≤ (x41_2 : Int) := of_decide_eq_true (by assumption)
            have q240 : x41_2 < (t230.length : Int) := of_decide_eq_true (by assumption)
            obtain ⟨ad240, e240, hx240_0⟩ := Kd.at_string (Kd.R_reads' HO_7.out).2.2 x41_2 p240 q240
            cases e240
            replace p240 := eq_true p240
            replace q240 := eq_true q240
            refine start_ (n := 8) (S := fun w' => w'.cell? (ad240.add (x41_2).toNat) = some (.string (rdOf ByteArray.empty t230 x41_2))) (ds := []) #[false, false, false, false, false, false, false, false] (by kernel_rfl) rfl rfl (hx240_0) (fun hHeld => ?_);refine with_tabW pinfoldlaw35_CensusEvents.tab8 pinfoldlaw35_CensusEvents.bits8 (fun HT_ HW_ => ?_)
            generalize wr.drew = w30 at HO_7 HB hx240_0 hHeld ⊢
            refine pure_ (i := 0) (N := some 44) (v := ?_) (a' := ?_) #[true, false, false, false, false, false, false, false] rfl rfl (any_of HT_.out (by kernel_rfl)) (fun _ _ _ h => h) (Or.inl ⟨by rfl, ?_⟩) ?_ ?_
            rotate_left
            ·intro w'
             go_simp
             with_reducible rfl
            rotate_left
            ·simp only [Act.put, List.setIfInBounds_toArray, List.set_cons_zero, List.set_cons_succ, i64_w, i32_w]
             rfl
            refine pure_ (i := 1) (N := some 45) (v := ?_) (a' := ?_) #[true, true, false, false, false, false, false, false] rfl rfl (any_of HT_.out (by kernel_rfl)) (fun _ _ _ h => h) (Or.inl ⟨by rfl, ?_⟩) ?_ ?_
            rotate_left
            ·intro w'
             go_simp
             with_reducible rfl
            rotate_left
            ·simp only [Act.put, List.setIfInBounds_toArray, List.set_cons_zero, List.set_cons_succ, i64_w, i32_w]
             rfl
            refine pure_ (i := 2) (N := some 46) (v := ?_) (a' := ?_) #[true, true, true, false, false, false, false, false] rfl rfl (any_of HT_.out (by kernel_rfl)) (fun _ _ _ h => h) (Or.inl ⟨by rfl, ?_⟩) ?_ ?_
            rotate_left
            ·intro w'
             go_simp
             with_reducible rfl
            rotate_left
            ·simp only [Act.put, List.setIfInBounds_toArray, List.set_cons_zero, List.set_cons_succ, i64_w, i32_w]
             rfl
            refine pure_ (i := 4) (N := some 48) (v := ?_) (a' := ?_) #[true, true, true, false, true, false, false, false] rfl rfl (any_of HT_.out (by kernel_rfl)) (fun _ _ _ h => h) (Or.inl ⟨by rfl, ?_⟩) ?_ ?_
            rotate_left
            ·intro w'
             go_simp
             with_reducible rfl
            rotate_left
            ·simp only [Act.put, List.setIfInBounds_toArray, List.set_cons_zero, List.set_cons_succ, i64_w, i32_w]
             rfl
            refine pure_ (i := 5) (N := some 49) (v := ?_) (a' := ?_) #[true, true, true, false, true, true, false, false] rfl rfl (any_of HT_.out (by kernel_rfl)) (fun _ _ _ h => h) (Or.inl ⟨by rfl, ?_⟩) ?_ ?_
            rotate_left
            ·intro w'
             go_simp
             with_reducible rfl
            rotate_left
            ·simp only [Act.put, List.setIfInBounds_toArray, List.set_cons_zero, List.set_cons_succ, i64_w, i32_w]
             rfl
            refine take_ (i := 3) (N := some 47) (v := ?_) (a' := ?_) #[true, true, true, true, true, true, false, false] rfl rfl (take_ofW HT_.out HW_.out (by kernel_rfl)) (fun _ _ _ h => h) (Or.inl ⟨by rfl, ?_⟩) hHeld ?_ ?_
            rotate_left
            ·intro w' s0
             go_simp
             with_reducible rfl
            rotate_left
            ·simp only [Act.put, List.setIfInBounds_toArray, List.set_cons_zero, List.set_cons_succ, i64_w, i32_w]
             rfl
            refine one_ (i := 6) (N := some 50) #[true, true, true, true, true, true, true, false] rfl rfl (one_of HT_.out (by kernel_rfl)) (by decide) (fun K hK => ?_)
            refine goes_ Try.func46 (by kernel_rfl) rfl #[.slice A0 y226.length c0, .int .i64 x41_2] (by rfl) rfl rfl (by (try simp only [List.map_toArray, List.map_cons, List.map_nil]);first|done|rfl|(simp only [List.length_drop, List.length_take];rfl)) ?_
            with_reducible refine (pinfoldref35_Line.calls k2 _ _ y226 x41_2 t241 _ ?side1 ?side2 A28.out).mono ?_
            (case side1 => repeat (first|exact (Kd.C_below HR229.out HB.out)|(with_reducible refine Kd.C_alloc ?_ _)|(with_reducible refine Kd.C_drewN ?_ _)|(with_reducible refine Kd.C_drew ?_)))
            (case side2 => exact HC229.out)
            rintro e w31 ⟨rfl, hb⟩
            have HS0_ := (hb.cell (World.block_lt_of_cell? _ _ (hHeld))).trans (hHeld)
            refine ⟨_, rfl, ?_⟩
            have n0_ := Aside0.mk (Kd.R_below (by (with_reducible repeat (first|apply Kd.R_alloc|apply Kd.R_drewN|apply Kd.R_drew));exact HO_7.out) hb)
            have n1_ := Aside0.mk (below_step (by repeat (with_reducible first|exact HB.out|apply xa|apply xb|apply xc)) hb)
            clear HO_7
            clear HB
            have HO_7 := n0_
            have HB := n1_
            clear n0_ n1_
            (try clear hb)
            (try clear hb2)
            (try clear hk)
            (try clear hi)
            refine hK.out _ _ (HS0_) (fun hHeld => ?_)
            clear hK K
            refine norm_ (a' := ?_) ?_ ?_
            rotate_left
            ·show Act.put _ (some 50) _ = _
             simp only [Act.put, List.setIfInBounds_toArray, List.set_cons_zero, List.set_cons_succ, i64_w, i32_w]
             rfl
            refine pure_ (i := 7) (N := some 51) (v := ?_) (a' := ?_) #[true, true, true, true, true, true, true, true] rfl rfl (any_of HT_.out (by kernel_rfl)) (fun _ _ _ h => h) (Or.inl ⟨by rfl, ?_⟩) ?_ ?_
            rotate_left
            ·intro w'
             go_simp
             with_reducible rfl
            rotate_left
            ·simp only [Act.put, List.setIfInBounds_toArray, List.set_cons_zero, List.set_cons_succ, i64_w, i32_w]
             rfl
            refine done_ (done_of HT_.out (by kernel_rfl)) ?_
            try go_wp2
            (try simp only [px_add0] at *)
            go_roundg k2
            case measure => have := HJ8.out;have := HK2.out;omega
            case rel => exact ⟨(wrap64 (x41_2 + 1)), (by first|rfl|(simp;done)|(simp [*];done)), H', ⟨by have := HJ8.out;have := HK2.out;omega⟩, ⟨by (with_reducible repeat (first|apply Kd.R_alloc|apply Kd.R_drewN|apply Kd.R_drew));exact HO_7.out⟩, ⟨by repeat (with_reducible first|exact HB.out|apply xa|apply xb|apply xc)⟩⟩
           ·rw [if_neg c29] at H
            have c29b0 : ((rdOf ByteArray.empty t230 x41_2).toList == t241.toList) = false := beq_eq_false_iff_ne.mpr c29
            have c29b1 : ((rdOf ByteArray.empty t230 x41_2).toList != t241.toList) = true := bne_iff_ne.mpr c29
            obtain rfl := Option.some.inj H
            try go_wp2
            have n0_ := Aside0.mk (Kd.R_drew HO_7.out)
            have n1_ := Aside0.mk (below_drew1 HB.out)
            clear HO_7
            clear HB
            have HO_7 := n0_
            have HB := n1_
            clear n0_ n1_
            have p240 : 0 ≤ (x41_2 : Int) := of_decide_eq_true (by assumption)
            have q240 : x41_2 < (t230.length : Int) := of_decide_eq_true (by assumption)
            obtain ⟨ad240, e240, hx240_0⟩ := Kd.at_string (Kd.R_reads' HO_7.out).2.2 x41_2 p240 q240
            cases e240
            replace p240 := eq_true p240
            replace q240 := eq_true q240
            refine start_ (n := 8) (S := fun w' => w'.cell? (ad240.add (x41_2).toNat) = some (.string (rdOf ByteArray.empty t230 x41_2))) (ds := []) #[false, false, false, false, false, false, false, false] (by kernel_rfl) rfl rfl (hx240_0) (fun hHeld => ?_);refine with_tabW pinfoldlaw35_CensusEvents.tab8 pinfoldlaw35_CensusEvents.bits8 (fun HT_ HW_ => ?_)
            generalize wr.drew = w32 at HO_7 HB hx240_0 hHeld ⊢
            refine pure_ (i := 0) (N := some 44) (v := ?_) (a' := ?_) #[true, false, false, false, false, false, false, false] rfl rfl (any_of HT_.out (by kernel_rfl)) (fun _ _ _ h => h) (Or.inl ⟨by rfl, ?_⟩) ?_ ?_
            rotate_left
            ·intro w'
             go_simp
             with_reducible rfl
            rotate_left
            ·simp only [Act.put, List.setIfInBounds_toArray, List.set_cons_zero, List.set_cons_succ, i64_w, i32_w]
             rfl
            refine pure_ (i := 1) (N := some 45) (v := ?_) (a' := ?_) #[true, true, false, false, false, false, false, false] rfl rfl (any_of HT_.out (by kernel_rfl)) (fun _ _ _ h => h) (Or.inl ⟨by rfl, ?_⟩) ?_ ?_
            rotate_left
            ·intro w'
             go_simp
             with_reducible rfl
            rotate_left
            ·simp only [Act.put, List.setIfInBounds_toArray, List.set_cons_zero, List.set_cons_succ, i64_w, i32_w]
             rfl
            refine pure_ (i := 2) (N := some 46) (v := ?_) (a' := ?_) #[true, true, true, false, false, false, false, false] rfl rfl (any_of HT_.out (by kernel_rfl)) (fun _ _ _ h => h) (Or.inl ⟨by rfl, ?_⟩) ?_ ?_
            rotate_left
            ·intro w'
             go_simp
             with_reducible rfl
            rotate_left
            ·simp only [Act.put, List.setIfInBounds_toArray, List.set_cons_zero, List.set_cons_succ, i64_w, i32_w]
             rfl
            refine pure_ (i := 4) (N := some 48) (v := ?_) (a' := ?_) #[true, true, true, false, true, false, false, false] rfl rfl (any_of HT_.out (by kernel_rfl)) (fun _ _ _ h => h) (Or.inl ⟨by rfl, ?_⟩) ?_ ?_
            rotate_left
            ·intro w'
             go_simp
             with_reducible rfl
            rotate_left
            ·simp only [Act.put, List.setIfInBounds_toArray, List.set_cons_zero, List.set_cons_succ, i64_w, i32_w]
             rfl
            refine pure_ (i := 5) (N := some 49) (v := ?_) (a' := ?_) #[true, true, true, false, true, true, false, false] rfl rfl (any_of HT_.out (by kernel_rfl)) (fun _ _ _ h => h) (Or.inl ⟨by rfl, ?_⟩) ?_ ?_
            rotate_left
            ·intro w'
             go_simp
             with_reducible rfl
            rotate_left
            ·simp only [Act.put, List.setIfInBounds_toArray, List.set_cons_zero, List.set_cons_succ, i64_w, i32_w]
             rfl
            refine take_ (i := 3) (N := some 47) (v := ?_) (a' := ?_) #[true, true, true, true, true, true, false, false] rfl rfl (take_ofW HT_.out HW_.out (by kernel_rfl)) (fun _ _ _ h => h) (Or.inl ⟨by rfl, ?_⟩) hHeld ?_ ?_
            rotate_left
            ·intro w' s0
             go_simp
             with_reducible rfl
            rotate_left
            ·simp only [Act.put, List.setIfInBounds_toArray, List.set_cons_zero, List.set_cons_succ, i64_w, i32_w]
             rfl
            refine one_ (i := 6) (N := some 50) #[true, true, true, true, true, true, true, false] rfl rfl (one_of HT_.out (by kernel_rfl)) (by decide) (fun K hK => ?_)
            refine goes_ Try.func46 (by kernel_rfl) rfl #[.slice A0 y226.length c0, .int .i64 x41_2] (by rfl) rfl rfl (by (try simp only [List.map_toArray, List.map_cons, List.map_nil]);first|done|rfl|(simp only [List.length_drop, List.length_take];rfl)) ?_
            with_reducible refine (pinfoldref35_Line.calls k2 _ _ y226 x41_2 t241 _ ?side1 ?side2 A28.out).mono ?_
            (case side1 => repeat (first|exact (Kd.C_below HR229.out HB.out)|(with_reducible refine Kd.C_alloc ?_ _)|(with_reducible refine Kd.C_drewN ?_ _)|(with_reducible refine Kd.C_drew ?_)))
            (case side2 => exact HC229.out)
            rintro e w33 ⟨rfl, hb⟩
            have HS0_ := (hb.cell (World.block_lt_of_cell? _ _ (hHeld))).trans (hHeld)
            refine ⟨_, rfl, ?_⟩
            have n0_ := Aside0.mk (Kd.R_below (by (with_reducible repeat (first|apply Kd.R_alloc|apply Kd.R_drewN|apply Kd.R_drew));exact HO_7.out) hb)
            have n1_ := Aside0.mk (below_step (by repeat (with_reducible first|exact HB.out|apply xa|apply xb|apply xc)) hb)
            clear HO_7
            clear HB
            have HO_7 := n0_
            have HB := n1_
            clear n0_ n1_
            (try clear hb)
            (try clear hb2)
            (try clear hk)
            (try clear hi)
            refine hK.out _ _ (HS0_) (fun hHeld => ?_)
            clear hK K
            refine norm_ (a' := ?_) ?_ ?_
            rotate_left
            ·show Act.put _ (some 50) _ = _
             simp only [Act.put, List.setIfInBounds_toArray, List.set_cons_zero, List.set_cons_succ, i64_w, i32_w]
             rfl
            refine pure_ (i := 7) (N := some 51) (v := ?_) (a' := ?_) #[true, true, true, true, true, true, true, true] rfl rfl (any_of HT_.out (by kernel_rfl)) (fun _ _ _ h => h) (Or.inl ⟨by rfl, ?_⟩) ?_ ?_
            rotate_left
            ·intro w'
             go_simp
             with_reducible rfl
            rotate_left
            ·simp only [Act.put, List.setIfInBounds_toArray, List.set_cons_zero, List.set_cons_succ, i64_w, i32_w]
             rfl
            refine done_ (done_of HT_.out (by kernel_rfl)) ?_
            try go_wp2
            go_ret
            exact ⟨by first|rfl|(simp [errW_none, errW_some] <;> rfl)|(simp only [← hji4, ← hji7];first|rfl|(simp [errW_none, errW_some] <;> rfl))|(simp [*, errW_none, errW_some] <;> rfl), by repeat (with_reducible first|exact HB.out|apply xa|apply xb|apply xc)⟩
          ·rw [if_neg c27] at H
           exact absurd H (by simp)
         ·rw [if_neg c26] at H
          exact absurd H (by simp)
        ·rw [if_neg c25] at H
         have c25b0 : decide (x41_2 < (t230.length : Int)) = false := decide_eq_false c25
         clear c25
         replace H := Option.bind_eq_some_iff.mp H
         obtain ⟨⟨t242, t243, t244, t245, t246, t247, t248, t249, t250, t251, t252, t253, t254, t255, t256, t257, t258, t259, t260, t261, t262, t263⟩, A340, H⟩ := H
         replace H : (pinfoldlaw35_CensusEvents.l1 k2 y226 1 t242 t243 t244 t245 t246 t247 t248 t249 t250 t251 t252 t253 t254 t255 t256 t257 t258 t259 t260 t261 t262 t263) = some r := H
         have A34 := Aside0.mk A340
         clear A340
         have H' := Aside0.mk H
         clear H
         go_wp2_with (first|(refine wpList_store_row rfl 81 (.tmp 9) (.tmp 54) rfl gb264 _ rfl rfl 81 _ BK264.out rfl rfl (by simp [Value.oneCell']) ?_;rw [← chain22 _ _ _ _ _ _ _ _ _ _ _ _ _ _ _ _ _ _ _ _ _ _ BK264.out])|((with_reducible refine gate_callee (f := 47) rfl ?_);refine goesL_ (some 54) rfl rfl Try.func47 (by kernel_rfl) rfl #[.slice A0 y226.length c0] rfl (by (try simp only [List.map_toArray, List.map_cons, List.map_nil]);first|done|rfl|(simp only [List.length_drop, List.length_take];rfl)) ?_;(with_reducible refine (census_Kinds.calls _ _ y226 t242 t243 t244 t245 t246 t247 t248 t249 t250 t251 t252 t253 t254 t255 t256 t257 t258 t259 t260 t261 t262 t263 _ ?side1 ?side2 A34.out).mono ?_);(case side1 => repeat (first|exact (Kd.C_below HR229.out HB.out)|(with_reducible refine Kd.C_alloc ?_ _)|(with_reducible refine Kd.C_drewN ?_ _)|(with_reducible refine Kd.C_drew ?_)));(case side2 => exact HC229.out);rintro e w35 ⟨rfl, hb⟩;refine ⟨_, rfl, ?_⟩;have n0_ := Aside0.mk (Kd.R_below (by (with_reducible repeat (first|apply Kd.R_alloc|apply Kd.R_drewN|apply Kd.R_drew));exact HO_7.out) hb);have n1_ := Aside0.mk (below_step (by repeat (with_reducible first|exact HB.out|apply xa|apply xb|apply xc)) hb);clear HO_7;clear HB;have HO_7 := n0_;have HB := n1_;clear n0_ n1_;(try clear hb);(try clear hb2);(try clear hk);(try clear hi))|((with_reducible refine gate_dst (N := 9) rfl ?_);refine box_event ?hg (N := 9) ?hd (cs := #[.int .i64 0, .int .i64 0, .int .i64 0, .int .i64 0, .int .i64 0, .int .i64 0, .int .i64 0, .int .i64 0, .int .i64 0, .int .i64 0, .int .i64 0, .int .i64 0, .int .i64 0, .int .i64 0, .int .i64 0, .int .i64 0, .int .i64 0, .int .i64 0, .int .i64 0, .int .i64 0, .int .i64 0, .int .i64 0]) (t := 81) ?hr ?_;(case hd => rfl);(case hg => rfl);(case hr => first|(go_simp;done)|(go_simp;rfl));intro gb264 hg w36 hbox hb;have n0_ := Aside0.mk (Kd.R_below (by (with_reducible repeat (first|apply Kd.R_alloc|apply Kd.R_drewN|apply Kd.R_drew));exact HO_7.out) hb);have n1_ := Aside0.mk (below_step (by repeat (with_reducible first|exact HB.out|apply xa|apply xb|apply xc)) hb);have n2_ := Aside0.mk (hbox);have n3_ := Aside0.mk ((by rw [hg];exact (below_size (by repeat (with_reducible first|exact HB.out|apply xa|apply xb|apply xc))) : w.heap.size ≤ gb264));have n4_ := Aside0.mk ((by rw [hg];exact (below_size (by repeat (with_reducible first|exact HB.out|apply xa|apply xb|apply xc))) : w.heap.size ≤ gb264));clear HO_7;clear HB;have HO_7 := n0_;have HB := n1_;have BK264 := n2_;have GW264 := n3_;have GE264 := n4_;clear n0_ n1_ n2_ n3_ n4_;clear hb hbox hg;have hcz37_0 : w36.cell? ⟨gb264, 0, none⟩ = some (.int .i64 0) := (blk_cell BK264.out 0).trans rfl;have hcz37_1 : w36.cell? ⟨gb264, 1, none⟩ = some (.int .i64 0) := (blk_cell BK264.out 1).trans rfl;have hcz37_2 : w36.cell? ⟨gb264, 2, none⟩ = some (.int .i64 0) := (blk_cell BK264.out 2).trans rfl;have hcz37_3 : w36.cell? ⟨gb264, 3, none⟩ = some (.int .i64 0) := (blk_cell BK264.out 3).trans rfl;have hcz37_4 : w36.cell? ⟨gb264, 4, none⟩ = some (.int .i64 0) := (blk_cell BK264.out 4).trans rfl;have hcz37_5 : w36.cell? ⟨gb264, 5, none⟩ = some (.int .i64 0) := (blk_cell BK264.out 5).trans rfl;have hcz37_6 : w36.cell? ⟨gb264, 6, none⟩ = some (.int .i64 0) := (blk_cell BK264.out 6).trans rfl;have hcz37_7 : w36.cell? ⟨gb264, 7, none⟩ = some (.int .i64 0) := (blk_cell BK264.out 7).trans rfl;have hcz37_8 : w36.cell? ⟨gb264, 8, none⟩ = some (.int .i64 0) := (blk_cell BK264.out 8).trans rfl;have hcz37_9 : w36.cell? ⟨gb264, 9, none⟩ = some (.int .i64 0) := (blk_cell BK264.out 9).trans rfl;have hcz37_10 : w36.cell? ⟨gb264, 10, none⟩ = some (.int .i64 0) := (blk_cell BK264.out 10).trans rfl;have hcz37_11 : w36.cell? ⟨gb264, 11, none⟩ = some (.int .i64 0) := (blk_cell BK264.out 11).trans rfl;have hcz37_12 : w36.cell? ⟨gb264, 12, none⟩ = some (.int .i64 0) := (blk_cell BK264.out 12).trans rfl;have hcz37_13 : w36.cell? ⟨gb264, 13, none⟩ = some (.int .i64 0) := (blk_cell BK264.out 13).trans rfl;have hcz37_14 : w36.cell? ⟨gb264, 14, none⟩ = some (.int .i64 0) := (blk_cell BK264.out 14).trans rfl;have hcz37_15 : w36.cell? ⟨gb264, 15, none⟩ = some (.int .i64 0) := (blk_cell BK264.out 15).trans rfl;have hcz37_16 : w36.cell? ⟨gb264, 16, none⟩ = some (.int .i64 0) := (blk_cell BK264.out 16).trans rfl;have hcz37_17 : w36.cell? ⟨gb264, 17, none⟩ = some (.int .i64 0) := (blk_cell BK264.out 17).trans rfl;have hcz37_18 : w36.cell? ⟨gb264, 18, none⟩ = some (.int .i64 0) := (blk_cell BK264.out 18).trans rfl;have hcz37_19 : w36.cell? ⟨gb264, 19, none⟩ = some (.int .i64 0) := (blk_cell BK264.out 19).trans rfl;have hcz37_20 : w36.cell? ⟨gb264, 20, none⟩ = some (.int .i64 0) := (blk_cell BK264.out 20).trans rfl;have hcz37_21 : w36.cell? ⟨gb264, 21, none⟩ = some (.int .i64 0) := (blk_cell BK264.out 21).trans rfl;have hfz37_0 := blk_frozen BK264.out 0;have hfz37_1 := blk_frozen BK264.out 1;have hfz37_2 := blk_frozen BK264.out 2;have hfz37_3 := blk_frozen BK264.out 3;have hfz37_4 := blk_frozen BK264.out 4;have hfz37_5 := blk_frozen BK264.out 5;have hfz37_6 := blk_frozen BK264.out 6;have hfz37_7 := blk_frozen BK264.out 7;have hfz37_8 := blk_frozen BK264.out 8;have hfz37_9 := blk_frozen BK264.out 9;have hfz37_10 := blk_frozen BK264.out 10;have hfz37_11 := blk_frozen BK264.out 11;have hfz37_12 := blk_frozen BK264.out 12;have hfz37_13 := blk_frozen BK264.out 13;have hfz37_14 := blk_frozen BK264.out 14;have hfz37_15 := blk_frozen BK264.out 15;have hfz37_16 := blk_frozen BK264.out 16;have hfz37_17 := blk_frozen BK264.out 17;have hfz37_18 := blk_frozen BK264.out 18;have hfz37_19 := blk_frozen BK264.out 19;have hfz37_20 := blk_frozen BK264.out 20;have hfz37_21 := blk_frozen BK264.out 21))
         go_loopg [10] k2 (fun kq v10 w' => ∃ (x10_3 : Int), v10 = .int .i64 x10_3 ∧ Aside0 (pinfoldlaw35_CensusEvents.l1 kq y226 x10_3 t242 t243 t244 t245 t246 t247 t248 t249 t250 t251 t252 t253 t254 t255 t256 t257 t258 t259 t260 t261 t262 t263 = some r) ∧ Aside0 (kq ≤ k2) ∧ Aside0 (w'.heap[gb264]? = some (.cells #[.int .i64 t242, .int .i64 t243, .int .i64 t244, .int .i64 t245, .int .i64 t246, .int .i64 t247, .int .i64 t248, .int .i64 t249, .int .i64 t250, .int .i64 t251, .int .i64 t252, .int .i64 t253, .int .i64 t254, .int .i64 t255, .int .i64 t256, .int .i64 t257, .int .i64 t258, .int .i64 t259, .int .i64 t260, .int .i64 t261, .int .i64 t262, .int .i64 t263] 81 (0, 0))) ∧ Aside0 (Below w.heap.size w w'))
         case atStart => exact ⟨(1), (by first|rfl|(simp;done)|(simp [*];done)), H', ⟨Nat.le_refl _⟩, ⟨by (with_reducible repeat (first|apply blk_drewN|apply blk_drew|apply blk_alloc));refine blk_put (cs := #[.int .i64 t242, .int .i64 t243, .int .i64 t244, .int .i64 t245, .int .i64 t246, .int .i64 t247, .int .i64 t248, .int .i64 t249, .int .i64 t250, .int .i64 t251, .int .i64 t252, .int .i64 t253, .int .i64 t254, .int .i64 t255, .int .i64 t256, .int .i64 t257, .int .i64 t258, .int .i64 t259, .int .i64 t260, .int .i64 t261, .int .i64 t262, .int .i64 0]) ?_ 21 _ rfl;(with_reducible repeat (first|apply blk_drewN|apply blk_drew|apply blk_alloc));refine blk_put (cs := #[.int .i64 t242, .int .i64 t243, .int .i64 t244, .int .i64 t245, .int .i64 t246, .int .i64 t247, .int .i64 t248, .int .i64 t249, .int .i64 t250, .int .i64 t251, .int .i64 t252, .int .i64 t253, .int .i64 t254, .int .i64 t255, .int .i64 t256, .int .i64 t257, .int .i64 t258, .int .i64 t259, .int .i64 t260, .int .i64 t261, .int .i64 0, .int .i64 0]) ?_ 20 _ rfl;(with_reducible repeat (first|apply blk_drewN|apply blk_drew|apply blk_alloc));refine blk_put (cs := #[.int .i64 t242, .int .i64 t243, .int .i64 t244, .int .i64 t245, .int .i64 t246, .int .i64 t247, .int .i64 t248, .int .i64 t249, .int .i64 t250, .int .i64 t251, .int .i64 t252, .int .i64 t253, .int .i64 t254, .int .i64 t255, .int .i64 t256, .int .i64 t257, .int .i64 t258, .int .i64 t259, .int .i64 t260, .int .i64 0, .int .i64 0, .int .i64 0]) ?_ 19 _ rfl;(with_reducible repeat (first|apply blk_drewN|apply blk_drew|apply blk_alloc));refine blk_put (cs := #[.int .i64 t242, .int .i64 t243, .int .i64 t244, .int .i64 t245, .int .i64 t246, .int .i64 t247, .int .i64 t248, .int .i64 t249, .int .i64 t250, .int .i64 t251, .int .i64 t252, .int .i64 t253, .int .i64 t254, .int .i64 t255, .int .i64 t256, .int .i64 t257, .int .i64 t258, .int .i64 t259, .int .i64 0, .int .i64 0, .int .i64 0, .int .i64 0]) ?_ 18 _ rfl;(with_reducible repeat (first|apply blk_drewN|apply blk_drew|apply blk_alloc));refine blk_put (cs := #[.int .i64 t242, .int .i64 t243, .int .i64 t244, .int .i64 t245, .int .i64 t246, .int .i64 t247, .int .i64 t248, .int .i64 t249, .int .i64 t250, .int .i64 t251, .int .i64 t252, .int .i64 t253, .int .i64 t254, .int .i64 t255, .int .i64 t256, .int .i64 t257, .int .i64 t258, .int .i64 0, .int .i64 0, .int .i64 0, .int .i64 0, .int .i64 0]) ?_ 17 _ rfl;(with_reducible repeat (first|apply blk_drewN|apply blk_drew|apply blk_alloc));refine blk_put (cs := #[.int .i64 t242, .int .i64 t243, .int .i64 t244, .int .i64 t245, .int .i64 t246, .int .i64 t247, .int .i64 t248, .int .i64 t249, .int .i64 t250, .int .i64 t251, .int .i64 t252, .int .i64 t253, .int .i64 t254, .int .i64 t255, .int .i64 t256, .int .i64 t257, .int .i64 0, .int .i64 0, .int .i64 0, .int .i64 0, .int .i64 0, .int .i64 0]) ?_ 16 _ rfl;(with_reducible repeat (first|apply blk_drewN|apply blk_drew|apply blk_alloc));refine blk_put (cs := #[.int .i64 t242, .int .i64 t243, .int .i64 t244, .int .i64 t245, .int .i64 t246, .int .i64 t247, .int .i64 t248, .int .i64 t249, .int .i64 t250, .int .i64 t251, .int .i64 t252, .int .i64 t253, .int .i64 t254, .int .i64 t255, .int .i64 t256, .int .i64 0, .int .i64 0, .int .i64 0, .int .i64 0, .int .i64 0, .int .i64 0, .int .i64 0]) ?_ 15 _ rfl;(with_reducible repeat (first|apply blk_drewN|apply blk_drew|apply blk_alloc));refine blk_put (cs := #[.int .i64 t242, .int .i64 t243, .int .i64 t244, .int .i64 t245, .int .i64 t246, .int .i64 t247, .int .i64 t248, .int .i64 t249, .int .i64 t250, .int .i64 t251, .int .i64 t252, .int .i64 t253, .int .i64 t254, .int .i64 t255, .int .i64 0, .int .i64 0, .int .i64 0, .int .i64 0, .int .i64 0, .int .i64 0, .int .i64 0, .int .i64 0]) ?_ 14 _ rfl;(with_reducible repeat (first|apply blk_drewN|apply blk_drew|apply blk_alloc));refine blk_put (cs := #[.int .i64 t242, .int .i64 t243, .int .i64 t244, .int .i64 t245, .int .i64 t246, .int .i64 t247, .int .i64 t248, .int .i64 t249, .int .i64 t250, .int .i64 t251, .int .i64 t252, .int .i64 t253, .int .i64 t254, .int .i64 0, .int .i64 0, .int .i64 0, .int .i64 0, .int .i64 0, .int .i64 0, .int .i64 0, .int .i64 0, .int .i64 0]) ?_ 13 _ rfl;(with_reducible repeat (first|apply blk_drewN|apply blk_drew|apply blk_alloc));refine blk_put (cs := #[.int .i64 t242, .int .i64 t243, .int .i64 t244, .int .i64 t245, .int .i64 t246, .int .i64 t247, .int .i64 t248, .int .i64 t249, .int .i64 t250, .int .i64 t251, .int .i64 t252, .int .i64 t253, .int .i64 0, .int .i64 0, .int .i64 0, .int .i64 0, .int .i64 0, .int .i64 0, .int .i64 0, .int .i64 0, .int .i64 0, .int .i64 0]) ?_ 12 _ rfl;(with_reducible repeat (first|apply blk_drewN|apply blk_drew|apply blk_alloc));refine blk_put (cs := #[.int .i64 t242, .int .i64 t243, .int .i64 t244, .int .i64 t245, .int .i64 t246, .int .i64 t247, .int .i64 t248, .int .i64 t249, .int .i64 t250, .int .i64 t251, .int .i64 t252, .int .i64 0, .int .i64 0, .int .i64 0, .int .i64 0, .int .i64 0, .int .i64 0, .int .i64 0, .int .i64 0, .int .i64 0, .int .i64 0, .int .i64 0]) ?_ 11 _ rfl;(with_reducible repeat (first|apply blk_drewN|apply blk_drew|apply blk_alloc));refine blk_put (cs := #[.int .i64 t242, .int .i64 t243, .int .i64 t244, .int .i64 t245, .int .i64 t246, .int .i64 t247, .int .i64 t248, .int .i64 t249, .int .i64 t250, .int .i64 t251, .int .i64 0, .int .i64 0, .int .i64 0, .int .i64 0, .int .i64 0, .int .i64 0, .int .i64 0, .int .i64 0, .int .i64 0, .int .i64 0, .int .i64 0, .int .i64 0]) ?_ 10 _ rfl;(with_reducible repeat (first|apply blk_drewN|apply blk_drew|apply blk_alloc));refine blk_put (cs := #[.int .i64 t242, .int .i64 t243, .int .i64 t244, .int .i64 t245, .int .i64 t246, .int .i64 t247, .int .i64 t248, .int .i64 t249, .int .i64 t250, .int .i64 0, .int .i64 0, .int .i64 0, .int .i64 0, .int .i64 0, .int .i64 0, .int .i64 0, .int .i64 0, .int .i64 0, .int .i64 0, .int .i64 0, .int .i64 0, .int .i64 0]) ?_ 9 _ rfl;(with_reducible repeat (first|apply blk_drewN|apply blk_drew|apply blk_alloc));refine blk_put (cs := #[.int .i64 t242, .int .i64 t243, .int .i64 t244, .int .i64 t245, .int .i64 t246, .int .i64 t247, .int .i64 t248, .int .i64 t249, .int .i64 0, .int .i64 0, .int .i64 0, .int .i64 0, .int .i64 0, .int .i64 0, .int .i64 0, .int .i64 0, .int .i64 0, .int .i64 0, .int .i64 0, .int .i64 0, .int .i64 0, .int .i64 0]) ?_ 8 _ rfl;(with_reducible repeat (first|apply blk_drewN|apply blk_drew|apply blk_alloc));refine blk_put (cs := #[.int .i64 t242, .int .i64 t243, .int .i64 t244, .int .i64 t245, .int .i64 t246, .int .i64 t247, .int .i64 t248, .int .i64 0, .int .i64 0, .int .i64 0, .int .i64 0, .int .i64 0, .int .i64 0, .int .i64 0, .int .i64 0, .int .i64 0, .int .i64 0, .int .i64 0, .int .i64 0, .int .i64 0, .int .i64 0, .int .i64 0]) ?_ 7 _ rfl;(with_reducible repeat (first|apply blk_drewN|apply blk_drew|apply blk_alloc));refine blk_put (cs := #[.int .i64 t242, .int .i64 t243, .int .i64 t244, .int .i64 t245, .int .i64 t246, .int .i64 t247, .int .i64 0, .int .i64 0, .int .i64 0, .int .i64 0, .int .i64 0, .int .i64 0, .int .i64 0, .int .i64 0, .int .i64 0, .int .i64 0, .int .i64 0, .int .i64 0, .int .i64 0, .int .i64 0, .int .i64 0, .int .i64 0]) ?_ 6 _ rfl;(with_reducible repeat (first|apply blk_drewN|apply blk_drew|apply blk_alloc));refine blk_put (cs := #[.int .i64 t242, .int .i64 t243, .int .i64 t244, .int .i64 t245, .int .i64 t246, .int .i64 0, .int .i64 0, .int .i64 0, .int .i64 0, .int .i64 0, .int .i64 0, .int .i64 0, .int .i64 0, .int .i64 0, .int .i64 0, .int .i64 0, .int .i64 0, .int .i64 0, .int .i64 0, .int .i64 0, .int .i64 0, .int .i64 0]) ?_ 5 _ rfl;(with_reducible repeat (first|apply blk_drewN|apply blk_drew|apply blk_alloc));refine blk_put (cs := #[.int .i64 t242, .int .i64 t243, .int .i64 t244, .int .i64 t245, .int .i64 0, .int .i64 0, .int .i64 0, .int .i64 0, .int .i64 0, .int .i64 0, .int .i64 0, .int .i64 0, .int .i64 0, .int .i64 0, .int .i64 0, .int .i64 0, .int .i64 0, .int .i64 0, .int .i64 0, .int .i64 0, .int .i64 0, .int .i64 0]) ?_ 4 _ rfl;(with_reducible repeat (first|apply blk_drewN|apply blk_drew|apply blk_alloc));refine blk_put (cs := #[.int .i64 t242, .int .i64 t243, .int .i64 t244, .int .i64 0, .int .i64 0, .int .i64 0, .int .i64 0, .int .i64 0, .int .i64 0, .int .i64 0, .int .i64 0, .int .i64 0, .int .i64 0, .int .i64 0, .int .i64 0, .int .i64 0, .int .i64 0, .int .i64 0, .int .i64 0, .int .i64 0, .int .i64 0, .int .i64 0]) ?_ 3 _ rfl;(with_reducible repeat (first|apply blk_drewN|apply blk_drew|apply blk_alloc));refine blk_put (cs := #[.int .i64 t242, .int .i64 t243, .int .i64 0, .int .i64 0, .int .i64 0, .int .i64 0, .int .i64 0, .int .i64 0, .int .i64 0, .int .i64 0, .int .i64 0, .int .i64 0, .int .i64 0, .int .i64 0, .int .i64 0, .int .i64 0, .int .i64 0, .int .i64 0, .int .i64 0, .int .i64 0, .int .i64 0, .int .i64 0]) ?_ 2 _ rfl;(with_reducible repeat (first|apply blk_drewN|apply blk_drew|apply blk_alloc));refine blk_put (cs := #[.int .i64 t242, .int .i64 0, .int .i64 0, .int .i64 0, .int .i64 0, .int .i64 0, .int .i64 0, .int .i64 0, .int .i64 0, .int .i64 0, .int .i64 0, .int .i64 0, .int .i64 0, .int .i64 0, .int .i64 0, .int .i64 0, .int .i64 0, .int .i64 0, .int .i64 0, .int .i64 0, .int .i64 0, .int .i64 0]) ?_ 1 _ rfl;(with_reducible repeat (first|apply blk_drewN|apply blk_drew|apply blk_alloc));refine blk_put (cs := #[.int .i64 0, .int .i64 0, .int .i64 0, .int .i64 0, .int .i64 0, .int .i64 0, .int .i64 0, .int .i64 0, .int .i64 0, .int .i64 0, .int .i64 0, .int .i64 0, .int .i64 0, .int .i64 0, .int .i64 0, .int .i64 0, .int .i64 0, .int .i64 0, .int .i64 0, .int .i64 0, .int .i64 0, .int .i64 0]) ?_ 0 _ rfl;(with_reducible repeat (first|apply blk_drewN|apply blk_drew|apply blk_alloc));exact BK264.out⟩, ⟨by repeat (first|(with_reducible first|exact HB.out|apply xa|apply xb|apply xc|refine below_set ?_ GE264.out)|exact HB.out)⟩⟩
         case round =>
          clear H'
          try clear c1
          try clear q1
          try clear c2
          try clear p2
          try clear q2
          try clear hx2
          try clear c4
          try clear c5
          try clear c5b0
          try clear c5b1
          try clear c6
          try clear c6b0
          try clear c6b1
          try clear p6
          try clear c10
          try clear q10
          try clear c13
          try clear c13b0
          try clear c13b1
          try clear c23
          try clear p24
          try clear q24
          try clear hx24
          try clear c25
          try clear c25b0
          try clear c26
          try clear c26b0
          try clear c27
          try clear c27b0
          try clear c29
          try clear c29b0
          try clear c29b1
          try clear hcz37_0
          try clear hcz37_1
          try clear hcz37_10
          try clear hcz37_11
          try clear hcz37_12
          try clear hcz37_13
          try clear hcz37_14
          try clear hcz37_15
          try clear hcz37_16
          try clear hcz37_17
          try clear hcz37_18
          try clear hcz37_19
          try clear hcz37_2
          try clear hcz37_20
          try clear hcz37_21
          try clear hcz37_3
          try clear hcz37_4
          try clear hcz37_5
          try clear hcz37_6
          try clear hcz37_7
          try clear hcz37_8
          try clear hcz37_9
          try clear hfz37_0
          try clear hfz37_1
          try clear hfz37_10
          try clear hfz37_11
          try clear hfz37_12
          try clear hfz37_13
          try clear hfz37_14
          try clear hfz37_15
          try clear hfz37_16
          try clear hfz37_17
          try clear hfz37_18
          try clear hfz37_19
          try clear hfz37_2
          try clear hfz37_20
          try clear hfz37_21
          try clear hfz37_3
          try clear hfz37_4
          try clear hfz37_5
          try clear hfz37_6
          try clear hfz37_7
          try clear hfz37_8
          try clear hfz37_9
          try clear hx240_0
          try clear p2
          try clear p240
          try clear q1
          try clear q10
          try clear q240
          obtain ⟨x10_3, rfl, HA, HK3, BK264, HB⟩ := hrel
          cases gk with
          | zero => exact absurd HA.out (by simp [pinfoldlaw35_CensusEvents.l1])
          | succ k3 =>
           have H := HA.out
           clear HA
           simp only [pinfoldlaw35_CensusEvents.l1] at H
           by_cases c38 : x10_3 ≤ 21
           ·rw [if_pos c38] at H
            have c38b0 : decide (x10_3 ≤ 21) = true := decide_eq_true c38
            clear c38
            have H' := Aside0.mk H
            clear H
            go_wp2
            go_loopg [11, 61] k3 (fun kq v11 v61 w' => ∃ (x11_4 : Int) (x61_4 : Int), v11 = .int .i64 x11_4 ∧ v61 = .int .i64 x61_4 ∧ Aside0 (pinfoldlaw35_CensusEvents.l2 kq y226 x10_3 x11_4 y226 (y226.length : Int) x61_4 t242 t243 t244 t245 t246 t247 t248 t249 t250 t251 t252 t253 t254 t255 t256 t257 t258 t259 t260 t261 t262 t263 = some r) ∧ Aside0 (kq ≤ k3) ∧ Aside0 (w'.heap[gb264]? = some (.cells #[.int .i64 t242, .int .i64 t243, .int .i64 t244, .int .i64 t245, .int .i64 t246, .int .i64 t247, .int .i64 t248, .int .i64 t249, .int .i64 t250, .int .i64 t251, .int .i64 t252, .int .i64 t253, .int .i64 t254, .int .i64 t255, .int .i64 t256, .int .i64 t257, .int .i64 t258, .int .i64 t259, .int .i64 t260, .int .i64 t261, .int .i64 t262, .int .i64 t263] 81 (0, 0))) ∧ Aside0 (Below w.heap.size w w'))
            case atStart => exact ⟨(0), (0), (by first|rfl|(simp;done)|(simp [*];done)), (by first|rfl|(simp;done)|(simp [*];done)), H', ⟨Nat.le_refl _⟩, ⟨by (with_reducible repeat (first|apply blk_drewN|apply blk_drew|apply blk_alloc));exact BK264.out⟩, ⟨by repeat (first|(with_reducible first|exact HB.out|apply xa|apply xb|apply xc|refine below_set ?_ GE264.out)|exact HB.out)⟩⟩
            case round =>
             clear H'
             try clear c1
             try clear q1
             try clear c2
             try clear p2
             try clear q2
             try clear hx2
             try clear c3
             try clear c4
             try clear c5
             try clear c5b0
             try clear c5b1
             try clear c6
             try clear c6b0
             try clear c6b1
             try clear p6
             try clear c10
             try clear q10
             try clear c13
             try clear c13b0
             try clear c13b1
             try clear c23
             try clear p24
             try clear q24
             try clear hx24
             try clear c25
             try clear c25b0
             try clear c26
             try clear c26b0
             try clear c27
             try clear c27b0
             try clear c29
             try clear c29b0
             try clear c29b1
             try clear c38
             try clear c38b0
             try clear hcz37_0
             try clear hcz37_1
             try clear hcz37_10
             try clear hcz37_11
             try clear hcz37_12
             try clear hcz37_13
             try clear hcz37_14
             try clear hcz37_15
             try clear hcz37_16
             try clear hcz37_17
             try clear hcz37_18
             try clear hcz37_19
             try clear hcz37_2
             try clear hcz37_20
             try clear hcz37_21
             try clear hcz37_3
             try clear hcz37_4
             try clear hcz37_5
             try clear hcz37_6
             try clear hcz37_7
             try clear hcz37_8
             try clear hcz37_9
             try clear hfz37_0
             try clear hfz37_1
             try clear hfz37_10
             try clear hfz37_11
             try clear hfz37_12
             try clear hfz37_13
             try clear hfz37_14
             try clear hfz37_15
             try clear hfz37_16
             try clear hfz37_17
             try clear hfz37_18
             try clear hfz37_19
             try clear hfz37_2
             try clear hfz37_20
             try clear hfz37_21
             try clear hfz37_3
             try clear hfz37_4
             try clear hfz37_5
             try clear hfz37_6
             try clear hfz37_7
             try clear hfz37_8
             try clear hfz37_9
             try clear hx240_0
             try clear p2
             try clear p24
             try clear p240
             try clear p6
             try clear q1
             try clear q10
             try clear q2
             try clear q24
             try clear q240
             obtain ⟨x11_4, x61_4, rfl, rfl, HA, HK4, BK264, HB⟩ := hrel
             cases gk with
             | zero => exact absurd HA.out (by simp [pinfoldlaw35_CensusEvents.l2])
             | succ k4 =>
              have H := HA.out
              clear HA
              simp only [pinfoldlaw35_CensusEvents.l2] at H
              by_cases c39 : x61_4 < (y226.length : Int)
              ·rw [if_pos c39] at H
               have c39b0 : decide (x61_4 < (y226.length : Int)) = true := decide_eq_true c39
               clear c39
               by_cases c40 : 0 ≤ x61_4
               ·rw [if_pos c40] at H
                have c40b0 : decide (0 ≤ x61_4) = true := decide_eq_true c40
                clear c40
                by_cases c41 : x61_4 < (y226.length : Int)
                ·rw [if_pos c41] at H
                 have c41b0 : decide (x61_4 < (y226.length : Int)) = true := decide_eq_true c41
                 clear c41
                 by_cases c42 : ((rd_T84 y226 x61_4).f0) = x10_3
                 ·rw [if_pos c42] at H
                  have c42b0 : (((rd_T84 y226 x61_4).f0) == x10_3) = true := beq_iff_eq.mpr c42
                  have c42b1 : (((rd_T84 y226 x61_4).f0) != x10_3) = false := bne_eq_false_iff_eq.mpr c42
                  clear c42
                  have H' := Aside0.mk H
                  clear H
                  have p266 : 0 ≤ (x61_4 : Int) := of_decide_eq_true (by assumption)
                  have q266 : x61_4 < (y226.length : Int) := of_decide_eq_true (by assumption)
                  obtain ⟨ad266, e266, hx266_0, hx266_1, hx266_2, hx266_3, hx266_4⟩ := at_T84 HR229.out x61_4 p266 q266
                  cases e266
                  replace hx266_0 := (HB.out.cell (World.block_lt_of_cell? w _ hx266_0)).trans hx266_0
                  replace hx266_1 := (HB.out.cell (World.block_lt_of_cell? w _ hx266_1)).trans hx266_1
                  replace hx266_2 := (HB.out.cell (World.block_lt_of_cell? w _ hx266_2)).trans hx266_2
                  replace hx266_3 := (HB.out.cell (World.block_lt_of_cell? w _ hx266_3)).trans hx266_3
                  replace hx266_4 := (HB.out.cell (World.block_lt_of_cell? w _ hx266_4)).trans hx266_4
                  replace p266 := eq_true p266
                  replace q266 := eq_true q266
                  go_wp2_with (first|((with_reducible refine gate_dst (N := 13) rfl ?_);refine box_event ?hg (N := 13) ?hd (cs := #[.int .i64 0, .int .i64 0, .int .i64 0, .int .i64 0, .int .i64 0]) (t := 84) ?hr ?_;(case hd => rfl);(case hg => rfl);(case hr => first|(go_simp;done)|(go_simp;rfl));intro gb267 hg w43 hbox hb;have n0_ := Aside0.mk (blk_below (g := gb264) (o := .cells #[.int .i64 t242, .int .i64 t243, .int .i64 t244, .int .i64 t245, .int .i64 t246, .int .i64 t247, .int .i64 t248, .int .i64 t249, .int .i64 t250, .int .i64 t251, .int .i64 t252, .int .i64 t253, .int .i64 t254, .int .i64 t255, .int .i64 t256, .int .i64 t257, .int .i64 t258, .int .i64 t259, .int .i64 t260, .int .i64 t261, .int .i64 t262, .int .i64 t263] 81 (0, 0)) (by (with_reducible repeat (first|apply blk_drewN|apply blk_drew|apply blk_alloc));exact BK264.out) hb);have n1_ := Aside0.mk (below_step (by repeat (first|(with_reducible first|exact HB.out|apply xa|apply xb|apply xc|refine below_set ?_ GE264.out)|exact HB.out)) hb);have n2_ := Aside0.mk (hbox);have n3_ := Aside0.mk ((by rw [hg];exact (below_size (by repeat (first|(with_reducible first|exact HB.out|apply xa|apply xb|apply xc|refine below_set ?_ GE264.out)|exact HB.out))) : w.heap.size ≤ gb267));have n4_ := Aside0.mk ((by rw [hg];exact (below_size (by repeat (first|(with_reducible first|exact HB.out|apply xa|apply xb|apply xc|refine below_set ?_ GE264.out)|exact HB.out))) : w.heap.size ≤ gb267));have n5_ := Aside0.mk ((by rw [hg];exact Nat.ne_of_lt (blk_lt (g := gb264) (o := .cells #[.int .i64 t242, .int .i64 t243, .int .i64 t244, .int .i64 t245, .int .i64 t246, .int .i64 t247, .int .i64 t248, .int .i64 t249, .int .i64 t250, .int .i64 t251, .int .i64 t252, .int .i64 t253, .int .i64 t254, .int .i64 t255, .int .i64 t256, .int .i64 t257, .int .i64 t258, .int .i64 t259, .int .i64 t260, .int .i64 t261, .int .i64 t262, .int .i64 t263] 81 (0, 0)) (by (with_reducible repeat (first|apply blk_drewN|apply blk_drew|apply blk_alloc));exact BK264.out)) : gb264 ≠ gb267));have n6_ := Aside0.mk ((by rw [hg];exact Nat.ne_of_gt (blk_lt (g := gb264) (o := .cells #[.int .i64 t242, .int .i64 t243, .int .i64 t244, .int .i64 t245, .int .i64 t246, .int .i64 t247, .int .i64 t248, .int .i64 t249, .int .i64 t250, .int .i64 t251, .int .i64 t252, .int .i64 t253, .int .i64 t254, .int .i64 t255, .int .i64 t256, .int .i64 t257, .int .i64 t258, .int .i64 t259, .int .i64 t260, .int .i64 t261, .int .i64 t262, .int .i64 t263] 81 (0, 0)) (by (with_reducible repeat (first|apply blk_drewN|apply blk_drew|apply blk_alloc));exact BK264.out)) : gb267 ≠ gb264));clear BK264;clear HB;have BK264 := n0_;have HB := n1_;have BK267 := n2_;have GW267 := n3_;have GE267 := n4_;have NB264_267 := n5_;have NB267_264 := n6_;clear n0_ n1_ n2_ n3_ n4_ n5_ n6_;clear hb hbox hg;have hnb44 := NB267_264.out;have hnc44 := NB264_267.out;have hcz45_0 : w43.cell? ⟨gb267, 0, none⟩ = some (.int .i64 0) := (blk_cell BK267.out 0).trans rfl;have hcz45_1 : w43.cell? ⟨gb267, 1, none⟩ = some (.int .i64 0) := (blk_cell BK267.out 1).trans rfl;have hcz45_2 : w43.cell? ⟨gb267, 2, none⟩ = some (.int .i64 0) := (blk_cell BK267.out 2).trans rfl;have hcz45_3 : w43.cell? ⟨gb267, 3, none⟩ = some (.int .i64 0) := (blk_cell BK267.out 3).trans rfl;have hcz45_4 : w43.cell? ⟨gb267, 4, none⟩ = some (.int .i64 0) := (blk_cell BK267.out 4).trans rfl;have hfz45_0 := blk_frozen BK267.out 0;have hfz45_1 := blk_frozen BK267.out 1;have hfz45_2 := blk_frozen BK267.out 2;have hfz45_3 := blk_frozen BK267.out 3;have hfz45_4 := blk_frozen BK267.out 4))
                  (try simp only [px_add0] at *)
                  go_roundg k4
                  case measure => have := HJ8.out;have := HK2.out;have := HK3.out;have := HK4.out;omega
                  case rel => exact ⟨(wrap64 (x11_4 + 1)), (wrap64 (x61_4 + 1)), (by first|rfl|(simp;done)|(simp [*];done)), (by first|rfl|(simp;done)|(simp [*];done)), H', ⟨by have := HJ8.out;have := HK2.out;have := HK3.out;have := HK4.out;omega⟩, ⟨by (with_reducible repeat (first|apply blk_drewN|apply blk_drew|apply blk_alloc));refine blk_far ?_ NB264_267.out _;(with_reducible repeat (first|apply blk_drewN|apply blk_drew|apply blk_alloc));refine blk_far ?_ NB264_267.out _;(with_reducible repeat (first|apply blk_drewN|apply blk_drew|apply blk_alloc));refine blk_far ?_ NB264_267.out _;(with_reducible repeat (first|apply blk_drewN|apply blk_drew|apply blk_alloc));refine blk_far ?_ NB264_267.out _;(with_reducible repeat (first|apply blk_drewN|apply blk_drew|apply blk_alloc));refine blk_far ?_ NB264_267.out _;(with_reducible repeat (first|apply blk_drewN|apply blk_drew|apply blk_alloc));exact BK264.out⟩, ⟨by repeat (first|(with_reducible first|exact HB.out|apply xa|apply xb|apply xc|refine below_set ?_ GE264.out|refine below_set ?_ GE267.out)|exact HB.out)⟩⟩
                 ·rw [if_neg c42] at H
                  have c42b0 : (((rd_T84 y226 x61_4).f0) == x10_3) = false := beq_eq_false_iff_ne.mpr c42
                  have c42b1 : (((rd_T84 y226 x61_4).f0) != x10_3) = true := bne_iff_ne.mpr c42
                  have H' := Aside0.mk H
                  clear H
                  have p266 : 0 ≤ (x61_4 : Int) := of_decide_eq_true (by assumption)
                  have q266 : x61_4 < (y226.length : Int) := of_decide_eq_true (by assumption)
                  obtain ⟨ad266, e266, hx266_0, hx266_1, hx266_2, hx266_3, hx266_4⟩ := at_T84 HR229.out x61_4 p266 q266
                  cases e266
                  replace hx266_0 := (HB.out.cell (World.block_lt_of_cell? w _ hx266_0)).trans hx266_0
                  replace hx266_1 := (HB.out.cell (World.block_lt_of_cell? w _ hx266_1)).trans hx266_1
                  replace hx266_2 := (HB.out.cell (World.block_lt_of_cell? w _ hx266_2)).trans hx266_2
                  replace hx266_3 := (HB.out.cell (World.block_lt_of_cell? w _ hx266_3)).trans hx266_3
                  replace hx266_4 := (HB.out.cell (World.block_lt_of_cell? w _ hx266_4)).trans hx266_4
                  replace p266 := eq_true p266
                  replace q266 := eq_true q266
                  go_wp2_with (first|((with_reducible refine gate_dst (N := 13) rfl ?_);refine box_event ?hg (N := 13) ?hd (cs := #[.int .i64 0, .int .i64 0, .int .i64 0, .int .i64 0, .int .i64 0]) (t := 84) ?hr ?_;(case hd => rfl);(case hg => rfl);(case hr => first|(go_simp;done)|(go_simp;rfl));intro gb267 hg w46 hbox hb;have n0_ := Aside0.mk (blk_below (g := gb264) (o := .cells #[.int .i64 t242, .int .i64 t243, .int .i64 t244, .int .i64 t245, .int .i64 t246, .int .i64 t247, .int .i64 t248, .int .i64 t249, .int .i64 t250, .int .i64 t251, .int .i64 t252, .int .i64 t253, .int .i64 t254, .int .i64 t255, .int .i64 t256, .int .i64 t257, .int .i64 t258, .int .i64 t259, .int .i64 t260, .int .i64 t261, .int .i64 t262, .int .i64 t263] 81 (0, 0)) (by (with_reducible repeat (first|apply blk_drewN|apply blk_drew|apply blk_alloc));exact BK264.out) hb);have n1_ := Aside0.mk (below_step (by repeat (first|(with_reducible first|exact HB.out|apply xa|apply xb|apply xc|refine below_set ?_ GE264.out)|exact HB.out)) hb);have n2_ := Aside0.mk (hbox);have n3_ := Aside0.mk ((by rw [hg];exact (below_size (by repeat (first|(with_reducible first|exact HB.out|apply xa|apply xb|apply xc|refine below_set ?_ GE264.out)|exact HB.out))) : w.heap.size ≤ gb267));have n4_ := Aside0.mk ((by rw [hg];exact (below_size (by repeat (first|(with_reducible first|exact HB.out|apply xa|apply xb|apply xc|refine below_set ?_ GE264.out)|exact HB.out))) : w.heap.size ≤ gb267));have n5_ := Aside0.mk ((by rw [hg];exact Nat.ne_of_lt (blk_lt (g := gb264) (o := .cells #[.int .i64 t242, .int .i64 t243, .int .i64 t244, .int .i64 t245, .int .i64 t246, .int .i64 t247, .int .i64 t248, .int .i64 t249, .int .i64 t250, .int .i64 t251, .int .i64 t252, .int .i64 t253, .int .i64 t254, .int .i64 t255, .int .i64 t256, .int .i64 t257, .int .i64 t258, .int .i64 t259, .int .i64 t260, .int .i64 t261, .int .i64 t262, .int .i64 t263] 81 (0, 0)) (by (with_reducible repeat (first|apply blk_drewN|apply blk_drew|apply blk_alloc));exact BK264.out)) : gb264 ≠ gb267));have n6_ := Aside0.mk ((by rw [hg];exact Nat.ne_of_gt (blk_lt (g := gb264) (o := .cells #[.int .i64 t242, .int .i64 t243, .int .i64 t244, .int .i64 t245, .int .i64 t246, .int .i64 t247, .int .i64 t248, .int .i64 t249, .int .i64 t250, .int .i64 t251, .int .i64 t252, .int .i64 t253, .int .i64 t254, .int .i64 t255, .int .i64 t256, .int .i64 t257, .int .i64 t258, .int .i64 t259, .int .i64 t260, .int .i64 t261, .int .i64 t262, .int .i64 t263] 81 (0, 0)) (by (with_reducible repeat (first|apply blk_drewN|apply blk_drew|apply blk_alloc));exact BK264.out)) : gb267 ≠ gb264));clear BK264;clear HB;have BK264 := n0_;have HB := n1_;have BK267 := n2_;have GW267 := n3_;have GE267 := n4_;have NB264_267 := n5_;have NB267_264 := n6_;clear n0_ n1_ n2_ n3_ n4_ n5_ n6_;clear hb hbox hg;have hnb47 := NB267_264.out;have hnc47 := NB264_267.out;have hcz48_0 : w46.cell? ⟨gb267, 0, none⟩ = some (.int .i64 0) := (blk_cell BK267.out 0).trans rfl;have hcz48_1 : w46.cell? ⟨gb267, 1, none⟩ = some (.int .i64 0) := (blk_cell BK267.out 1).trans rfl;have hcz48_2 : w46.cell? ⟨gb267, 2, none⟩ = some (.int .i64 0) := (blk_cell BK267.out 2).trans rfl;have hcz48_3 : w46.cell? ⟨gb267, 3, none⟩ = some (.int .i64 0) := (blk_cell BK267.out 3).trans rfl;have hcz48_4 : w46.cell? ⟨gb267, 4, none⟩ = some (.int .i64 0) := (blk_cell BK267.out 4).trans rfl;have hfz48_0 := blk_frozen BK267.out 0;have hfz48_1 := blk_frozen BK267.out 1;have hfz48_2 := blk_frozen BK267.out 2;have hfz48_3 := blk_frozen BK267.out 3;have hfz48_4 := blk_frozen BK267.out 4))
                  (try simp only [px_add0] at *)
                  go_roundg k4
                  case measure => have := HJ8.out;have := HK2.out;have := HK3.out;have := HK4.out;omega
                  case rel => exact ⟨(x11_4), (wrap64 (x61_4 + 1)), (by first|rfl|(simp;done)|(simp [*];done)), (by first|rfl|(simp;done)|(simp [*];done)), H', ⟨by have := HJ8.out;have := HK2.out;have := HK3.out;have := HK4.out;omega⟩, ⟨by (with_reducible repeat (first|apply blk_drewN|apply blk_drew|apply blk_alloc));refine blk_far ?_ NB264_267.out _;(with_reducible repeat (first|apply blk_drewN|apply blk_drew|apply blk_alloc));refine blk_far ?_ NB264_267.out _;(with_reducible repeat (first|apply blk_drewN|apply blk_drew|apply blk_alloc));refine blk_far ?_ NB264_267.out _;(with_reducible repeat (first|apply blk_drewN|apply blk_drew|apply blk_alloc));refine blk_far ?_ NB264_267.out _;(with_reducible repeat (first|apply blk_drewN|apply blk_drew|apply blk_alloc));refine blk_far ?_ NB264_267.out _;(with_reducible repeat (first|apply blk_drewN|apply blk_drew|apply blk_alloc));exact BK264.out⟩, ⟨by repeat (first|(with_reducible first|exact HB.out|apply xa|apply xb|apply xc|refine below_set ?_ GE264.out|refine below_set ?_ GE267.out)|exact HB.out)⟩⟩
                ·rw [if_neg c41] at H
                 exact absurd H (by simp)
               ·rw [if_neg c40] at H
                exact absurd H (by simp)
              ·rw [if_neg c39] at H
               have c39b0 : decide (x61_4 < (y226.length : Int)) = false := decide_eq_false c39
               clear c39
               replace H := Option.bind_eq_some_iff.mp H
               obtain ⟨t268, A490, H⟩ := H
               replace H : (if t268 = x11_4 then (pinfoldlaw35_CensusEvents.l1 k4 y226 (wrap64 (x10_3 + 1)) t242 t243 t244 t245 t246 t247 t248 t249 t250 t251 t252 t253 t254 t255 t256 t257 t258 t259 t260 t261 t262 t263) else (some false)) = some r := H
               have A49 := Aside0.mk A490
               clear A490
               by_cases c50 : t268 = x11_4
               ·rw [if_pos c50] at H
                have c50b0 : (t268 == x11_4) = true := beq_iff_eq.mpr c50
                have c50b1 : (t268 != x11_4) = false := bne_eq_false_iff_eq.mpr c50
                clear c50
                have H' := Aside0.mk H
                clear H
                have hcz51_0 : wr.cell? ⟨gb264, 0, none⟩ = some (.int .i64 t242) := (blk_cell BK264.out 0).trans rfl
                have hcz51_1 : wr.cell? ⟨gb264, 1, none⟩ = some (.int .i64 t243) := (blk_cell BK264.out 1).trans rfl
                have hcz51_2 : wr.cell? ⟨gb264, 2, none⟩ = some (.int .i64 t244) := (blk_cell BK264.out 2).trans rfl
                have hcz51_3 : wr.cell? ⟨gb264, 3, none⟩ = some (.int .i64 t245) := (blk_cell BK264.out 3).trans rfl
                have hcz51_4 : wr.cell? ⟨gb264, 4, none⟩ = some (.int .i64 t246) := (blk_cell BK264.out 4).trans rfl
                have hcz51_5 : wr.cell? ⟨gb264, 5, none⟩ = some (.int .i64 t247) := (blk_cell BK264.out 5).trans rfl
                have hcz51_6 : wr.cell? ⟨gb264, 6, none⟩ = some (.int .i64 t248) := (blk_cell BK264.out 6).trans rfl
                have hcz51_7 : wr.cell? ⟨gb264, 7, none⟩ = some (.int .i64 t249) := (blk_cell BK264.out 7).trans rfl
                have hcz51_8 : wr.cell? ⟨gb264, 8, none⟩ = some (.int .i64 t250) := (blk_cell BK264.out 8).trans rfl
                have hcz51_9 : wr.cell? ⟨gb264, 9, none⟩ = some (.int .i64 t251) := (blk_cell BK264.out 9).trans rfl
                have hcz51_10 : wr.cell? ⟨gb264, 10, none⟩ = some (.int .i64 t252) := (blk_cell BK264.out 10).trans rfl
                have hcz51_11 : wr.cell? ⟨gb264, 11, none⟩ = some (.int .i64 t253) := (blk_cell BK264.out 11).trans rfl
                have hcz51_12 : wr.cell? ⟨gb264, 12, none⟩ = some (.int .i64 t254) := (blk_cell BK264.out 12).trans rfl
                have hcz51_13 : wr.cell? ⟨gb264, 13, none⟩ = some (.int .i64 t255) := (blk_cell BK264.out 13).trans rfl
                have hcz51_14 : wr.cell? ⟨gb264, 14, none⟩ = some (.int .i64 t256) := (blk_cell BK264.out 14).trans rfl
                have hcz51_15 : wr.cell? ⟨gb264, 15, none⟩ = some (.int .i64 t257) := (blk_cell BK264.out 15).trans rfl
                have hcz51_16 : wr.cell? ⟨gb264, 16, none⟩ = some (.int .i64 t258) := (blk_cell BK264.out 16).trans rfl
                have hcz51_17 : wr.cell? ⟨gb264, 17, none⟩ = some (.int .i64 t259) := (blk_cell BK264.out 17).trans rfl
                have hcz51_18 : wr.cell? ⟨gb264, 18, none⟩ = some (.int .i64 t260) := (blk_cell BK264.out 18).trans rfl
                have hcz51_19 : wr.cell? ⟨gb264, 19, none⟩ = some (.int .i64 t261) := (blk_cell BK264.out 19).trans rfl
                have hcz51_20 : wr.cell? ⟨gb264, 20, none⟩ = some (.int .i64 t262) := (blk_cell BK264.out 20).trans rfl
                have hcz51_21 : wr.cell? ⟨gb264, 21, none⟩ = some (.int .i64 t263) := (blk_cell BK264.out 21).trans rfl
                have hfz51_0 := blk_frozen BK264.out 0
                have hfz51_1 := blk_frozen BK264.out 1
                have hfz51_2 := blk_frozen BK264.out 2
                have hfz51_3 := blk_frozen BK264.out 3
                have hfz51_4 := blk_frozen BK264.out 4
                have hfz51_5 := blk_frozen BK264.out 5
                have hfz51_6 := blk_frozen BK264.out 6
                have hfz51_7 := blk_frozen BK264.out 7
                have hfz51_8 := blk_frozen BK264.out 8
                have hfz51_9 := blk_frozen BK264.out 9
                have hfz51_10 := blk_frozen BK264.out 10
                have hfz51_11 := blk_frozen BK264.out 11
                have hfz51_12 := blk_frozen BK264.out 12
                have hfz51_13 := blk_frozen BK264.out 13
                have hfz51_14 := blk_frozen BK264.out 14
                have hfz51_15 := blk_frozen BK264.out 15
                have hfz51_16 := blk_frozen BK264.out 16
                have hfz51_17 := blk_frozen BK264.out 17
                have hfz51_18 := blk_frozen BK264.out 18
                have hfz51_19 := blk_frozen BK264.out 19
                have hfz51_20 := blk_frozen BK264.out 20
                have hfz51_21 := blk_frozen BK264.out 21
                obtain ⟨hk0, hk9, hkx⟩ := kinds_at A49.out BK264.out
                have hkb := eq_true (And.intro (of_decide_eq_true hk0) (of_decide_eq_true hk9))
                clear hk0 hk9
                go_wp2
                (try simp only [px_add0] at *)
                go_roundg k4
                case measure => have := HJ8.out;have := HK2.out;have := HK3.out;have := HK4.out;omega
                case rel => exact ⟨(wrap64 (x10_3 + 1)), (by first|rfl|(simp;done)|(simp [*];done)), H', ⟨by have := HJ8.out;have := HK2.out;have := HK3.out;have := HK4.out;omega⟩, ⟨by (with_reducible repeat (first|apply blk_drewN|apply blk_drew|apply blk_alloc));exact BK264.out⟩, ⟨by repeat (first|(with_reducible first|exact HB.out|apply xa|apply xb|apply xc|refine below_set ?_ GE264.out)|exact HB.out)⟩⟩
               ·rw [if_neg c50] at H
                have c50b0 : (t268 == x11_4) = false := beq_eq_false_iff_ne.mpr c50
                have c50b1 : (t268 != x11_4) = true := bne_iff_ne.mpr c50
                obtain rfl := Option.some.inj H
                have hcz53_0 : wr.cell? ⟨gb264, 0, none⟩ = some (.int .i64 t242) := (blk_cell BK264.out 0).trans rfl
                have hcz53_1 : wr.cell? ⟨gb264, 1, none⟩ = some (.int .i64 t243) := (blk_cell BK264.out 1).trans rfl
                have hcz53_2 : wr.cell? ⟨gb264, 2, none⟩ = some (.int .i64 t244) := (blk_cell BK264.out 2).trans rfl
                have hcz53_3 : wr.cell? ⟨gb264, 3, none⟩ = some (.int .i64 t245) := (blk_cell BK264.out 3).trans rfl
                have hcz53_4 : wr.cell? ⟨gb264, 4, none⟩ = some (.int .i64 t246) := (blk_cell BK264.out 4).trans rfl
                have hcz53_5 : wr.cell? ⟨gb264, 5, none⟩ = some (.int .i64 t247) := (blk_cell BK264.out 5).trans rfl
                have hcz53_6 : wr.cell? ⟨gb264, 6, none⟩ = some (.int .i64 t248) := (blk_cell BK264.out 6).trans rfl
                have hcz53_7 : wr.cell? ⟨gb264, 7, none⟩ = some (.int .i64 t249) := (blk_cell BK264.out 7).trans rfl
                have hcz53_8 : wr.cell? ⟨gb264, 8, none⟩ = some (.int .i64 t250) := (blk_cell BK264.out 8).trans rfl
                have hcz53_9 : wr.cell? ⟨gb264, 9, none⟩ = some (.int .i64 t251) := (blk_cell BK264.out 9).trans rfl
                have hcz53_10 : wr.cell? ⟨gb264, 10, none⟩ = some (.int .i64 t252) := (blk_cell BK264.out 10).trans rfl
                have hcz53_11 : wr.cell? ⟨gb264, 11, none⟩ = some (.int .i64 t253) := (blk_cell BK264.out 11).trans rfl
                have hcz53_12 : wr.cell? ⟨gb264, 12, none⟩ = some (.int .i64 t254) := (blk_cell BK264.out 12).trans rfl
                have hcz53_13 : wr.cell? ⟨gb264, 13, none⟩ = some (.int .i64 t255) := (blk_cell BK264.out 13).trans rfl
                have hcz53_14 : wr.cell? ⟨gb264, 14, none⟩ = some (.int .i64 t256) := (blk_cell BK264.out 14).trans rfl
                have hcz53_15 : wr.cell? ⟨gb264, 15, none⟩ = some (.int .i64 t257) := (blk_cell BK264.out 15).trans rfl
                have hcz53_16 : wr.cell? ⟨gb264, 16, none⟩ = some (.int .i64 t258) := (blk_cell BK264.out 16).trans rfl
                have hcz53_17 : wr.cell? ⟨gb264, 17, none⟩ = some (.int .i64 t259) := (blk_cell BK264.out 17).trans rfl
                have hcz53_18 : wr.cell? ⟨gb264, 18, none⟩ = some (.int .i64 t260) := (blk_cell BK264.out 18).trans rfl
                have hcz53_19 : wr.cell? ⟨gb264, 19, none⟩ = some (.int .i64 t261) := (blk_cell BK264.out 19).trans rfl
                have hcz53_20 : wr.cell? ⟨gb264, 20, none⟩ = some (.int .i64 t262) := (blk_cell BK264.out 20).trans rfl
                have hcz53_21 : wr.cell? ⟨gb264, 21, none⟩ = some (.int .i64 t263) := (blk_cell BK264.out 21).trans rfl
                have hfz53_0 := blk_frozen BK264.out 0
                have hfz53_1 := blk_frozen BK264.out 1
                have hfz53_2 := blk_frozen BK264.out 2
                have hfz53_3 := blk_frozen BK264.out 3
                have hfz53_4 := blk_frozen BK264.out 4
                have hfz53_5 := blk_frozen BK264.out 5
                have hfz53_6 := blk_frozen BK264.out 6
                have hfz53_7 := blk_frozen BK264.out 7
                have hfz53_8 := blk_frozen BK264.out 8
                have hfz53_9 := blk_frozen BK264.out 9
                have hfz53_10 := blk_frozen BK264.out 10
                have hfz53_11 := blk_frozen BK264.out 11
                have hfz53_12 := blk_frozen BK264.out 12
                have hfz53_13 := blk_frozen BK264.out 13
                have hfz53_14 := blk_frozen BK264.out 14
                have hfz53_15 := blk_frozen BK264.out 15
                have hfz53_16 := blk_frozen BK264.out 16
                have hfz53_17 := blk_frozen BK264.out 17
                have hfz53_18 := blk_frozen BK264.out 18
                have hfz53_19 := blk_frozen BK264.out 19
                have hfz53_20 := blk_frozen BK264.out 20
                have hfz53_21 := blk_frozen BK264.out 21
                obtain ⟨hk0, hk9, hkx⟩ := kinds_at A49.out BK264.out
                have hkb := eq_true (And.intro (of_decide_eq_true hk0) (of_decide_eq_true hk9))
                clear hk0 hk9
                go_wp2
                go_ret
                exact ⟨by first|rfl|(simp [errW_none, errW_some] <;> rfl)|(simp only [← hji4, ← hji7];first|rfl|(simp [errW_none, errW_some] <;> rfl))|(simp [*, errW_none, errW_some] <;> rfl), by repeat (first|(with_reducible first|exact HB.out|apply xa|apply xb|apply xc|refine below_set ?_ GE264.out)|exact HB.out)⟩
           ·rw [if_neg c38] at H
            have c38b0 : decide (x10_3 ≤ 21) = false := decide_eq_false c38
            clear c38
            by_cases c55 : t242 = 0
            ·rw [if_pos c55] at H
             have c55b0 : (t242 == 0) = true := beq_iff_eq.mpr c55
             have c55b1 : (t242 != 0) = false := bne_eq_false_iff_eq.mpr c55
             clear c55
             replace H := Option.bind_eq_some_iff.mp H
             obtain ⟨t265, A560, H⟩ := H
             replace H : (some t265) = some r := H
             have A56 := Aside0.mk A560
             clear A560
             obtain rfl := Option.some.inj H
             have hcz57_0 : wr.cell? ⟨gb264, 0, none⟩ = some (.int .i64 t242) := (blk_cell BK264.out 0).trans rfl
             have hcz57_1 : wr.cell? ⟨gb264, 1, none⟩ = some (.int .i64 t243) := (blk_cell BK264.out 1).trans rfl
             have hcz57_2 : wr.cell? ⟨gb264, 2, none⟩ = some (.int .i64 t244) := (blk_cell BK264.out 2).trans rfl
             have hcz57_3 : wr.cell? ⟨gb264, 3, none⟩ = some (.int .i64 t245) := (blk_cell BK264.out 3).trans rfl
             have hcz57_4 : wr.cell? ⟨gb264, 4, none⟩ = some (.int .i64 t246) := (blk_cell BK264.out 4).trans rfl
             have hcz57_5 : wr.cell? ⟨gb264, 5, none⟩ = some (.int .i64 t247) := (blk_cell BK264.out 5).trans rfl
             have hcz57_6 : wr.cell? ⟨gb264, 6, none⟩ = some (.int .i64 t248) := (blk_cell BK264.out 6).trans rfl
             have hcz57_7 : wr.cell? ⟨gb264, 7, none⟩ = some (.int .i64 t249) := (blk_cell BK264.out 7).trans rfl
             have hcz57_8 : wr.cell? ⟨gb264, 8, none⟩ = some (.int .i64 t250) := (blk_cell BK264.out 8).trans rfl
             have hcz57_9 : wr.cell? ⟨gb264, 9, none⟩ = some (.int .i64 t251) := (blk_cell BK264.out 9).trans rfl
             have hcz57_10 : wr.cell? ⟨gb264, 10, none⟩ = some (.int .i64 t252) := (blk_cell BK264.out 10).trans rfl
             have hcz57_11 : wr.cell? ⟨gb264, 11, none⟩ = some (.int .i64 t253) := (blk_cell BK264.out 11).trans rfl
             have hcz57_12 : wr.cell? ⟨gb264, 12, none⟩ = some (.int .i64 t254) := (blk_cell BK264.out 12).trans rfl
             have hcz57_13 : wr.cell? ⟨gb264, 13, none⟩ = some (.int .i64 t255) := (blk_cell BK264.out 13).trans rfl
             have hcz57_14 : wr.cell? ⟨gb264, 14, none⟩ = some (.int .i64 t256) := (blk_cell BK264.out 14).trans rfl
             have hcz57_15 : wr.cell? ⟨gb264, 15, none⟩ = some (.int .i64 t257) := (blk_cell BK264.out 15).trans rfl
             have hcz57_16 : wr.cell? ⟨gb264, 16, none⟩ = some (.int .i64 t258) := (blk_cell BK264.out 16).trans rfl
             have hcz57_17 : wr.cell? ⟨gb264, 17, none⟩ = some (.int .i64 t259) := (blk_cell BK264.out 17).trans rfl
             have hcz57_18 : wr.cell? ⟨gb264, 18, none⟩ = some (.int .i64 t260) := (blk_cell BK264.out 18).trans rfl
             have hcz57_19 : wr.cell? ⟨gb264, 19, none⟩ = some (.int .i64 t261) := (blk_cell BK264.out 19).trans rfl
             have hcz57_20 : wr.cell? ⟨gb264, 20, none⟩ = some (.int .i64 t262) := (blk_cell BK264.out 20).trans rfl
             have hcz57_21 : wr.cell? ⟨gb264, 21, none⟩ = some (.int .i64 t263) := (blk_cell BK264.out 21).trans rfl
             have hfz57_0 := blk_frozen BK264.out 0
             have hfz57_1 := blk_frozen BK264.out 1
             have hfz57_2 := blk_frozen BK264.out 2
             have hfz57_3 := blk_frozen BK264.out 3
             have hfz57_4 := blk_frozen BK264.out 4
             have hfz57_5 := blk_frozen BK264.out 5
             have hfz57_6 := blk_frozen BK264.out 6
             have hfz57_7 := blk_frozen BK264.out 7
             have hfz57_8 := blk_frozen BK264.out 8
             have hfz57_9 := blk_frozen BK264.out 9
             have hfz57_10 := blk_frozen BK264.out 10
             have hfz57_11 := blk_frozen BK264.out 11
             have hfz57_12 := blk_frozen BK264.out 12
             have hfz57_13 := blk_frozen BK264.out 13
             have hfz57_14 := blk_frozen BK264.out 14
             have hfz57_15 := blk_frozen BK264.out 15
             have hfz57_16 := blk_frozen BK264.out 16
             have hfz57_17 := blk_frozen BK264.out 17
             have hfz57_18 := blk_frozen BK264.out 18
             have hfz57_19 := blk_frozen BK264.out 19
             have hfz57_20 := blk_frozen BK264.out 20
             have hfz57_21 := blk_frozen BK264.out 21
             go_wp2_with (first|(go_at_call 39;(with_reducible refine (pinfoldlaw35_lives.calls k3  t265 _ A56.out).mono ?_);rintro e w58 ⟨rfl, hb⟩;have n0_ := Aside0.mk (blk_below (g := gb264) (o := .cells #[.int .i64 t242, .int .i64 t243, .int .i64 t244, .int .i64 t245, .int .i64 t246, .int .i64 t247, .int .i64 t248, .int .i64 t249, .int .i64 t250, .int .i64 t251, .int .i64 t252, .int .i64 t253, .int .i64 t254, .int .i64 t255, .int .i64 t256, .int .i64 t257, .int .i64 t258, .int .i64 t259, .int .i64 t260, .int .i64 t261, .int .i64 t262, .int .i64 t263] 81 (0, 0)) (by (with_reducible repeat (first|apply blk_drewN|apply blk_drew|apply blk_alloc));exact BK264.out) hb);have n1_ := Aside0.mk (below_step (by repeat (first|(with_reducible first|exact HB.out|apply xa|apply xb|apply xc|refine below_set ?_ GE264.out)|exact HB.out)) hb);clear BK264;clear HB;have BK264 := n0_;have HB := n1_;clear n0_ n1_;(try clear hb);(try clear hb2);(try clear hk);(try clear hi)))
             go_ret
             exact ⟨by first|rfl|(simp [errW_none, errW_some] <;> rfl)|(simp only [← hji4, ← hji7];first|rfl|(simp [errW_none, errW_some] <;> rfl))|(simp [*, errW_none, errW_some] <;> rfl), by repeat (first|(with_reducible first|exact HB.out|apply xa|apply xb|apply xc|refine below_set ?_ GE264.out)|exact HB.out)⟩
            ·rw [if_neg c55] at H
             have c55b0 : (t242 == 0) = false := beq_eq_false_iff_ne.mpr c55
             have c55b1 : (t242 != 0) = true := bne_iff_ne.mpr c55
             obtain rfl := Option.some.inj H
             have hcz59_0 : wr.cell? ⟨gb264, 0, none⟩ = some (.int .i64 t242) := (blk_cell BK264.out 0).trans rfl
             have hcz59_1 : wr.cell? ⟨gb264, 1, none⟩ = some (.int .i64 t243) := (blk_cell BK264.out 1).trans rfl
             have hcz59_2 : wr.cell? ⟨gb264, 2, none⟩ = some (.int .i64 t244) := (blk_cell BK264.out 2).trans rfl
             have hcz59_3 : wr.cell? ⟨gb264, 3, none⟩ = some (.int .i64 t245) := (blk_cell BK264.out 3).trans rfl
             have hcz59_4 : wr.cell? ⟨gb264, 4, none⟩ = some (.int .i64 t246) := (blk_cell BK264.out 4).trans rfl
             have hcz59_5 : wr.cell? ⟨gb264, 5, none⟩ = some (.int .i64 t247) := (blk_cell BK264.out 5).trans rfl
             have hcz59_6 : wr.cell? ⟨gb264, 6, none⟩ = some (.int .i64 t248) := (blk_cell BK264.out 6).trans rfl
             have hcz59_7 : wr.cell? ⟨gb264, 7, none⟩ = some (.int .i64 t249) := (blk_cell BK264.out 7).trans rfl
             have hcz59_8 : wr.cell? ⟨gb264, 8, none⟩ = some (.int .i64 t250) := (blk_cell BK264.out 8).trans rfl
             have hcz59_9 : wr.cell? ⟨gb264, 9, none⟩ = some (.int .i64 t251) := (blk_cell BK264.out 9).trans rfl
             have hcz59_10 : wr.cell? ⟨gb264, 10, none⟩ = some (.int .i64 t252) := (blk_cell BK264.out 10).trans rfl
             have hcz59_11 : wr.cell? ⟨gb264, 11, none⟩ = some (.int .i64 t253) := (blk_cell BK264.out 11).trans rfl
             have hcz59_12 : wr.cell? ⟨gb264, 12, none⟩ = some (.int .i64 t254) := (blk_cell BK264.out 12).trans rfl
             have hcz59_13 : wr.cell? ⟨gb264, 13, none⟩ = some (.int .i64 t255) := (blk_cell BK264.out 13).trans rfl
             have hcz59_14 : wr.cell? ⟨gb264, 14, none⟩ = some (.int .i64 t256) := (blk_cell BK264.out 14).trans rfl
             have hcz59_15 : wr.cell? ⟨gb264, 15, none⟩ = some (.int .i64 t257) := (blk_cell BK264.out 15).trans rfl
             have hcz59_16 : wr.cell? ⟨gb264, 16, none⟩ = some (.int .i64 t258) := (blk_cell BK264.out 16).trans rfl
             have hcz59_17 : wr.cell? ⟨gb264, 17, none⟩ = some (.int .i64 t259) := (blk_cell BK264.out 17).trans rfl
             have hcz59_18 : wr.cell? ⟨gb264, 18, none⟩ = some (.int .i64 t260) := (blk_cell BK264.out 18).trans rfl
             have hcz59_19 : wr.cell? ⟨gb264, 19, none⟩ = some (.int .i64 t261) := (blk_cell BK264.out 19).trans rfl
             have hcz59_20 : wr.cell? ⟨gb264, 20, none⟩ = some (.int .i64 t262) := (blk_cell BK264.out 20).trans rfl
             have hcz59_21 : wr.cell? ⟨gb264, 21, none⟩ = some (.int .i64 t263) := (blk_cell BK264.out 21).trans rfl
             have hfz59_0 := blk_frozen BK264.out 0
             have hfz59_1 := blk_frozen BK264.out 1
             have hfz59_2 := blk_frozen BK264.out 2
             have hfz59_3 := blk_frozen BK264.out 3
             have hfz59_4 := blk_frozen BK264.out 4
             have hfz59_5 := blk_frozen BK264.out 5
             have hfz59_6 := blk_frozen BK264.out 6
             have hfz59_7 := blk_frozen BK264.out 7
             have hfz59_8 := blk_frozen BK264.out 8
             have hfz59_9 := blk_frozen BK264.out 9
             have hfz59_10 := blk_frozen BK264.out 10
             have hfz59_11 := blk_frozen BK264.out 11
             have hfz59_12 := blk_frozen BK264.out 12
             have hfz59_13 := blk_frozen BK264.out 13
             have hfz59_14 := blk_frozen BK264.out 14
             have hfz59_15 := blk_frozen BK264.out 15
             have hfz59_16 := blk_frozen BK264.out 16
             have hfz59_17 := blk_frozen BK264.out 17
             have hfz59_18 := blk_frozen BK264.out 18
             have hfz59_19 := blk_frozen BK264.out 19
             have hfz59_20 := blk_frozen BK264.out 20
             have hfz59_21 := blk_frozen BK264.out 21
             go_wp2
             go_ret
             exact ⟨by first|rfl|(simp [errW_none, errW_some] <;> rfl)|(simp only [← hji4, ← hji7];first|rfl|(simp [errW_none, errW_some] <;> rfl))|(simp [*, errW_none, errW_some] <;> rfl), by repeat (first|(with_reducible first|exact HB.out|apply xa|apply xb|apply xc|refine below_set ?_ GE264.out)|exact HB.out)⟩
  ·rw [if_neg c6] at H
   exact absurd H (by simp)
 ·rw [if_neg c5] at H
  exact absurd H (by simp)

end Go.Proofs.Ytidhcdifmcffcaa.PCen
