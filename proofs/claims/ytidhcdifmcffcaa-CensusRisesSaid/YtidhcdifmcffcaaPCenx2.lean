/- Functions of the program as Lean functions, and proofs that the code comes to their answers: printed by this session's program. -/
import Derived.Test.YtidhcdifmcffcaaGQuant
import Derived.Test.YtidhcdifmcffcaaPCenx0
import Derived.Test.YtidhcdifmcffcaaPCenx1
namespace Go.Proofs.Ytidhcdifmcffcaa.PCen
open Go.RowKit Go.Proofs.YtidhcdifmcffcaaW.PrintWords Go.Proofs.YtidhcdifmcffcaaW.PrintLast Go.Proofs.YtidhcdifmcffcaaW.PrintMore
attribute [local go_sem] max2_int min2_int max_two min_two max_three min_three max_four min_four   -- for this text's walks alone
set_option linter.unusedVariables false
set_option linter.unusedSimpArgs false

/-! ### pinfoldref35_At: function 40 -/
mutual
def pinfoldref35_At.l0 : Nat → List Int → Int → List Int → Int → Int → Option (Int)
 | 0, _, _, _, _, _ => none
 | k + 1, x0, x1, x10, x11, x12 => if x12 < x11 then (if 0 ≤ x12 then (if x12 < (x10.length : Int) then (pinfoldref35_At.l1 k x0 x1 x12 (rd x10 x12) 0 x10 x11 x12 x0 (x0.length : Int) 0) else (none)) else (none)) else (some 0)
def pinfoldref35_At.l1 : Nat → List Int → Int → Int → Int → Int → List Int → Int → Int → List Int → Int → Int → Option (Int)
 | 0, _, _, _, _, _, _, _, _, _, _, _ => none
 | k + 1, x0, x1, x5, x6, x7, x10, x11, x12, x17, x18, x19 => if x19 < x18 then (if 0 ≤ x19 then (if x19 < (x17.length : Int) then (if (rd x17 x19) < x6 then (pinfoldref35_At.l1 k x0 x1 x5 x6 (wrap64 (x7 + 1)) x10 x11 x12 x17 x18 (wrap64 (x19 + 1))) else (if (rd x17 x19) = x6 then (if x19 < x5 then (pinfoldref35_At.l1 k x0 x1 x5 x6 (wrap64 (x7 + 1)) x10 x11 x12 x17 x18 (wrap64 (x19 + 1))) else (pinfoldref35_At.l1 k x0 x1 x5 x6 x7 x10 x11 x12 x17 x18 (wrap64 (x19 + 1)))) else (pinfoldref35_At.l1 k x0 x1 x5 x6 x7 x10 x11 x12 x17 x18 (wrap64 (x19 + 1))))) else (none)) else (none)) else (if x7 = x1 then (some x6) else (pinfoldref35_At.l0 k x0 x1 x10 x11 (wrap64 (x12 + 1))))
end
def pinfoldref35_At.f (k : Nat) (l0 : List Int) (a1 : Int) : Option (Int) := pinfoldref35_At.l0 k l0 a1 l0 (l0.length : Int) 0
theorem pinfoldref35_At.mono_l : ∀ k, (∀ y0 y1 y2 y3 y4, LeO (pinfoldref35_At.l0 k y0 y1 y2 y3 y4) (pinfoldref35_At.l0 (k + 1) y0 y1 y2 y3 y4)) ∧ (∀ y0 y1 y2 y3 y4 y5 y6 y7 y8 y9 y10, LeO (pinfoldref35_At.l1 k y0 y1 y2 y3 y4 y5 y6 y7 y8 y9 y10) (pinfoldref35_At.l1 (k + 1) y0 y1 y2 y3 y4 y5 y6 y7 y8 y9 y10))
 | 0 => ⟨fun _ _ _ _ _ r h => by simp [pinfoldref35_At.l0] at h, fun _ _ _ _ _ _ _ _ _ _ _ r h => by simp [pinfoldref35_At.l1] at h⟩
 | k + 1 => by
  obtain ⟨ih0, ih1⟩ := pinfoldref35_At.mono_l k
  refine ⟨?_, ?_⟩
  ·intro y0 y1 y2 y3 y4
   unfold pinfoldref35_At.l0
   repeat' first
   | (with_reducible exact ih0 _ _ _ _ _)
   | (with_reducible exact ih1 _ _ _ _ _ _ _ _ _ _ _)
   | (with_reducible exact LeO.refl _)
   | (with_reducible exact LeO.none _)
   | (with_reducible refine LeO.ite ?_ ?_)
   | (with_reducible refine LeO.bind ?_ (fun _ => ?_))
   | exact ih0 _ _ _ _ _
   | exact ih1 _ _ _ _ _ _ _ _ _ _ _
   | exact LeO.none _
   | refine LeO.ite ?_ ?_
   | refine LeO.bind ?_ (fun _ => ?_)
  ·intro y0 y1 y2 y3 y4 y5 y6 y7 y8 y9 y10
   unfold pinfoldref35_At.l1
   repeat' first
   | (with_reducible exact ih0 _ _ _ _ _)
   | (with_reducible exact ih1 _ _ _ _ _ _ _ _ _ _ _)
   | (with_reducible exact LeO.refl _)
   | (with_reducible exact LeO.none _)
   | (with_reducible refine LeO.ite ?_ ?_)
   | (with_reducible refine LeO.bind ?_ (fun _ => ?_))
   | exact ih0 _ _ _ _ _
   | exact ih1 _ _ _ _ _ _ _ _ _ _ _
   | exact LeO.none _
   | refine LeO.ite ?_ ?_
   | refine LeO.bind ?_ (fun _ => ?_)
theorem pinfoldref35_At.mono : ∀ a0 a1 k, LeO (pinfoldref35_At.f k a0 a1) (pinfoldref35_At.f (k + 1) a0 a1) := by
 intro a0 a1 k
 obtain ⟨ih0, ih1⟩ := pinfoldref35_At.mono_l k
 unfold pinfoldref35_At.f
 repeat' first
   | (with_reducible exact ih0 _ _ _ _ _)
   | (with_reducible exact ih1 _ _ _ _ _ _ _ _ _ _ _)
   | (with_reducible exact LeO.refl _)
   | (with_reducible exact LeO.none _)
   | (with_reducible refine LeO.ite ?_ ?_)
   | (with_reducible refine LeO.bind ?_ (fun _ => ?_))
   | exact ih0 _ _ _ _ _
   | exact ih1 _ _ _ _ _ _ _ _ _ _ _
   | exact LeO.none _
   | refine LeO.ite ?_ ?_
   | refine LeO.bind ?_ (fun _ => ?_)
set_option maxHeartbeats 8000000 in
set_option maxRecDepth 100000 in
theorem pinfoldref35_At.calls (k : Nat) (A0 : Option Addr) (c0 : Nat) (l0 : List Int) (a1 : Int) (r : Int) (w : World) (hr0 : Kd.C (Kd.int .i64) w A0 l0.length l0) (hc0 : l0.length ≤ c0) (h : pinfoldref35_At.f k l0 a1 = some r) :
  Calls Try.prog 40 #[.slice A0 l0.length c0, .int .i64 a1] w fun e w' => e = .returned (.int .i64 r) ∧ Drawn0 w w' := by
 have HR0 := Aside0.mk hr0
 have HC0 := Aside0.mk hc0
 clear hr0 hc0
 have H : (pinfoldref35_At.l0 k l0 a1 l0 (l0.length : Int) 0) = some r := h
 clear h
 have H' := Aside0.mk H
 clear H
 go_enter Try.func40, Try.ntmps40
 go_wp2
 go_loopg [12] k (fun kq v12 w' => ∃ (x12_1 : Int), v12 = .int .i64 x12_1 ∧ Aside0 (pinfoldref35_At.l0 kq l0 a1 l0 (l0.length : Int) x12_1 = some r) ∧ Aside0 (kq ≤ k) ∧ Drawn0 w w')
 case atStart => exact ⟨(0), (by first|rfl|(simp;done)|(simp [*];done)), H', ⟨Nat.le_refl _⟩, by repeat (first|exact Drawn0.refl _|apply Drawn0.step)⟩
 case round =>
  clear H'
  try clear p2
  obtain ⟨x12_1, rfl, HA, HK1, ⟨m1, rfl⟩⟩ := hrel
  cases gk with
  | zero => exact absurd HA.out (by simp [pinfoldref35_At.l0])
  | succ k1 =>
   have H := HA.out
   clear HA
   simp only [pinfoldref35_At.l0] at H
   by_cases c3 : x12_1 < (l0.length : Int)
   ·rw [if_pos c3] at H
    have c3b0 : decide (x12_1 < (l0.length : Int)) = true := decide_eq_true c3
    clear c3
    by_cases c4 : 0 ≤ x12_1
    ·rw [if_pos c4] at H
     have c4b0 : decide (0 ≤ x12_1) = true := decide_eq_true c4
     clear c4
     by_cases c5 : x12_1 < (l0.length : Int)
     ·rw [if_pos c5] at H
      have c5b0 : decide (x12_1 < (l0.length : Int)) = true := decide_eq_true c5
      clear c5
      have H' := Aside0.mk H
      clear H
      have p139 : 0 ≤ (x12_1 : Int) := of_decide_eq_true (by assumption)
      have q139 : x12_1 < (l0.length : Int) := of_decide_eq_true (by assumption)
      obtain ⟨ad139, e139, hx139_0⟩ := Kd.at_int HR0.out x12_1 p139 q139
      cases e139
      replace p139 := eq_true p139
      replace q139 := eq_true q139
      go_wp2
      go_loopg [7, 19] k1 (fun kq v7 v19 w' => ∃ (x7_2 : Int) (x19_2 : Int), v7 = .int .i64 x7_2 ∧ v19 = .int .i64 x19_2 ∧ Aside0 (pinfoldref35_At.l1 kq l0 a1 x12_1 (rd l0 x12_1) x7_2 l0 (l0.length : Int) x12_1 l0 (l0.length : Int) x19_2 = some r) ∧ Aside0 (kq ≤ k1) ∧ Drawn0 w w')
      case atStart => exact ⟨(0), (0), (by first|rfl|(simp;done)|(simp [*];done)), (by first|rfl|(simp;done)|(simp [*];done)), H', ⟨Nat.le_refl _⟩, by repeat (first|exact Drawn0.refl _|apply Drawn0.step)⟩
      case round =>
       clear H'
       try clear p1
       try clear q1
       try clear hx1
       try clear p2
       try clear c3
       try clear c3b0
       try clear c4
       try clear c4b0
       try clear c5
       try clear c5b0
       try clear hx139_0
       try clear p139
       try clear p2
       try clear q139
       obtain ⟨x7_2, x19_2, rfl, rfl, HA, HK2, ⟨m2, rfl⟩⟩ := hrel
       cases gk with
       | zero => exact absurd HA.out (by simp [pinfoldref35_At.l1])
       | succ k2 =>
        have H := HA.out
        clear HA
        simp only [pinfoldref35_At.l1] at H
        by_cases c6 : x19_2 < (l0.length : Int)
        ·rw [if_pos c6] at H
         have c6b0 : decide (x19_2 < (l0.length : Int)) = true := decide_eq_true c6
         clear c6
         by_cases c7 : 0 ≤ x19_2
         ·rw [if_pos c7] at H
          have c7b0 : decide (0 ≤ x19_2) = true := decide_eq_true c7
          clear c7
          by_cases c8 : x19_2 < (l0.length : Int)
          ·rw [if_pos c8] at H
           have c8b0 : decide (x19_2 < (l0.length : Int)) = true := decide_eq_true c8
           clear c8
           by_cases c9 : (rd l0 x19_2) < (rd l0 x12_1)
           ·rw [if_pos c9] at H
            have c9b0 : decide ((rd l0 x19_2) < (rd l0 x12_1)) = true := decide_eq_true c9
            clear c9
            have H' := Aside0.mk H
            clear H
            have p140 : 0 ≤ (x19_2 : Int) := of_decide_eq_true (by assumption)
            have q140 : x19_2 < (l0.length : Int) := of_decide_eq_true (by assumption)
            obtain ⟨ad140, e140, hx140_0⟩ := Kd.at_int HR0.out x19_2 p140 q140
            obtain rfl : ad139 = ad140 := (by injection e140)
            replace p140 := eq_true p140
            replace q140 := eq_true q140
            go_wp2
            (try simp only [px_add0] at *)
            go_roundg k2
            case measure => have := HK1.out;have := HK2.out;omega
            case rel => exact ⟨(wrap64 (x7_2 + 1)), (wrap64 (x19_2 + 1)), (by first|rfl|(simp;done)|(simp [*];done)), (by first|rfl|(simp;done)|(simp [*];done)), H', ⟨by have := HK1.out;have := HK2.out;omega⟩, by repeat (first|exact Drawn0.refl _|apply Drawn0.step)⟩
           ·rw [if_neg c9] at H
            have c9b0 : decide ((rd l0 x19_2) < (rd l0 x12_1)) = false := decide_eq_false c9
            clear c9
            by_cases c10 : (rd l0 x19_2) = (rd l0 x12_1)
            ·rw [if_pos c10] at H
             have c10b0 : ((rd l0 x19_2) == (rd l0 x12_1)) = true := beq_iff_eq.mpr c10
             have c10b1 : ((rd l0 x19_2) != (rd l0 x12_1)) = false := bne_eq_false_iff_eq.mpr c10
             clear c10
             by_cases c11 : x19_2 < x12_1
             ·rw [if_pos c11] at H
              have c11b0 : decide (x19_2 < x12_1) = true := decide_eq_true c11
              clear c11
              have H' := Aside0.mk H
              clear H
              have p140 : 0 ≤ (x19_2 : Int) := of_decide_eq_true (by assumption)
              have q140 : x19_2 < (l0.length : Int) := of_decide_eq_true (by assumption)
              obtain ⟨ad140, e140, hx140_0⟩ := Kd.at_int HR0.out x19_2 p140 q140
              obtain rfl : ad139 = ad140 := (by injection e140)
              replace p140 := eq_true p140
              replace q140 := eq_true q140
              go_wp2
              (try simp only [px_add0] at *)
              go_roundg k2
              case measure => have := HK1.out;have := HK2.out;omega
              case rel => exact ⟨(wrap64 (x7_2 + 1)), (wrap64 (x19_2 + 1)), (by first|rfl|(simp;done)|(simp [*];done)), (by first|rfl|(simp;done)|(simp [*];done)), H', ⟨by have := HK1.out;have := HK2.out;omega⟩, by repeat (first|exact Drawn0.refl _|apply Drawn0.step)⟩
             ·rw [if_neg c11] at H
              have c11b0 : decide (x19_2 < x12_1) = false := decide_eq_false c11
              clear c11
              have H' := Aside0.mk H
              clear H
              have p140 : 0 ≤ (x19_2 : Int) := of_decide_eq_true (by assumption)
              have q140 : x19_2 < (l0.length : Int) := of_decide_eq_true (by assumption)
              obtain ⟨ad140, e140, hx140_0⟩ := Kd.at_int HR0.out x19_2 p140 q140
              obtain rfl : ad139 = ad140 := (by injection e140)
              replace p140 := eq_true p140
              replace q140 := eq_true q140
              go_wp2
              (try simp only [px_add0] at *)
              go_roundg k2
              case measure => have := HK1.out;have := HK2.out;omega
              case rel => exact ⟨(x7_2), (wrap64 (x19_2 + 1)), (by first|rfl|(simp;done)|(simp [*];done)), (by first|rfl|(simp;done)|(simp [*];done)), H', ⟨by have := HK1.out;have := HK2.out;omega⟩, by repeat (first|exact Drawn0.refl _|apply Drawn0.step)⟩
            ·rw [if_neg c10] at H
             have c10b0 : ((rd l0 x19_2) == (rd l0 x12_1)) = false := beq_eq_false_iff_ne.mpr c10
             have c10b1 : ((rd l0 x19_2) != (rd l0 x12_1)) = true := bne_iff_ne.mpr c10
             have H' := Aside0.mk H
             clear H
             have p140 : 0 ≤ (x19_2 : Int) := of_decide_eq_true (by assumption)
             have q140 : x19_2 < (l0.length : Int) := of_decide_eq_true (by assumption)
             obtain ⟨ad140, e140, hx140_0⟩ := Kd.at_int HR0.out x19_2 p140 q140
             obtain rfl : ad139 = ad140 := (by injection e140)
             replace p140 := eq_true p140
             replace q140 := eq_true q140
             go_wp2
             (try simp only [px_add0] at *)
             go_roundg k2
             case measure => have := HK1.out;have := HK2.out;omega
             case rel => exact ⟨(x7_2), (wrap64 (x19_2 + 1)), (by first|rfl|(simp;done)|(simp [*];done)), (by first|rfl|(simp;done)|(simp [*];done)), H', ⟨by have := HK1.out;have := HK2.out;omega⟩, by repeat (first|exact Drawn0.refl _|apply Drawn0.step)⟩
          ·rw [if_neg c8] at H
           exact absurd H (by simp)
         ·rw [if_neg c7] at H
          exact absurd H (by simp)
        ·rw [if_neg c6] at H
         have c6b0 : decide (x19_2 < (l0.length : Int)) = false := decide_eq_false c6
         clear c6
         by_cases c12 : x7_2 = a1
         ·rw [if_pos c12] at H
          have c12b0 : (x7_2 == a1) = true := beq_iff_eq.mpr c12
          have c12b1 : (x7_2 != a1) = false := bne_eq_false_iff_eq.mpr c12
          clear c12
          obtain rfl := Option.some.inj H
          go_wp2
          go_ret
          exact ⟨by first|rfl|(simp;done)|(simp [*];done), by repeat (first|exact Drawn0.refl _|apply Drawn0.step)⟩
         ·rw [if_neg c12] at H
          have c12b0 : (x7_2 == a1) = false := beq_eq_false_iff_ne.mpr c12
          have c12b1 : (x7_2 != a1) = true := bne_iff_ne.mpr c12
          have H' := Aside0.mk H
          clear H
          go_wp2
          (try simp only [px_add0] at *)
          go_roundg k2
          case measure => have := HK1.out;have := HK2.out;omega
          case rel => exact ⟨(wrap64 (x12_1 + 1)), (by first|rfl|(simp;done)|(simp [*];done)), H', ⟨by have := HK1.out;have := HK2.out;omega⟩, by repeat (first|exact Drawn0.refl _|apply Drawn0.step)⟩
     ·rw [if_neg c5] at H
      exact absurd H (by simp)
    ·rw [if_neg c4] at H
     exact absurd H (by simp)
   ·rw [if_neg c3] at H
    have c3b0 : decide (x12_1 < (l0.length : Int)) = false := decide_eq_false c3
    clear c3
    obtain rfl := Option.some.inj H
    go_wp2
    go_ret
    exact ⟨by first|rfl|(simp;done)|(simp [*];done), by repeat (first|exact Drawn0.refl _|apply Drawn0.step)⟩

/-! ### pinfoldlaw35_CensusNumbers: function 7 -/
def pinfoldlaw35_CensusNumbers.l0 : Nat → List Int → List Int → Int → List Int → List Int → Int → Int → Option (Bool)
 | 0, _, _, _, _, _, _, _ => none
 | k + 1, x0, x1, x2, x7, x26, x27, x28 => if x28 < x27 then (if 0 ≤ x28 then (if x28 < (x26.length : Int) then ((pinfoldref35_Slot.f k (rd x26 x28) x1).bind fun t147 => (if 0 ≤ t147 then (if t147 < (x7.length : Int) then (pinfoldlaw35_CensusNumbers.l0 k x0 x1 x2 (x7.set (t147 : Int).toNat (wrap64 ((rd x7 t147) + 1))) x26 x27 (wrap64 (x28 + 1))) else (none)) else (none))) else (none)) else (none)) else ((census_Quantile.f x0 x2).bind fun bt150 => (if (x0.length : Int) = 0 then (if bt150.2 = true then (some false) else (if bt150.1 = 0 then ((census_Histogram.f k x0 x1).bind fun t152 => ((pinfoldref04_Same.f k t152 x7).bind fun t155 => (if t155 = true then ((pinfoldlaw35_lives.f k).bind fun t156 => (some t156)) else (some false)))) else (some false))) else (if bt150.2 = true then ((pinfoldref35_At.f k x0 (wrap64 (Int.tdiv (wrap64 ((mx 0 (mn x2 100)) * (wrap64 ((x0.length : Int) - 1)))) 100))).bind fun t157 => (if bt150.1 = t157 then ((census_Histogram.f k x0 x1).bind fun t158 => ((pinfoldref04_Same.f k t158 x7).bind fun t161 => (if t161 = true then ((pinfoldlaw35_lives.f k).bind fun t162 => (some t162)) else (some false)))) else (some false))) else (some false))))
def pinfoldlaw35_CensusNumbers.f (k : Nat) (l0 : List Int) (l1 : List Int) (a2 : Int) : Option (Bool) := if 0 ≤ (mn (l0.length : Int) 60) then (if (mn (l0.length : Int) 60) ≤ (l0.length : Int) then (if 0 ≤ (mn (l1.length : Int) 20) then (if (mn (l1.length : Int) 20) ≤ (l1.length : Int) then (if 0 ≤ (wrap64 (((l1.take ((mn (l1.length : Int) 20) : Int).toNat).length : Int) + 1)) then (if (wrap64 (((l1.take ((mn (l1.length : Int) 20) : Int).toNat).length : Int) + 1) : Int).toNat ≤ 35184372088832 then (pinfoldlaw35_CensusNumbers.l0 k (l0.take ((mn (l0.length : Int) 60) : Int).toNat) (l1.take ((mn (l1.length : Int) 20) : Int).toNat) a2 (List.replicate (wrap64 (((l1.take ((mn (l1.length : Int) 20) : Int).toNat).length : Int) + 1) : Int).toNat 0) (l0.take ((mn (l0.length : Int) 60) : Int).toNat) ((l0.take ((mn (l0.length : Int) 60) : Int).toNat).length : Int) 0) else (none)) else (none)) else (none)) else (none)) else (none)) else (none)
theorem pinfoldlaw35_CensusNumbers.mono_l : ∀ k, (∀ y0 y1 y2 y3 y4 y5 y6, LeO (pinfoldlaw35_CensusNumbers.l0 k y0 y1 y2 y3 y4 y5 y6) (pinfoldlaw35_CensusNumbers.l0 (k + 1) y0 y1 y2 y3 y4 y5 y6))
 | 0 => fun _ _ _ _ _ _ _ r h => by simp [pinfoldlaw35_CensusNumbers.l0] at h
 | k + 1 => by
  have ih0 := pinfoldlaw35_CensusNumbers.mono_l k
  ·intro y0 y1 y2 y3 y4 y5 y6
   unfold pinfoldlaw35_CensusNumbers.l0
   repeat' first
   | (with_reducible exact ih0 _ _ _ _ _ _ _)
   | (with_reducible exact census_Histogram.mono _ _ _)
   | (with_reducible exact pinfoldlaw35_lives.mono _)
   | (with_reducible exact pinfoldref04_Same.mono _ _ _)
   | (with_reducible exact pinfoldref35_At.mono _ _ _)
   | (with_reducible exact pinfoldref35_Slot.mono _ _ _)
   | (with_reducible exact LeO.refl _)
   | (with_reducible exact LeO.none _)
   | (with_reducible refine LeO.ite ?_ ?_)
   | (with_reducible refine LeO.bind ?_ (fun _ => ?_))
   | exact ih0 _ _ _ _ _ _ _
   | exact census_Histogram.mono _ _ _
   | exact pinfoldlaw35_lives.mono _
   | exact pinfoldref04_Same.mono _ _ _
   | exact pinfoldref35_At.mono _ _ _
   | exact pinfoldref35_Slot.mono _ _ _
   | exact LeO.none _
   | refine LeO.ite ?_ ?_
   | refine LeO.bind ?_ (fun _ => ?_)
theorem pinfoldlaw35_CensusNumbers.mono : ∀ a0 a1 a2 k, LeO (pinfoldlaw35_CensusNumbers.f k a0 a1 a2) (pinfoldlaw35_CensusNumbers.f (k + 1) a0 a1 a2) := by
 intro a0 a1 a2 k
 have ih0 := pinfoldlaw35_CensusNumbers.mono_l k
 unfold pinfoldlaw35_CensusNumbers.f
 repeat' first
   | (with_reducible exact ih0 _ _ _ _ _ _ _)
   | (with_reducible exact census_Histogram.mono _ _ _)
   | (with_reducible exact pinfoldlaw35_lives.mono _)
   | (with_reducible exact pinfoldref04_Same.mono _ _ _)
   | (with_reducible exact pinfoldref35_At.mono _ _ _)
   | (with_reducible exact pinfoldref35_Slot.mono _ _ _)
   | (with_reducible exact LeO.refl _)
   | (with_reducible exact LeO.none _)
   | (with_reducible refine LeO.ite ?_ ?_)
   | (with_reducible refine LeO.bind ?_ (fun _ => ?_))
   | exact ih0 _ _ _ _ _ _ _
   | exact census_Histogram.mono _ _ _
   | exact pinfoldlaw35_lives.mono _
   | exact pinfoldref04_Same.mono _ _ _
   | exact pinfoldref35_At.mono _ _ _
   | exact pinfoldref35_Slot.mono _ _ _
   | exact LeO.none _
   | refine LeO.ite ?_ ?_
   | refine LeO.bind ?_ (fun _ => ?_)
set_option maxHeartbeats 8000000 in
set_option maxRecDepth 100000 in
theorem pinfoldlaw35_CensusNumbers.calls (k : Nat) (A0 : Option Addr) (c0 : Nat) (l0 : List Int) (A1 : Option Addr) (c1 : Nat) (l1 : List Int) (a2 : Int) (r : Bool) (w : World) (hr0 : Kd.C (Kd.int .i64) w A0 l0.length l0) (hc0 : l0.length ≤ c0) (hr1 : Kd.C (Kd.int .i64) w A1 l1.length l1) (hc1 : l1.length ≤ c1) (h : pinfoldlaw35_CensusNumbers.f k l0 l1 a2 = some r) :
  Calls Try.prog 7 #[.slice A0 l0.length c0, .slice A1 l1.length c1, .int .i64 a2] w fun e w' => e = .returned (.bool r) ∧ Below w.heap.size w w' := by
 have HR0 := Aside0.mk hr0
 have HC0 := Aside0.mk hc0
 clear hr0 hc0
 have HR1 := Aside0.mk hr1
 have HC1 := Aside0.mk hc1
 clear hr1 hc1
 have HB := Aside0.mk (Below.refl w.heap.size w)
 have H : (if 0 ≤ (mn (l0.length : Int) 60) then (if (mn (l0.length : Int) 60) ≤ (l0.length : Int) then (if 0 ≤ (mn (l1.length : Int) 20) then (if (mn (l1.length : Int) 20) ≤ (l1.length : Int) then (if 0 ≤ (wrap64 (((l1.take ((mn (l1.length : Int) 20) : Int).toNat).length : Int) + 1)) then (if (wrap64 (((l1.take ((mn (l1.length : Int) 20) : Int).toNat).length : Int) + 1) : Int).toNat ≤ 35184372088832 then (pinfoldlaw35_CensusNumbers.l0 k (l0.take ((mn (l0.length : Int) 60) : Int).toNat) (l1.take ((mn (l1.length : Int) 20) : Int).toNat) a2 (List.replicate (wrap64 (((l1.take ((mn (l1.length : Int) 20) : Int).toNat).length : Int) + 1) : Int).toNat 0) (l0.take ((mn (l0.length : Int) 60) : Int).toNat) ((l0.take ((mn (l0.length : Int) 60) : Int).toNat).length : Int) 0) else (none)) else (none)) else (none)) else (none)) else (none)) else (none)) = some r := h
 clear h
 obtain ⟨ji4, hji4⟩ : ∃ j_ : Int, (mn (l0.length : Int) 60) = j_ := ⟨_, rfl⟩
 replace H : (if 0 ≤ (ji4) then (if (ji4) ≤ (l0.length : Int) then (if 0 ≤ (mn (l1.length : Int) 20) then (if (mn (l1.length : Int) 20) ≤ (l1.length : Int) then (if 0 ≤ (wrap64 (((l1.take ((mn (l1.length : Int) 20) : Int).toNat).length : Int) + 1)) then (if (wrap64 (((l1.take ((mn (l1.length : Int) 20) : Int).toNat).length : Int) + 1) : Int).toNat ≤ 35184372088832 then (pinfoldlaw35_CensusNumbers.l0 k (l0.take ((ji4) : Int).toNat) (l1.take ((mn (l1.length : Int) 20) : Int).toNat) a2 (List.replicate (wrap64 (((l1.take ((mn (l1.length : Int) 20) : Int).toNat).length : Int) + 1) : Int).toNat 0) (l0.take ((ji4) : Int).toNat) ((l0.take ((ji4) : Int).toNat).length : Int) 0) else (none)) else (none)) else (none)) else (none)) else (none)) else (none)) = some r := by first|(rw [hji4] at H;exact H)|(simp only [hji4] at H ⊢;exact H)
 (try (have hji4h : ji4 ≤ 60 := by (rw [← hji4];unfold mn;(repeat' split) <;> omega)))
 (try (have hji4g : ji4 ≤ 64 := by omega))
 (try (have hji4l : 0 ≤ ji4 := by (rw [← hji4];unfold mn;(repeat' split) <;> omega)))
 (try (have hji4m : 0 ≤ ji4 := by omega))
 have hji4_ : (if 60 < (l0.length : Int) then 60 else (l0.length : Int)) = ji4 := hji4
 by_cases c5 : 0 ≤ (ji4)
 ·rw [if_pos c5] at H
  have c5b0 := eq_true c5
  have c5b1 : decide (0 ≤ (ji4)) = true := decide_eq_true c5
  clear c5
  by_cases c6 : (ji4) ≤ (l0.length : Int)
  ·rw [if_pos c6] at H
   have c6b0 := eq_true c6
   have c6b1 : decide ((ji4) ≤ (l0.length : Int)) = true := decide_eq_true c6
   clear c6
   obtain ⟨ji7, hji7⟩ : ∃ j_ : Int, (mn (l1.length : Int) 20) = j_ := ⟨_, rfl⟩
   replace H : (if 0 ≤ (ji7) then (if (ji7) ≤ (l1.length : Int) then (if 0 ≤ (wrap64 (((l1.take ((ji7) : Int).toNat).length : Int) + 1)) then (if (wrap64 (((l1.take ((ji7) : Int).toNat).length : Int) + 1) : Int).toNat ≤ 35184372088832 then (pinfoldlaw35_CensusNumbers.l0 k (l0.take ((ji4) : Int).toNat) (l1.take ((ji7) : Int).toNat) a2 (List.replicate (wrap64 (((l1.take ((ji7) : Int).toNat).length : Int) + 1) : Int).toNat 0) (l0.take ((ji4) : Int).toNat) ((l0.take ((ji4) : Int).toNat).length : Int) 0) else (none)) else (none)) else (none)) else (none)) = some r := by first|(rw [hji7] at H;exact H)|(simp only [hji7] at H ⊢;exact H)
   (try (have hji7h : ji7 ≤ 20 := by (rw [← hji7];unfold mn;(repeat' split) <;> omega)))
   (try (have hji7g : ji7 ≤ 64 := by omega))
   (try (have hji7l : 0 ≤ ji7 := by (rw [← hji7];unfold mn;(repeat' split) <;> omega)))
   (try (have hji7m : 0 ≤ ji7 := by omega))
   have hji7_ : (if 20 < (l1.length : Int) then 20 else (l1.length : Int)) = ji7 := hji7
   by_cases c8 : 0 ≤ (ji7)
   ·rw [if_pos c8] at H
    have c8b0 := eq_true c8
    have c8b1 : decide (0 ≤ (ji7)) = true := decide_eq_true c8
    clear c8
    by_cases c9 : (ji7) ≤ (l1.length : Int)
    ·rw [if_pos c9] at H
     have c9b0 := eq_true c9
     have c9b1 : decide ((ji7) ≤ (l1.length : Int)) = true := decide_eq_true c9
     clear c9
     obtain ⟨ji10, hji10⟩ : ∃ j_ : Int, (wrap64 (((l1.take ((ji7) : Int).toNat).length : Int) + 1)) = j_ := ⟨_, rfl⟩
     replace H : (if 0 ≤ (ji10) then (if (ji10 : Int).toNat ≤ 35184372088832 then (pinfoldlaw35_CensusNumbers.l0 k (l0.take ((ji4) : Int).toNat) (l1.take ((ji7) : Int).toNat) a2 (List.replicate (ji10 : Int).toNat 0) (l0.take ((ji4) : Int).toNat) ((l0.take ((ji4) : Int).toNat).length : Int) 0) else (none)) else (none)) = some r := by first|(rw [hji10] at H;exact H)|(simp only [hji10] at H ⊢;exact H)
     have hji10w : (IntKind.i64.wrap (((l1.take ((ji7) : Int).toNat).length : Int) + 1)) = ji10 := (i64_w _).trans hji10
     by_cases c11 : 0 ≤ (ji10)
     ·rw [if_pos c11] at H
      have c11b0 := eq_true c11
      have c11b1 : decide (0 ≤ (ji10)) = true := decide_eq_true c11
      clear c11
      by_cases c12 : (ji10 : Int).toNat ≤ 35184372088832
      ·rw [if_pos c12] at H
       have c12b0 := eq_true c12
       have c12b1 : decide ((ji10 : Int).toNat ≤ 35184372088832) = true := decide_eq_true c12
       clear c12
       obtain ⟨y143, hy143⟩ : ∃ y_ : List Int, y_ = (List.replicate (ji10 : Int).toNat 0) := ⟨_, rfl⟩
       replace H : (pinfoldlaw35_CensusNumbers.l0 k (l0.take ((ji4) : Int).toNat) (l1.take ((ji7) : Int).toNat) a2 y143 (l0.take ((ji4) : Int).toNat) ((l0.take ((ji4) : Int).toNat).length : Int) 0) = some r := by first|(rw [hy143];with_reducible exact H)|(have H2_ := (Option.bind_some _ _).symm.trans H;rw [hy143];with_reducible exact H2_)|(have H2_ := (Option.bind_some _ _).symm.trans H;with_reducible exact H2_)|with_reducible exact H|(rw [hy143];exact H)|exact H
       have Ny143 := Aside0.mk hy143
       clear hy143
       have H' := Aside0.mk H
       clear H
       obtain ⟨i013, hi013, _, hsz13, _⟩ := info_parts info3
       obtain ⟨hcut13, hA13, hC13⟩ := print_take_of (P := Try.prog) (Value.int .i64) 0 29 3 .i64 Try.underlying29 hi013 hsz13 A0 c0 l0 (ji4) (of_decide_eq_true (by assumption)) (of_decide_eq_true (by assumption)) HC0.out
       have HR141 := Aside0.mk (Kd.C_of_reads (h1 := fun _ => rfl) (hA13 _ (Kd.reads_of_C HR0.out)))
       have HC141 := Aside0.mk hC13
       clear hA13 hC13 hi013 hsz13
       obtain ⟨i014, hi014, _, hsz14, _⟩ := info_parts info3
       obtain ⟨hcut14, hA14, hC14⟩ := print_take_of (P := Try.prog) (Value.int .i64) 0 29 3 .i64 Try.underlying29 hi014 hsz14 A1 c1 l1 (ji7) (of_decide_eq_true (by assumption)) (of_decide_eq_true (by assumption)) HC1.out
       have HR142 := Aside0.mk (Kd.C_of_reads (h1 := fun _ => rfl) (hA14 _ (Kd.reads_of_C HR1.out)))
       have HC142 := Aside0.mk hC14
       clear hA14 hC14 hi014 hsz14
       generalize List.take (ji4 : Int).toNat l0 = yL0 at *
       generalize List.take (ji7 : Int).toNat l1 = yL1 at *
       go_enter Try.func7, Try.ntmps7
       go_wp2_with (first|((with_reducible refine gate_dst (N := 25) rfl ?_);(try (refine gate_guard (by rfl) ?_;dsimp only));refine Kd.R_make (Kd.int .i64) _ 3 rfl (N := 25) rfl 29 _ _ rfl ji10 rfl rfl Try.underlying29 (.int .i64 0) 8 info3 rfl (by decide) (by omega) 0 (ok := fun _ => True) (okp := fun _ => True) rfl (fun _ hk => hk) trivial (of_decide_eq_true (by assumption)) (Nat.le_trans (Nat.mul_le_mul_right _ (of_decide_eq_true (by assumption) : ji10.toNat ≤ 35184372088832)) (by omega)) (Below.refl _ _) (Nat.le_refl _) ?_;intro v144 w15 ho16 hb hg_ hnew_;clear hg_ hnew_;(first|rw [← Ny143.out] at ho16|(simp only [Int.reduceToNat] at ho16;rw [← Ny143.out] at ho16));have n0_ := Aside0.mk (Kd.R_lower ho16 (below_size (by repeat (with_reducible first|exact HB.out|apply xa|apply xb|apply xc))));have n1_ := Aside0.mk (below_step (by repeat (with_reducible first|exact HB.out|apply xa|apply xb|apply xc)) hb);clear HB;have HO145 := n0_;have HB := n1_;clear n0_ n1_;clear hb ho16))
       repeat (go_quiet (first|((with_reducible refine gate_dst (N := 25) rfl ?_);(try (refine gate_guard (by rfl) ?_;dsimp only));refine Kd.R_make (Kd.int .i64) _ 3 rfl (N := 25) rfl 29 _ _ rfl ji10 rfl rfl Try.underlying29 (.int .i64 0) 8 info3 rfl (by decide) (by omega) 0 (ok := fun _ => True) (okp := fun _ => True) rfl (fun _ hk => hk) trivial (of_decide_eq_true (by assumption)) (Nat.le_trans (Nat.mul_le_mul_right _ (of_decide_eq_true (by assumption) : ji10.toNat ≤ 35184372088832)) (by omega)) (Below.refl _ _) (Nat.le_refl _) ?_;intro v144 w15 ho16 hb hg_ hnew_;clear hg_ hnew_;(first|rw [← Ny143.out] at ho16|(simp only [Int.reduceToNat] at ho16;rw [← Ny143.out] at ho16));have n0_ := Aside0.mk (Kd.R_lower ho16 (below_size (by repeat (with_reducible first|exact HB.out|apply xa|apply xb|apply xc))));have n1_ := Aside0.mk (below_step (by repeat (with_reducible first|exact HB.out|apply xa|apply xb|apply xc)) hb);clear HB;have HO145 := n0_;have HB := n1_;clear n0_ n1_;clear hb ho16));try go_wp2_with (first|((with_reducible refine gate_dst (N := 25) rfl ?_);(try (refine gate_guard (by rfl) ?_;dsimp only));refine Kd.R_make (Kd.int .i64) _ 3 rfl (N := 25) rfl 29 _ _ rfl ji10 rfl rfl Try.underlying29 (.int .i64 0) 8 info3 rfl (by decide) (by omega) 0 (ok := fun _ => True) (okp := fun _ => True) rfl (fun _ hk => hk) trivial (of_decide_eq_true (by assumption)) (Nat.le_trans (Nat.mul_le_mul_right _ (of_decide_eq_true (by assumption) : ji10.toNat ≤ 35184372088832)) (by omega)) (Below.refl _ _) (Nat.le_refl _) ?_;intro v144 w15 ho16 hb hg_ hnew_;clear hg_ hnew_;(first|rw [← Ny143.out] at ho16|(simp only [Int.reduceToNat] at ho16;rw [← Ny143.out] at ho16));have n0_ := Aside0.mk (Kd.R_lower ho16 (below_size (by repeat (with_reducible first|exact HB.out|apply xa|apply xb|apply xc))));have n1_ := Aside0.mk (below_step (by repeat (with_reducible first|exact HB.out|apply xa|apply xb|apply xc)) hb);clear HB;have HO145 := n0_;have HB := n1_;clear n0_ n1_;clear hb ho16)))
       go_loopg [28] k (fun kq v28 w' => ∃ (x7_1 : List Int) (x28_1 : Int), v28 = .int .i64 x28_1 ∧ Aside0 (pinfoldlaw35_CensusNumbers.l0 kq yL0 yL1 a2 x7_1 yL0 (yL0.length : Int) x28_1 = some r) ∧ Aside0 (kq ≤ k) ∧ Aside0 (Kd.R (Kd.int .i64) 3 w' w.heap.size (fun _ => True) v144 x7_1) ∧ Aside0 (Below w.heap.size w w'))
       case atStart => exact ⟨(y143), (0), (by first|rfl|(simp;done)|(simp [*];done)), H', ⟨Nat.le_refl _⟩, ⟨by (with_reducible repeat (first|apply Kd.R_alloc|apply Kd.R_drewN|apply Kd.R_drew));exact HO145.out⟩, ⟨by repeat (with_reducible first|exact HB.out|apply xa|apply xb|apply xc)⟩⟩
       case round =>
        clear H'
        try clear c1
        try clear p2
        try clear c5
        try clear c5b0
        try clear c5b1
        try clear c6
        try clear c6b0
        try clear c6b1
        try clear p6
        try clear c7
        try clear c8
        try clear c8b0
        try clear c8b1
        try clear c9
        try clear c9b0
        try clear c9b1
        try clear c11
        try clear c11b0
        try clear c11b1
        try clear c12
        try clear c12b0
        try clear c12b1
        obtain ⟨x7_1, x28_1, rfl, HA, HK1, HO_7, HB⟩ := hrel
        cases gk with
        | zero => exact absurd HA.out (by simp [pinfoldlaw35_CensusNumbers.l0])
        | succ k1 =>
         have H := HA.out
         clear HA
         simp only [pinfoldlaw35_CensusNumbers.l0] at H
         by_cases c17 : x28_1 < (yL0.length : Int)
         ·rw [if_pos c17] at H
          have c17b0 : decide (x28_1 < (yL0.length : Int)) = true := decide_eq_true c17
          clear c17
          by_cases c18 : 0 ≤ x28_1
          ·rw [if_pos c18] at H
           have c18b0 : decide (0 ≤ x28_1) = true := decide_eq_true c18
           clear c18
           by_cases c19 : x28_1 < (yL0.length : Int)
           ·rw [if_pos c19] at H
            have c19b0 : decide (x28_1 < (yL0.length : Int)) = true := decide_eq_true c19
            clear c19
            replace H := Option.bind_eq_some_iff.mp H
            obtain ⟨t147, A200, H⟩ := H
            replace H : (if 0 ≤ t147 then (if t147 < (x7_1.length : Int) then (pinfoldlaw35_CensusNumbers.l0 k1 yL0 yL1 a2 (x7_1.set (t147 : Int).toNat (wrap64 ((rd x7_1 t147) + 1))) yL0 (yL0.length : Int) (wrap64 (x28_1 + 1))) else (none)) else (none)) = some r := H
            have A20 := Aside0.mk A200
            clear A200
            by_cases c21 : 0 ≤ t147
            ·rw [if_pos c21] at H
             have c21b0 : decide (0 ≤ t147) = true := decide_eq_true c21
             clear c21
             by_cases c22 : t147 < (x7_1.length : Int)
             ·rw [if_pos c22] at H
              have c22b0 : decide (t147 < (x7_1.length : Int)) = true := decide_eq_true c22
              clear c22
              obtain ⟨y149, hy149⟩ : ∃ y_ : List Int, y_ = (x7_1.set (t147 : Int).toNat (wrap64 ((rd x7_1 t147) + 1))) := ⟨_, rfl⟩
              replace H : (pinfoldlaw35_CensusNumbers.l0 k1 yL0 yL1 a2 y149 yL0 (yL0.length : Int) (wrap64 (x28_1 + 1))) = some r := by first|(rw [hy149];with_reducible exact H)|(have H2_ := (Option.bind_some _ _).symm.trans H;rw [hy149];with_reducible exact H2_)|(have H2_ := (Option.bind_some _ _).symm.trans H;with_reducible exact H2_)|with_reducible exact H|(rw [hy149];exact H)|exact H
              have Ny149 := Aside0.mk hy149
              clear hy149
              have H' := Aside0.mk H
              clear H
              have p146 : 0 ≤ (x28_1 : Int) := of_decide_eq_true (by assumption)
              have q146 : x28_1 < (yL0.length : Int) := of_decide_eq_true (by assumption)
              obtain ⟨ad146, e146, hx146_0⟩ := Kd.at_int HR141.out x28_1 p146 q146
              cases e146
              replace hx146_0 := (HB.out.cell (World.block_lt_of_cell? w _ hx146_0)).trans hx146_0
              replace p146 := eq_true p146
              replace q146 := eq_true q146
              go_wp2_with (first|(go_at_call 36;(with_reducible refine (pinfoldref35_Slot.calls k1 (rd yL0 x28_1) _ _ yL1 t147 _ ?side1 ?side2 A20.out).mono ?_);(case side1 => repeat (first|exact (Kd.C_below HR142.out HB.out)|(with_reducible refine Kd.C_alloc ?_ _)|(with_reducible refine Kd.C_drewN ?_ _)|(with_reducible refine Kd.C_drew ?_)));(case side2 => exact HC142.out);rintro e w' ⟨rfl, ⟨nd, rfl⟩⟩;(try first|exact ⟨rfl, _, World.drewN_drewN _ _ _⟩|exact ⟨rfl, _, Eq.trans (World.drewN_drewN _ _ _) (congrArg (World.drewN _) (Nat.add_assoc _ _ _))⟩);obtain ⟨Ao24, co24, eo24⟩ := Kd.R_slice HO_7.out;subst eo24;have p148 : 0 ≤ (t147 : Int) := of_decide_eq_true (by assumption);have q148 : t147 < (x7_1.length : Int) := of_decide_eq_true (by assumption);obtain ⟨ad148, e148, hx148_0⟩ := Kd.at_int (Kd.R_reads' HO_7.out).2.2 t147 p148 q148;cases e148;replace p148 := eq_true p148;replace q148 := eq_true q148;have p23 : 0 ≤ (t147 : Int) := of_decide_eq_true (by assumption);have q23 : (t147 : Int) < ((x7_1.length : Int) : Int) := of_decide_eq_true (by assumption);obtain ⟨go23, co23, eo23, gb23, gl23, cl23, HG23⟩ := Kd.R_form HO_7.out (by omega);(first|cases eo23|(injection eo23 with ea_ en_ ec_;(first|subst ea_|(injection ea_ with ea_;subst ea_));subst ec_;clear en_));have GB23 := Aside0.mk gb23;have GG23 := Aside0.mk HG23;clear gb23 gl23 HG23;(first|simp only [add_plain] at hx148_0|skip);obtain ⟨hx23_0, hf23_0⟩ := Kd.R_celln 0 HO_7.out (t147 : Int) p23 q23;replace p23 := eq_true p23;replace q23 := eq_true q23;obtain ⟨hy25_, hz25_⟩ := Kd.R_celln 0 HO_7.out (t147 : Int) (of_decide_eq_true (by assumption)) (of_decide_eq_true (by assumption));have HP25 := Kd.R_putg HO_7.out (t147 : Int) (wrap64 ((rd x7_1 t147) + 1)))|((with_reducible refine gate_store (t := 3) (p := 39) rfl ?_);(try (rw [drewN_self wr];generalize hq_ : World.drewN wr _ = wr;have n0_ := Aside0.mk (Kd.R_at hq_ HO_7.out);have n1_ := Aside0.mk (below_at hq_ HB.out);clear hq_ HO_7 HB;have HO_7 := n0_;have HB := n1_;clear n0_ n1_;(try (obtain ⟨hy25_, hz25_⟩ := Kd.R_celln 0 HO_7.out (t147 : Int) (of_decide_eq_true (by assumption)) (of_decide_eq_true (by assumption))));(try (have HP25 := Kd.R_putg HO_7.out (t147 : Int) (wrap64 ((rd x7_1 t147) + 1))))));refine store_event (t := 3) (p := 39) (v := ?vo_w26) (w1 := (wr.setCell ⟨go23, (t147 : Int).toNat, none⟩ (.int .i64 (wrap64 ((rd x7_1 t147) + 1))))) ?hg ?ho ?hn ?hr ?_;(case ho => rfl);(case hg => rfl);(case hn => rfl);(case hr => first|(go_simp;done)|(go_simp;rfl));intro w26 hw;have hg : wr.grownBy w26 (some go23) := (by rw [hw];exact HP25.2);have hp_ : Kd.R (Kd.int .i64) 3 w26 w.heap.size (fun _ => True) (.slice (some ⟨go23, 0, none⟩) x7_1.length co24) y149 := (by rw [hw, Ny149.out];exact HP25.1);clear HP25;have n0_ := Aside0.mk (hp_);have n1_ := Aside0.mk ((by rw [hw];exact below_set (HB.out) GB23.out : Below w.heap.size w w26));clear HO_7;clear HB;have HO_7 := n0_;have HB := n1_;clear n0_ n1_;clear hg hw hp_))
              repeat (go_quiet (first|(go_at_call 36;(with_reducible refine (pinfoldref35_Slot.calls k1 (rd yL0 x28_1) _ _ yL1 t147 _ ?side1 ?side2 A20.out).mono ?_);(case side1 => repeat (first|exact (Kd.C_below HR142.out HB.out)|(with_reducible refine Kd.C_alloc ?_ _)|(with_reducible refine Kd.C_drewN ?_ _)|(with_reducible refine Kd.C_drew ?_)));(case side2 => exact HC142.out);rintro e w' ⟨rfl, ⟨nd, rfl⟩⟩;(try first|exact ⟨rfl, _, World.drewN_drewN _ _ _⟩|exact ⟨rfl, _, Eq.trans (World.drewN_drewN _ _ _) (congrArg (World.drewN _) (Nat.add_assoc _ _ _))⟩);obtain ⟨Ao24, co24, eo24⟩ := Kd.R_slice HO_7.out;subst eo24;have p148 : 0 ≤ (t147 : Int) := of_decide_eq_true (by assumption);have q148 : t147 < (x7_1.length : Int) := of_decide_eq_true (by assumption);obtain ⟨ad148, e148, hx148_0⟩ := Kd.at_int (Kd.R_reads' HO_7.out).2.2 t147 p148 q148;cases e148;replace p148 := eq_true p148;replace q148 := eq_true q148;have p23 : 0 ≤ (t147 : Int) := of_decide_eq_true (by assumption);have q23 : (t147 : Int) < ((x7_1.length : Int) : Int) := of_decide_eq_true (by assumption);obtain ⟨go23, co23, eo23, gb23, gl23, cl23, HG23⟩ := Kd.R_form HO_7.out (by omega);(first|cases eo23|(injection eo23 with ea_ en_ ec_;(first|subst ea_|(injection ea_ with ea_;subst ea_));subst ec_;clear en_));have GB23 := Aside0.mk gb23;have GG23 := Aside0.mk HG23;clear gb23 gl23 HG23;(first|simp only [add_plain] at hx148_0|skip);obtain ⟨hx23_0, hf23_0⟩ := Kd.R_celln 0 HO_7.out (t147 : Int) p23 q23;replace p23 := eq_true p23;replace q23 := eq_true q23;obtain ⟨hy25_, hz25_⟩ := Kd.R_celln 0 HO_7.out (t147 : Int) (of_decide_eq_true (by assumption)) (of_decide_eq_true (by assumption));have HP25 := Kd.R_putg HO_7.out (t147 : Int) (wrap64 ((rd x7_1 t147) + 1)))|((with_reducible refine gate_store (t := 3) (p := 39) rfl ?_);(try (rw [drewN_self wr];generalize hq_ : World.drewN wr _ = wr;have n0_ := Aside0.mk (Kd.R_at hq_ HO_7.out);have n1_ := Aside0.mk (below_at hq_ HB.out);clear hq_ HO_7 HB;have HO_7 := n0_;have HB := n1_;clear n0_ n1_;(try (obtain ⟨hy25_, hz25_⟩ := Kd.R_celln 0 HO_7.out (t147 : Int) (of_decide_eq_true (by assumption)) (of_decide_eq_true (by assumption))));(try (have HP25 := Kd.R_putg HO_7.out (t147 : Int) (wrap64 ((rd x7_1 t147) + 1))))));refine store_event (t := 3) (p := 39) (v := ?vo_w26) (w1 := (wr.setCell ⟨go23, (t147 : Int).toNat, none⟩ (.int .i64 (wrap64 ((rd x7_1 t147) + 1))))) ?hg ?ho ?hn ?hr ?_;(case ho => rfl);(case hg => rfl);(case hn => rfl);(case hr => first|(go_simp;done)|(go_simp;rfl));intro w26 hw;have hg : wr.grownBy w26 (some go23) := (by rw [hw];exact HP25.2);have hp_ : Kd.R (Kd.int .i64) 3 w26 w.heap.size (fun _ => True) (.slice (some ⟨go23, 0, none⟩) x7_1.length co24) y149 := (by rw [hw, Ny149.out];exact HP25.1);clear HP25;have n0_ := Aside0.mk (hp_);have n1_ := Aside0.mk ((by rw [hw];exact below_set (HB.out) GB23.out : Below w.heap.size w w26));clear HO_7;clear HB;have HO_7 := n0_;have HB := n1_;clear n0_ n1_;clear hg hw hp_));try go_wp2_with (first|(go_at_call 36;(with_reducible refine (pinfoldref35_Slot.calls k1 (rd yL0 x28_1) _ _ yL1 t147 _ ?side1 ?side2 A20.out).mono ?_);(case side1 => repeat (first|exact (Kd.C_below HR142.out HB.out)|(with_reducible refine Kd.C_alloc ?_ _)|(with_reducible refine Kd.C_drewN ?_ _)|(with_reducible refine Kd.C_drew ?_)));(case side2 => exact HC142.out);rintro e w' ⟨rfl, ⟨nd, rfl⟩⟩;(try first|exact ⟨rfl, _, World.drewN_drewN _ _ _⟩|exact ⟨rfl, _, Eq.trans (World.drewN_drewN _ _ _) (congrArg (World.drewN _) (Nat.add_assoc _ _ _))⟩);obtain ⟨Ao24, co24, eo24⟩ := Kd.R_slice HO_7.out;subst eo24;have p148 : 0 ≤ (t147 : Int) := of_decide_eq_true (by assumption);have q148 : t147 < (x7_1.length : Int) := of_decide_eq_true (by assumption);obtain ⟨ad148, e148, hx148_0⟩ := Kd.at_int (Kd.R_reads' HO_7.out).2.2 t147 p148 q148;cases e148;replace p148 := eq_true p148;replace q148 := eq_true q148;have p23 : 0 ≤ (t147 : Int) := of_decide_eq_true (by assumption);have q23 : (t147 : Int) < ((x7_1.length : Int) : Int) := of_decide_eq_true (by assumption);obtain ⟨go23, co23, eo23, gb23, gl23, cl23, HG23⟩ := Kd.R_form HO_7.out (by omega);(first|cases eo23|(injection eo23 with ea_ en_ ec_;(first|subst ea_|(injection ea_ with ea_;subst ea_));subst ec_;clear en_));have GB23 := Aside0.mk gb23;have GG23 := Aside0.mk HG23;clear gb23 gl23 HG23;(first|simp only [add_plain] at hx148_0|skip);obtain ⟨hx23_0, hf23_0⟩ := Kd.R_celln 0 HO_7.out (t147 : Int) p23 q23;replace p23 := eq_true p23;replace q23 := eq_true q23;obtain ⟨hy25_, hz25_⟩ := Kd.R_celln 0 HO_7.out (t147 : Int) (of_decide_eq_true (by assumption)) (of_decide_eq_true (by assumption));have HP25 := Kd.R_putg HO_7.out (t147 : Int) (wrap64 ((rd x7_1 t147) + 1)))|((with_reducible refine gate_store (t := 3) (p := 39) rfl ?_);(try (rw [drewN_self wr];generalize hq_ : World.drewN wr _ = wr;have n0_ := Aside0.mk (Kd.R_at hq_ HO_7.out);have n1_ := Aside0.mk (below_at hq_ HB.out);clear hq_ HO_7 HB;have HO_7 := n0_;have HB := n1_;clear n0_ n1_;(try (obtain ⟨hy25_, hz25_⟩ := Kd.R_celln 0 HO_7.out (t147 : Int) (of_decide_eq_true (by assumption)) (of_decide_eq_true (by assumption))));(try (have HP25 := Kd.R_putg HO_7.out (t147 : Int) (wrap64 ((rd x7_1 t147) + 1))))));refine store_event (t := 3) (p := 39) (v := ?vo_w26) (w1 := (wr.setCell ⟨go23, (t147 : Int).toNat, none⟩ (.int .i64 (wrap64 ((rd x7_1 t147) + 1))))) ?hg ?ho ?hn ?hr ?_;(case ho => rfl);(case hg => rfl);(case hn => rfl);(case hr => first|(go_simp;done)|(go_simp;rfl));intro w26 hw;have hg : wr.grownBy w26 (some go23) := (by rw [hw];exact HP25.2);have hp_ : Kd.R (Kd.int .i64) 3 w26 w.heap.size (fun _ => True) (.slice (some ⟨go23, 0, none⟩) x7_1.length co24) y149 := (by rw [hw, Ny149.out];exact HP25.1);clear HP25;have n0_ := Aside0.mk (hp_);have n1_ := Aside0.mk ((by rw [hw];exact below_set (HB.out) GB23.out : Below w.heap.size w w26));clear HO_7;clear HB;have HO_7 := n0_;have HB := n1_;clear n0_ n1_;clear hg hw hp_)))
              (try simp only [px_add0] at *)
              go_roundg k1
              case measure => have := HK1.out;omega
              case rel => exact ⟨(y149), (wrap64 (x28_1 + 1)), (by first|rfl|(simp;done)|(simp [*];done)), H', ⟨by have := HK1.out;omega⟩, ⟨by (with_reducible repeat (first|apply Kd.R_alloc|apply Kd.R_drewN|apply Kd.R_drew));exact HO_7.out⟩, ⟨by repeat (with_reducible first|exact HB.out|apply xa|apply xb|apply xc)⟩⟩
             ·rw [if_neg c22] at H
              exact absurd H (by simp)
            ·rw [if_neg c21] at H
             exact absurd H (by simp)
           ·rw [if_neg c19] at H
            exact absurd H (by simp)
          ·rw [if_neg c18] at H
           exact absurd H (by simp)
         ·rw [if_neg c17] at H
          have c17b0 : decide (x28_1 < (yL0.length : Int)) = false := decide_eq_false c17
          clear c17
          replace H := Option.bind_eq_some_iff.mp H
          obtain ⟨⟨t150, t151⟩, A270, H⟩ := H
          replace H : (if (yL0.length : Int) = 0 then (if t151 = true then (some false) else (if t150 = 0 then ((census_Histogram.f k1 yL0 yL1).bind fun t152 => ((pinfoldref04_Same.f k1 t152 x7_1).bind fun t155 => (if t155 = true then ((pinfoldlaw35_lives.f k1).bind fun t156 => (some t156)) else (some false)))) else (some false))) else (if t151 = true then ((pinfoldref35_At.f k1 yL0 (wrap64 (Int.tdiv (wrap64 ((mx 0 (mn a2 100)) * (wrap64 ((yL0.length : Int) - 1)))) 100))).bind fun t157 => (if t150 = t157 then ((census_Histogram.f k1 yL0 yL1).bind fun t158 => ((pinfoldref04_Same.f k1 t158 x7_1).bind fun t161 => (if t161 = true then ((pinfoldlaw35_lives.f k1).bind fun t162 => (some t162)) else (some false)))) else (some false))) else (some false))) = some r := H
          have A27 := Aside0.mk A270
          clear A270
          by_cases c28 : (yL0.length : Int) = 0
          ·rw [if_pos c28] at H
           have c28b0 : ((yL0.length : Int) == 0) = true := beq_iff_eq.mpr c28
           have c28b1 : ((yL0.length : Int) != 0) = false := bne_eq_false_iff_eq.mpr c28
           clear c28
           by_cases c29 : t151 = true
           ·subst c29
            have H1 : (some false) = some r := by rw [if_pos rfl] at H;exact H
            clear H
            have H := H1
            clear H1
            obtain rfl := Option.some.inj H
            go_wp2_with (first|(go_at_call 37;(with_reducible refine (census_Quantile.calls _ _ yL0 a2 t150 true _ ?side1 ?side2 A27.out).mono ?_);(case side1 => repeat (first|exact (Kd.C_below HR141.out HB.out)|(with_reducible refine Kd.C_alloc ?_ _)|(with_reducible refine Kd.C_drewN ?_ _)|(with_reducible refine Kd.C_drew ?_)));(case side2 => exact HC141.out);rintro e w30 ⟨rfl, hb⟩;have n0_ := Aside0.mk (Kd.R_below (by (with_reducible repeat (first|apply Kd.R_alloc|apply Kd.R_drewN|apply Kd.R_drew));exact HO_7.out) hb);have n1_ := Aside0.mk (below_step (by repeat (with_reducible first|exact HB.out|apply xa|apply xb|apply xc)) hb);clear HO_7;clear HB;have HO_7 := n0_;have HB := n1_;clear n0_ n1_;(try clear hb);(try clear hb2);(try clear hk);(try clear hi)))
            repeat (go_quiet (first|(go_at_call 37;(with_reducible refine (census_Quantile.calls _ _ yL0 a2 t150 true _ ?side1 ?side2 A27.out).mono ?_);(case side1 => repeat (first|exact (Kd.C_below HR141.out HB.out)|(with_reducible refine Kd.C_alloc ?_ _)|(with_reducible refine Kd.C_drewN ?_ _)|(with_reducible refine Kd.C_drew ?_)));(case side2 => exact HC141.out);rintro e w30 ⟨rfl, hb⟩;have n0_ := Aside0.mk (Kd.R_below (by (with_reducible repeat (first|apply Kd.R_alloc|apply Kd.R_drewN|apply Kd.R_drew));exact HO_7.out) hb);have n1_ := Aside0.mk (below_step (by repeat (with_reducible first|exact HB.out|apply xa|apply xb|apply xc)) hb);clear HO_7;clear HB;have HO_7 := n0_;have HB := n1_;clear n0_ n1_;(try clear hb);(try clear hb2);(try clear hk);(try clear hi)));try go_wp2_with (first|(go_at_call 37;(with_reducible refine (census_Quantile.calls _ _ yL0 a2 t150 true _ ?side1 ?side2 A27.out).mono ?_);(case side1 => repeat (first|exact (Kd.C_below HR141.out HB.out)|(with_reducible refine Kd.C_alloc ?_ _)|(with_reducible refine Kd.C_drewN ?_ _)|(with_reducible refine Kd.C_drew ?_)));(case side2 => exact HC141.out);rintro e w30 ⟨rfl, hb⟩;have n0_ := Aside0.mk (Kd.R_below (by (with_reducible repeat (first|apply Kd.R_alloc|apply Kd.R_drewN|apply Kd.R_drew));exact HO_7.out) hb);have n1_ := Aside0.mk (below_step (by repeat (with_reducible first|exact HB.out|apply xa|apply xb|apply xc)) hb);clear HO_7;clear HB;have HO_7 := n0_;have HB := n1_;clear n0_ n1_;(try clear hb);(try clear hb2);(try clear hk);(try clear hi))))
            go_ret
            exact ⟨by first|rfl|(simp [errW_none, errW_some] <;> rfl)|(simp only [← hji4, ← hji7, ← hji10];first|rfl|(simp [errW_none, errW_some] <;> rfl))|(simp [*, errW_none, errW_some] <;> rfl), by repeat (with_reducible first|exact HB.out|apply xa|apply xb|apply xc)⟩
           ·replace c29 := Bool.eq_false_iff.mpr c29
            subst c29
            have H1 : (if t150 = 0 then ((census_Histogram.f k1 yL0 yL1).bind fun t152 => ((pinfoldref04_Same.f k1 t152 x7_1).bind fun t155 => (if t155 = true then ((pinfoldlaw35_lives.f k1).bind fun t156 => (some t156)) else (some false)))) else (some false)) = some r := by rw [if_neg (show ¬ (false = true) by decide)] at H;exact H
            clear H
            have H := H1
            clear H1
            by_cases c31 : t150 = 0
            ·rw [if_pos c31] at H
             have c31b0 : (t150 == 0) = true := beq_iff_eq.mpr c31
             have c31b1 : (t150 != 0) = false := bne_eq_false_iff_eq.mpr c31
             clear c31
             replace H := Option.bind_eq_some_iff.mp H
             obtain ⟨t152, A320, H⟩ := H
             replace H : ((pinfoldref04_Same.f k1 t152 x7_1).bind fun t155 => (if t155 = true then ((pinfoldlaw35_lives.f k1).bind fun t156 => (some t156)) else (some false))) = some r := H
             have A32 := Aside0.mk A320
             clear A320
             replace H := Option.bind_eq_some_iff.mp H
             obtain ⟨t155, A330, H⟩ := H
             replace H : (if t155 = true then ((pinfoldlaw35_lives.f k1).bind fun t156 => (some t156)) else (some false)) = some r := H
             have A33 := Aside0.mk A330
             clear A330
             by_cases c34 : t155 = true
             ·subst c34
              have H1 : ((pinfoldlaw35_lives.f k1).bind fun t156 => (some t156)) = some r := by rw [if_pos rfl] at H;exact H
              clear H
              have H := H1
              clear H1
              replace H := Option.bind_eq_some_iff.mp H
              obtain ⟨t156, A350, H⟩ := H
              replace H : (some t156) = some r := H
              have A35 := Aside0.mk A350
              clear A350
              obtain rfl := Option.some.inj H
              go_wp2_with (first|(go_at_call 37;(with_reducible refine (census_Quantile.calls _ _ yL0 a2 t150 false _ ?side1 ?side2 A27.out).mono ?_);(case side1 => repeat (first|exact (Kd.C_below HR141.out HB.out)|(with_reducible refine Kd.C_alloc ?_ _)|(with_reducible refine Kd.C_drewN ?_ _)|(with_reducible refine Kd.C_drew ?_)));(case side2 => exact HC141.out);rintro e w36 ⟨rfl, hb⟩;have n0_ := Aside0.mk (Kd.R_below (by (with_reducible repeat (first|apply Kd.R_alloc|apply Kd.R_drewN|apply Kd.R_drew));exact HO_7.out) hb);have n1_ := Aside0.mk (below_step (by repeat (with_reducible first|exact HB.out|apply xa|apply xb|apply xc)) hb);clear HO_7;clear HB;have HO_7 := n0_;have HB := n1_;clear n0_ n1_;(try clear hb);(try clear hb2);(try clear hk);(try clear hi))|(go_at_call 38;(with_reducible refine (census_Histogram.calls k1 _ _ yL0 _ _ yL1 t152 _ ?side1 ?side2 ?side3 ?side4 A32.out).mono ?_);(case side1 => repeat (first|exact (Kd.C_below HR141.out HB.out)|(with_reducible refine Kd.C_alloc ?_ _)|(with_reducible refine Kd.C_drewN ?_ _)|(with_reducible refine Kd.C_drew ?_)));(case side2 => exact HC141.out);(case side3 => repeat (first|exact (Kd.C_below HR142.out HB.out)|(with_reducible refine Kd.C_alloc ?_ _)|(with_reducible refine Kd.C_drewN ?_ _)|(with_reducible refine Kd.C_drew ?_)));(case side4 => exact HC142.out);rintro e w37 ⟨v153, rfl, ho0, hb⟩;have n0_ := Aside0.mk (Kd.R_elder' (by (with_reducible repeat (first|apply Kd.R_alloc|apply Kd.R_drewN|apply Kd.R_drew));exact HO_7.out) (Kd.R_base ho0) hb);have n1_ := Aside0.mk (Kd.R_lower (Kd.R_new' ho0 (Kd.R_lt (by (with_reducible repeat (first|apply Kd.R_alloc|apply Kd.R_drewN|apply Kd.R_drew));exact HO_7.out))) (below_size (by repeat (with_reducible first|exact HB.out|apply xa|apply xb|apply xc))));have n2_ := Aside0.mk (below_step (by repeat (with_reducible first|exact HB.out|apply xa|apply xb|apply xc)) hb);clear HO_7;clear HB;have HO_7 := n0_;have HO154 := n1_;have HB := n2_;clear n0_ n1_ n2_;(try clear hb);(try clear hb2);(try clear hk);(try clear hi);(try clear ho0);obtain ⟨Ao38, co38, eo38⟩ := Kd.R_slice HO154.out;subst eo38;obtain ⟨Ao39, co39, eo39⟩ := Kd.R_slice HO_7.out;subst eo39)|(go_at_call 21;(with_reducible refine (pinfoldref04_Same.calls k1 _ _ t152 _ _ x7_1 true _ ?side1 ?side2 ?side3 ?side4 A33.out).mono ?_);(case side1 => repeat (first|exact (Kd.R_reads' HO154.out).2.2|(with_reducible refine Kd.C_alloc ?_ _)|(with_reducible refine Kd.C_drewN ?_ _)|(with_reducible refine Kd.C_drew ?_)));(case side2 => exact (Kd.R_reads' HO154.out).2.1);(case side3 => repeat (first|exact (Kd.R_reads' HO_7.out).2.2|(with_reducible refine Kd.C_alloc ?_ _)|(with_reducible refine Kd.C_drewN ?_ _)|(with_reducible refine Kd.C_drew ?_)));(case side4 => exact (Kd.R_reads' HO_7.out).2.1);rintro e w' ⟨rfl, ⟨nd, rfl⟩⟩;(try first|exact ⟨rfl, _, World.drewN_drewN _ _ _⟩|exact ⟨rfl, _, Eq.trans (World.drewN_drewN _ _ _) (congrArg (World.drewN _) (Nat.add_assoc _ _ _))⟩))|(go_at_call 39;(with_reducible refine (pinfoldlaw35_lives.calls k1  t156 _ A35.out).mono ?_);rintro e w40 ⟨rfl, hb⟩;have n0_ := Aside0.mk (Kd.R_below (by (with_reducible repeat (first|apply Kd.R_alloc|apply Kd.R_drewN|apply Kd.R_drew));exact HO_7.out) hb);have n1_ := Aside0.mk (Kd.R_below (by (with_reducible repeat (first|apply Kd.R_alloc|apply Kd.R_drewN|apply Kd.R_drew));exact HO154.out) hb);have n2_ := Aside0.mk (below_step (by repeat (with_reducible first|exact HB.out|apply xa|apply xb|apply xc)) hb);clear HO_7;clear HO154;clear HB;have HO_7 := n0_;have HO154 := n1_;have HB := n2_;clear n0_ n1_ n2_;(try clear hb);(try clear hb2);(try clear hk);(try clear hi)))
              repeat (go_quiet (first|(go_at_call 37;(with_reducible refine (census_Quantile.calls _ _ yL0 a2 t150 false _ ?side1 ?side2 A27.out).mono ?_);(case side1 => repeat (first|exact (Kd.C_below HR141.out HB.out)|(with_reducible refine Kd.C_alloc ?_ _)|(with_reducible refine Kd.C_drewN ?_ _)|(with_reducible refine Kd.C_drew ?_)));(case side2 => exact HC141.out);rintro e w36 ⟨rfl, hb⟩;have n0_ := Aside0.mk (Kd.R_below (by (with_reducible repeat (first|apply Kd.R_alloc|apply Kd.R_drewN|apply Kd.R_drew));exact HO_7.out) hb);have n1_ := Aside0.mk (below_step (by repeat (with_reducible first|exact HB.out|apply xa|apply xb|apply xc)) hb);clear HO_7;clear HB;have HO_7 := n0_;have HB := n1_;clear n0_ n1_;(try clear hb);(try clear hb2);(try clear hk);(try clear hi))|(go_at_call 38;(with_reducible refine (census_Histogram.calls k1 _ _ yL0 _ _ yL1 t152 _ ?side1 ?side2 ?side3 ?side4 A32.out).mono ?_);(case side1 => repeat (first|exact (Kd.C_below HR141.out HB.out)|(with_reducible refine Kd.C_alloc ?_ _)|(with_reducible refine Kd.C_drewN ?_ _)|(with_reducible refine Kd.C_drew ?_)));(case side2 => exact HC141.out);(case side3 => repeat (first|exact (Kd.C_below HR142.out HB.out)|(with_reducible refine Kd.C_alloc ?_ _)|(with_reducible refine Kd.C_drewN ?_ _)|(with_reducible refine Kd.C_drew ?_)));(case side4 => exact HC142.out);rintro e w37 ⟨v153, rfl, ho0, hb⟩;have n0_ := Aside0.mk (Kd.R_elder' (by (with_reducible repeat (first|apply Kd.R_alloc|apply Kd.R_drewN|apply Kd.R_drew));exact HO_7.out) (Kd.R_base ho0) hb);have n1_ := Aside0.mk (Kd.R_lower (Kd.R_new' ho0 (Kd.R_lt (by (with_reducible repeat (first|apply Kd.R_alloc|apply Kd.R_drewN|apply Kd.R_drew));exact HO_7.out))) (below_size (by repeat (with_reducible first|exact HB.out|apply xa|apply xb|apply xc))));have n2_ := Aside0.mk (below_step (by repeat (with_reducible first|exact HB.out|apply xa|apply xb|apply xc)) hb);clear HO_7;clear HB;have HO_7 := n0_;have HO154 := n1_;have HB := n2_;clear n0_ n1_ n2_;(try clear hb);(try clear hb2);(try clear hk);(try clear hi);(try clear ho0);obtain ⟨Ao38, co38, eo38⟩ := Kd.R_slice HO154.out;subst eo38;obtain ⟨Ao39, co39, eo39⟩ := Kd.R_slice HO_7.out;subst eo39)|(go_at_call 21;(with_reducible refine (pinfoldref04_Same.calls k1 _ _ t152 _ _ x7_1 true _ ?side1 ?side2 ?side3 ?side4 A33.out).mono ?_);(case side1 => repeat (first|exact (Kd.R_reads' HO154.out).2.2|(with_reducible refine Kd.C_alloc ?_ _)|(with_reducible refine Kd.C_drewN ?_ _)|(with_reducible refine Kd.C_drew ?_)));(case side2 => exact (Kd.R_reads' HO154.out).2.1);(case side3 => repeat (first|exact (Kd.R_reads' HO_7.out).2.2|(with_reducible refine Kd.C_alloc ?_ _)|(with_reducible refine Kd.C_drewN ?_ _)|(with_reducible refine Kd.C_drew ?_)));(case side4 => exact (Kd.R_reads' HO_7.out).2.1);rintro e w' ⟨rfl, ⟨nd, rfl⟩⟩;(try first|exact ⟨rfl, _, World.drewN_drewN _ _ _⟩|exact ⟨rfl, _, Eq.trans (World.drewN_drewN _ _ _) (congrArg (World.drewN _) (Nat.add_assoc _ _ _))⟩))|(go_at_call 39;(with_reducible refine (pinfoldlaw35_lives.calls k1  t156 _ A35.out).mono ?_);rintro e w40 ⟨rfl, hb⟩;have n0_ := Aside0.mk (Kd.R_below (by (with_reducible repeat (first|apply Kd.R_alloc|apply Kd.R_drewN|apply Kd.R_drew));exact HO_7.out) hb);have n1_ := Aside0.mk (Kd.R_below (by (with_reducible repeat (first|apply Kd.R_alloc|apply Kd.R_drewN|apply Kd.R_drew));exact HO154.out) hb);have n2_ := Aside0.mk (below_step (by repeat (with_reducible first|exact HB.out|apply xa|apply xb|apply xc)) hb);clear HO_7;clear HO154;clear HB;have HO_7 := n0_;have HO154 := n1_;have HB := n2_;clear n0_ n1_ n2_;(try clear hb);(try clear hb2);(try clear hk);(try clear hi)));try go_wp2_with (first|(go_at_call 37;(with_reducible refine (census_Quantile.calls _ _ yL0 a2 t150 false _ ?side1 ?side2 A27.out).mono ?_);(case side1 => repeat (first|exact (Kd.C_below HR141.out HB.out)|(with_reducible refine Kd.C_alloc ?_ _)|(with_reducible refine Kd.C_drewN ?_ _)|(with_reducible refine Kd.C_drew ?_)));(case side2 => exact HC141.out);rintro e w36 ⟨rfl, hb⟩;have n0_ := Aside0.mk (Kd.R_below (by (with_reducible repeat (first|apply Kd.R_alloc|apply Kd.R_drewN|apply Kd.R_drew));exact HO_7.out) hb);have n1_ := Aside0.mk (below_step (by repeat (with_reducible first|exact HB.out|apply xa|apply xb|apply xc)) hb);clear HO_7;clear HB;have HO_7 := n0_;have HB := n1_;clear n0_ n1_;(try clear hb);(try clear hb2);(try clear hk);(try clear hi))|(go_at_call 38;(with_reducible refine (census_Histogram.calls k1 _ _ yL0 _ _ yL1 t152 _ ?side1 ?side2 ?side3 ?side4 A32.out).mono ?_);(case side1 => repeat (first|exact (Kd.C_below HR141.out HB.out)|(with_reducible refine Kd.C_alloc ?_ _)|(with_reducible refine Kd.C_drewN ?_ _)|(with_reducible refine Kd.C_drew ?_)));(case side2 => exact HC141.out);(case side3 => repeat (first|exact (Kd.C_below HR142.out HB.out)|(with_reducible refine Kd.C_alloc ?_ _)|(with_reducible refine Kd.C_drewN ?_ _)|(with_reducible refine Kd.C_drew ?_)));(case side4 => exact HC142.out);rintro e w37 ⟨v153, rfl, ho0, hb⟩;have n0_ := Aside0.mk (Kd.R_elder' (by (with_reducible repeat (first|apply Kd.R_alloc|apply Kd.R_drewN|apply Kd.R_drew));exact HO_7.out) (Kd.R_base ho0) hb);have n1_ := Aside0.mk (Kd.R_lower (Kd.R_new' ho0 (Kd.R_lt (by (with_reducible repeat (first|apply Kd.R_alloc|apply Kd.R_drewN|apply Kd.R_drew));exact HO_7.out))) (below_size (by repeat (with_reducible first|exact HB.out|apply xa|apply xb|apply xc))));have n2_ := Aside0.mk (below_step (by repeat (with_reducible first|exact HB.out|apply xa|apply xb|apply xc)) hb);clear HO_7;clear HB;have HO_7 := n0_;have HO154 := n1_;have HB := n2_;clear n0_ n1_ n2_;(try clear hb);(try clear hb2);(try clear hk);(try clear hi);(try clear ho0);obtain ⟨Ao38, co38, eo38⟩ := Kd.R_slice HO154.out;subst eo38;obtain ⟨Ao39, co39, eo39⟩ := Kd.R_slice HO_7.out;subst eo39)|(go_at_call 21;(with_reducible refine (pinfoldref04_Same.calls k1 _ _ t152 _ _ x7_1 true _ ?side1 ?side2 ?side3 ?side4 A33.out).mono ?_);(case side1 => repeat (first|exact (Kd.R_reads' HO154.out).2.2|(with_reducible refine Kd.C_alloc ?_ _)|(with_reducible refine Kd.C_drewN ?_ _)|(with_reducible refine Kd.C_drew ?_)));(case side2 => exact (Kd.R_reads' HO154.out).2.1);(case side3 => repeat (first|exact (Kd.R_reads' HO_7.out).2.2|(with_reducible refine Kd.C_alloc ?_ _)|(with_reducible refine Kd.C_drewN ?_ _)|(with_reducible refine Kd.C_drew ?_)));(case side4 => exact (Kd.R_reads' HO_7.out).2.1);rintro e w' ⟨rfl, ⟨nd, rfl⟩⟩;(try first|exact ⟨rfl, _, World.drewN_drewN _ _ _⟩|exact ⟨rfl, _, Eq.trans (World.drewN_drewN _ _ _) (congrArg (World.drewN _) (Nat.add_assoc _ _ _))⟩))|(go_at_call 39;(with_reducible refine (pinfoldlaw35_lives.calls k1  t156 _ A35.out).mono ?_);rintro e w40 ⟨rfl, hb⟩;have n0_ := Aside0.mk (Kd.R_below (by (with_reducible repeat (first|apply Kd.R_alloc|apply Kd.R_drewN|apply Kd.R_drew));exact HO_7.out) hb);have n1_ := Aside0.mk (Kd.R_below (by (with_reducible repeat (first|apply Kd.R_alloc|apply Kd.R_drewN|apply Kd.R_drew));exact HO154.out) hb);have n2_ := Aside0.mk (below_step (by repeat (with_reducible first|exact HB.out|apply xa|apply xb|apply xc)) hb);clear HO_7;clear HO154;clear HB;have HO_7 := n0_;have HO154 := n1_;have HB := n2_;clear n0_ n1_ n2_;(try clear hb);(try clear hb2);(try clear hk);(try clear hi))))
              go_ret
              exact ⟨by first|rfl|(simp [errW_none, errW_some] <;> rfl)|(simp only [← hji4, ← hji7, ← hji10];first|rfl|(simp [errW_none, errW_some] <;> rfl))|(simp [*, errW_none, errW_some] <;> rfl), by repeat (with_reducible first|exact HB.out|apply xa|apply xb|apply xc)⟩
             ·replace c34 := Bool.eq_false_iff.mpr c34
              subst c34
              have H1 : (some false) = some r := by rw [if_neg (show ¬ (false = true) by decide)] at H;exact H
              clear H
              have H := H1
              clear H1
              obtain rfl := Option.some.inj H
              go_wp2_with (first|(go_at_call 37;(with_reducible refine (census_Quantile.calls _ _ yL0 a2 t150 false _ ?side1 ?side2 A27.out).mono ?_);(case side1 => repeat (first|exact (Kd.C_below HR141.out HB.out)|(with_reducible refine Kd.C_alloc ?_ _)|(with_reducible refine Kd.C_drewN ?_ _)|(with_reducible refine Kd.C_drew ?_)));(case side2 => exact HC141.out);rintro e w41 ⟨rfl, hb⟩;have n0_ := Aside0.mk (Kd.R_below (by (with_reducible repeat (first|apply Kd.R_alloc|apply Kd.R_drewN|apply Kd.R_drew));exact HO_7.out) hb);have n1_ := Aside0.mk (below_step (by repeat (with_reducible first|exact HB.out|apply xa|apply xb|apply xc)) hb);clear HO_7;clear HB;have HO_7 := n0_;have HB := n1_;clear n0_ n1_;(try clear hb);(try clear hb2);(try clear hk);(try clear hi))|(go_at_call 38;(with_reducible refine (census_Histogram.calls k1 _ _ yL0 _ _ yL1 t152 _ ?side1 ?side2 ?side3 ?side4 A32.out).mono ?_);(case side1 => repeat (first|exact (Kd.C_below HR141.out HB.out)|(with_reducible refine Kd.C_alloc ?_ _)|(with_reducible refine Kd.C_drewN ?_ _)|(with_reducible refine Kd.C_drew ?_)));(case side2 => exact HC141.out);(case side3 => repeat (first|exact (Kd.C_below HR142.out HB.out)|(with_reducible refine Kd.C_alloc ?_ _)|(with_reducible refine Kd.C_drewN ?_ _)|(with_reducible refine Kd.C_drew ?_)));(case side4 => exact HC142.out);rintro e w42 ⟨v153, rfl, ho0, hb⟩;have n0_ := Aside0.mk (Kd.R_elder' (by (with_reducible repeat (first|apply Kd.R_alloc|apply Kd.R_drewN|apply Kd.R_drew));exact HO_7.out) (Kd.R_base ho0) hb);have n1_ := Aside0.mk (Kd.R_lower (Kd.R_new' ho0 (Kd.R_lt (by (with_reducible repeat (first|apply Kd.R_alloc|apply Kd.R_drewN|apply Kd.R_drew));exact HO_7.out))) (below_size (by repeat (with_reducible first|exact HB.out|apply xa|apply xb|apply xc))));have n2_ := Aside0.mk (below_step (by repeat (with_reducible first|exact HB.out|apply xa|apply xb|apply xc)) hb);clear HO_7;clear HB;have HO_7 := n0_;have HO154 := n1_;have HB := n2_;clear n0_ n1_ n2_;(try clear hb);(try clear hb2);(try clear hk);(try clear hi);(try clear ho0);obtain ⟨Ao43, co43, eo43⟩ := Kd.R_slice HO154.out;subst eo43;obtain ⟨Ao44, co44, eo44⟩ := Kd.R_slice HO_7.out;subst eo44)|(go_at_call 21;(with_reducible refine (pinfoldref04_Same.calls k1 _ _ t152 _ _ x7_1 false _ ?side1 ?side2 ?side3 ?side4 A33.out).mono ?_);(case side1 => repeat (first|exact (Kd.R_reads' HO154.out).2.2|(with_reducible refine Kd.C_alloc ?_ _)|(with_reducible refine Kd.C_drewN ?_ _)|(with_reducible refine Kd.C_drew ?_)));(case side2 => exact (Kd.R_reads' HO154.out).2.1);(case side3 => repeat (first|exact (Kd.R_reads' HO_7.out).2.2|(with_reducible refine Kd.C_alloc ?_ _)|(with_reducible refine Kd.C_drewN ?_ _)|(with_reducible refine Kd.C_drew ?_)));(case side4 => exact (Kd.R_reads' HO_7.out).2.1);rintro e w' ⟨rfl, ⟨nd, rfl⟩⟩;(try first|exact ⟨rfl, _, World.drewN_drewN _ _ _⟩|exact ⟨rfl, _, Eq.trans (World.drewN_drewN _ _ _) (congrArg (World.drewN _) (Nat.add_assoc _ _ _))⟩)))
              repeat (go_quiet (first|(go_at_call 37;(with_reducible refine (census_Quantile.calls _ _ yL0 a2 t150 false _ ?side1 ?side2 A27.out).mono ?_);(case side1 => repeat (first|exact (Kd.C_below HR141.out HB.out)|(with_reducible refine Kd.C_alloc ?_ _)|(with_reducible refine Kd.C_drewN ?_ _)|(with_reducible refine Kd.C_drew ?_)));(case side2 => exact HC141.out);rintro e w41 ⟨rfl, hb⟩;have n0_ := Aside0.mk (Kd.R_below (by (with_reducible repeat (first|apply Kd.R_alloc|apply Kd.R_drewN|apply Kd.R_drew));exact HO_7.out) hb);have n1_ := Aside0.mk (below_step (by repeat (with_reducible first|exact HB.out|apply xa|apply xb|apply xc)) hb);clear HO_7;clear HB;have HO_7 := n0_;have HB := n1_;clear n0_ n1_;(try clear hb);(try clear hb2);(try clear hk);(try clear hi))|(go_at_call 38;(with_reducible refine (census_Histogram.calls k1 _ _ yL0 _ _ yL1 t152 _ ?side1 ?side2 ?side3 ?side4 A32.out).mono ?_);(case side1 => repeat (first|exact (Kd.C_below HR141.out HB.out)|(with_reducible refine Kd.C_alloc ?_ _)|(with_reducible refine Kd.C_drewN ?_ _)|(with_reducible refine Kd.C_drew ?_)));(case side2 => exact HC141.out);(case side3 => repeat (first|exact (Kd.C_below HR142.out HB.out)|(with_reducible refine Kd.C_alloc ?_ _)|(with_reducible refine Kd.C_drewN ?_ _)|(with_reducible refine Kd.C_drew ?_)));(case side4 => exact HC142.out);rintro e w42 ⟨v153, rfl, ho0, hb⟩;have n0_ := Aside0.mk (Kd.R_elder' (by (with_reducible repeat (first|apply Kd.R_alloc|apply Kd.R_drewN|apply Kd.R_drew));exact HO_7.out) (Kd.R_base ho0) hb);have n1_ := Aside0.mk (Kd.R_lower (Kd.R_new' ho0 (Kd.R_lt (by (with_reducible repeat (first|apply Kd.R_alloc|apply Kd.R_drewN|apply Kd.R_drew));exact HO_7.out))) (below_size (by repeat (with_reducible first|exact HB.out|apply xa|apply xb|apply xc))));have n2_ := Aside0.mk (below_step (by repeat (with_reducible first|exact HB.out|apply xa|apply xb|apply xc)) hb);clear HO_7;clear HB;have HO_7 := n0_;have HO154 := n1_;have HB := n2_;clear n0_ n1_ n2_;(try clear hb);(try clear hb2);(try clear hk);(try clear hi);(try clear ho0);obtain ⟨Ao43, co43, eo43⟩ := Kd.R_slice HO154.out;subst eo43;obtain ⟨Ao44, co44, eo44⟩ := Kd.R_slice HO_7.out;subst eo44)|(go_at_call 21;(with_reducible refine (pinfoldref04_Same.calls k1 _ _ t152 _ _ x7_1 false _ ?side1 ?side2 ?side3 ?side4 A33.out).mono ?_);(case side1 => repeat (first|exact (Kd.R_reads' HO154.out).2.2|(with_reducible refine Kd.C_alloc ?_ _)|(with_reducible refine Kd.C_drewN ?_ _)|(with_reducible refine Kd.C_drew ?_)));(case side2 => exact (Kd.R_reads' HO154.out).2.1);(case side3 => repeat (first|exact (Kd.R_reads' HO_7.out).2.2|(with_reducible refine Kd.C_alloc ?_ _)|(with_reducible refine Kd.C_drewN ?_ _)|(with_reducible refine Kd.C_drew ?_)));(case side4 => exact (Kd.R_reads' HO_7.out).2.1);rintro e w' ⟨rfl, ⟨nd, rfl⟩⟩;(try first|exact ⟨rfl, _, World.drewN_drewN _ _ _⟩|exact ⟨rfl, _, Eq.trans (World.drewN_drewN _ _ _) (congrArg (World.drewN _) (Nat.add_assoc _ _ _))⟩)));try go_wp2_with (first|(go_at_call 37;(with_reducible refine (census_Quantile.calls _ _ yL0 a2 t150 false _ ?side1 ?side2 A27.out).mono ?_);(case side1 => repeat (first|exact (Kd.C_below HR141.out HB.out)|(with_reducible refine Kd.C_alloc ?_ _)|(with_reducible refine Kd.C_drewN ?_ _)|(with_reducible refine Kd.C_drew ?_)));(case side2 => exact HC141.out);rintro e w41 ⟨rfl, hb⟩;have n0_ := Aside0.mk (Kd.R_below (by (with_reducible repeat (first|apply Kd.R_alloc|apply Kd.R_drewN|apply Kd.R_drew));exact HO_7.out) hb);have n1_ := Aside0.mk (below_step (by repeat (with_reducible first|exact HB.out|apply xa|apply xb|apply xc)) hb);clear HO_7;clear HB;have HO_7 := n0_;have HB := n1_;clear n0_ n1_;(try clear hb);(try clear hb2);(try clear hk);(try clear hi))|(go_at_call 38;(with_reducible refine (census_Histogram.calls k1 _ _ yL0 _ _ yL1 t152 _ ?side1 ?side2 ?side3 ?side4 A32.out).mono ?_);(case side1 => repeat (first|exact (Kd.C_below HR141.out HB.out)|(with_reducible refine Kd.C_alloc ?_ _)|(with_reducible refine Kd.C_drewN ?_ _)|(with_reducible refine Kd.C_drew ?_)));(case side2 => exact HC141.out);(case side3 => repeat (first|exact (Kd.C_below HR142.out HB.out)|(with_reducible refine Kd.C_alloc ?_ _)|(with_reducible refine Kd.C_drewN ?_ _)|(with_reducible refine Kd.C_drew ?_)));(case side4 => exact HC142.out);rintro e w42 ⟨v153, rfl, ho0, hb⟩;have n0_ := Aside0.mk (Kd.R_elder' (by (with_reducible repeat (first|apply Kd.R_alloc|apply Kd.R_drewN|apply Kd.R_drew));exact HO_7.out) (Kd.R_base ho0) hb);have n1_ := Aside0.mk (Kd.R_lower (Kd.R_new' ho0 (Kd.R_lt (by (with_reducible repeat (first|apply Kd.R_alloc|apply Kd.R_drewN|apply Kd.R_drew));exact HO_7.out))) (below_size (by repeat (with_reducible first|exact HB.out|apply xa|apply xb|apply xc))));have n2_ := Aside0.mk (below_step (by repeat (with_reducible first|exact HB.out|apply xa|apply xb|apply xc)) hb);clear HO_7;clear HB;have HO_7 := n0_;have HO154 := n1_;have HB := n2_;clear n0_ n1_ n2_;(try clear hb);(try clear hb2);(try clear hk);(try clear hi);(try clear ho0);obtain ⟨Ao43, co43, eo43⟩ := Kd.R_slice HO154.out;subst eo43;obtain ⟨Ao44, co44, eo44⟩ := Kd.R_slice HO_7.out;subst eo44)|(go_at_call 21;(with_reducible refine (pinfoldref04_Same.calls k1 _ _ t152 _ _ x7_1 false _ ?side1 ?side2 ?side3 ?side4 A33.out).mono ?_);(case side1 => repeat (first|exact (Kd.R_reads' HO154.out).2.2|(with_reducible refine Kd.C_alloc ?_ _)|(with_reducible refine Kd.C_drewN ?_ _)|(with_reducible refine Kd.C_drew ?_)));(case side2 => exact (Kd.R_reads' HO154.out).2.1);(case side3 => repeat (first|exact (Kd.R_reads' HO_7.out).2.2|(with_reducible refine Kd.C_alloc ?_ _)|(with_reducible refine Kd.C_drewN ?_ _)|(with_reducible refine Kd.C_drew ?_)));(case side4 => exact (Kd.R_reads' HO_7.out).2.1);rintro e w' ⟨rfl, ⟨nd, rfl⟩⟩;(try first|exact ⟨rfl, _, World.drewN_drewN _ _ _⟩|exact ⟨rfl, _, Eq.trans (World.drewN_drewN _ _ _) (congrArg (World.drewN _) (Nat.add_assoc _ _ _))⟩))))
              go_ret
              exact ⟨by first|rfl|(simp [errW_none, errW_some] <;> rfl)|(simp only [← hji4, ← hji7, ← hji10];first|rfl|(simp [errW_none, errW_some] <;> rfl))|(simp [*, errW_none, errW_some] <;> rfl), by repeat (with_reducible first|exact HB.out|apply xa|apply xb|apply xc)⟩
            ·rw [if_neg c31] at H
             have c31b0 : (t150 == 0) = false := beq_eq_false_iff_ne.mpr c31
             have c31b1 : (t150 != 0) = true := bne_iff_ne.mpr c31
             obtain rfl := Option.some.inj H
             go_wp2_with (first|(go_at_call 37;(with_reducible refine (census_Quantile.calls _ _ yL0 a2 t150 false _ ?side1 ?side2 A27.out).mono ?_);(case side1 => repeat (first|exact (Kd.C_below HR141.out HB.out)|(with_reducible refine Kd.C_alloc ?_ _)|(with_reducible refine Kd.C_drewN ?_ _)|(with_reducible refine Kd.C_drew ?_)));(case side2 => exact HC141.out);rintro e w45 ⟨rfl, hb⟩;have n0_ := Aside0.mk (Kd.R_below (by (with_reducible repeat (first|apply Kd.R_alloc|apply Kd.R_drewN|apply Kd.R_drew));exact HO_7.out) hb);have n1_ := Aside0.mk (below_step (by repeat (with_reducible first|exact HB.out|apply xa|apply xb|apply xc)) hb);clear HO_7;clear HB;have HO_7 := n0_;have HB := n1_;clear n0_ n1_;(try clear hb);(try clear hb2);(try clear hk);(try clear hi)))
             repeat (go_quiet (first|(go_at_call 37;(with_reducible refine (census_Quantile.calls _ _ yL0 a2 t150 false _ ?side1 ?side2 A27.out).mono ?_);(case side1 => repeat (first|exact (Kd.C_below HR141.out HB.out)|(with_reducible refine Kd.C_alloc ?_ _)|(with_reducible refine Kd.C_drewN ?_ _)|(with_reducible refine Kd.C_drew ?_)));(case side2 => exact HC141.out);rintro e w45 ⟨rfl, hb⟩;have n0_ := Aside0.mk (Kd.R_below (by (with_reducible repeat (first|apply Kd.R_alloc|apply Kd.R_drewN|apply Kd.R_drew));exact HO_7.out) hb);have n1_ := Aside0.mk (below_step (by repeat (with_reducible first|exact HB.out|apply xa|apply xb|apply xc)) hb);clear HO_7;clear HB;have HO_7 := n0_;have HB := n1_;clear n0_ n1_;(try clear hb);(try clear hb2);(try clear hk);(try clear hi)));try go_wp2_with (first|(go_at_call 37;(with_reducible refine (census_Quantile.calls _ _ yL0 a2 t150 false _ ?side1 ?side2 A27.out).mono ?_);(case side1 => repeat (first|exact (Kd.C_below HR141.out HB.out)|(with_reducible refine Kd.C_alloc ?_ _)|(with_reducible refine Kd.C_drewN ?_ _)|(with_reducible refine Kd.C_drew ?_)));(case side2 => exact HC141.out);rintro e w45 ⟨rfl, hb⟩;have n0_ := Aside0.mk (Kd.R_below (by (with_reducible repeat (first|apply Kd.R_alloc|apply Kd.R_drewN|apply Kd.R_drew));exact HO_7.out) hb);have n1_ := Aside0.mk (below_step (by repeat (with_reducible first|exact HB.out|apply xa|apply xb|apply xc)) hb);clear HO_7;clear HB;have HO_7 := n0_;have HB := n1_;clear n0_ n1_;(try clear hb);(try clear hb2);(try clear hk);(try clear hi))))
             go_ret
             exact ⟨by first|rfl|(simp [errW_none, errW_some] <;> rfl)|(simp only [← hji4, ← hji7, ← hji10];first|rfl|(simp [errW_none, errW_some] <;> rfl))|(simp [*, errW_none, errW_some] <;> rfl), by repeat (with_reducible first|exact HB.out|apply xa|apply xb|apply xc)⟩
          ·rw [if_neg c28] at H
           have c28b0 : ((yL0.length : Int) == 0) = false := beq_eq_false_iff_ne.mpr c28
           have c28b1 : ((yL0.length : Int) != 0) = true := bne_iff_ne.mpr c28
           have c28b2 : ¬ (yL0 = []) := fun h_ => c28 (by rw [h_];rfl)
           by_cases c46 : t151 = true
           ·subst c46
            have H1 : ((pinfoldref35_At.f k1 yL0 (wrap64 (Int.tdiv (wrap64 ((mx 0 (mn a2 100)) * (wrap64 ((yL0.length : Int) - 1)))) 100))).bind fun t157 => (if t150 = t157 then ((census_Histogram.f k1 yL0 yL1).bind fun t158 => ((pinfoldref04_Same.f k1 t158 x7_1).bind fun t161 => (if t161 = true then ((pinfoldlaw35_lives.f k1).bind fun t162 => (some t162)) else (some false)))) else (some false))) = some r := by rw [if_pos rfl] at H;exact H
            clear H
            have H := H1
            clear H1
            obtain ⟨ji47, hji47⟩ : ∃ j_ : Int, (mn a2 100) = j_ := ⟨_, rfl⟩
            replace H : ((pinfoldref35_At.f k1 yL0 (wrap64 (Int.tdiv (wrap64 ((mx 0 (ji47)) * (wrap64 ((yL0.length : Int) - 1)))) 100))).bind fun t157 => (if t150 = t157 then ((census_Histogram.f k1 yL0 yL1).bind fun t158 => ((pinfoldref04_Same.f k1 t158 x7_1).bind fun t161 => (if t161 = true then ((pinfoldlaw35_lives.f k1).bind fun t162 => (some t162)) else (some false)))) else (some false))) = some r := by first|(rw [hji47] at H;exact H)|(simp only [hji47] at H ⊢;exact H)
            (try rw [hji47] at A27)
            have hji47_ : (if 100 < a2 then 100 else a2) = ji47 := hji47
            obtain ⟨ji48, hji48⟩ : ∃ j_ : Int, (mx 0 (ji47)) = j_ := ⟨_, rfl⟩
            replace H : ((pinfoldref35_At.f k1 yL0 (wrap64 (Int.tdiv (wrap64 ((ji48) * (wrap64 ((yL0.length : Int) - 1)))) 100))).bind fun t157 => (if t150 = t157 then ((census_Histogram.f k1 yL0 yL1).bind fun t158 => ((pinfoldref04_Same.f k1 t158 x7_1).bind fun t161 => (if t161 = true then ((pinfoldlaw35_lives.f k1).bind fun t162 => (some t162)) else (some false)))) else (some false))) = some r := by first|(rw [hji48] at H;exact H)|(simp only [hji48] at H ⊢;exact H)
            (try rw [hji48] at A27)
            have hji48_ : (if 0 < (ji47) then (ji47) else 0) = ji48 := hji48
            replace H := Option.bind_eq_some_iff.mp H
            obtain ⟨t157, A490, H⟩ := H
            replace H : (if t150 = t157 then ((census_Histogram.f k1 yL0 yL1).bind fun t158 => ((pinfoldref04_Same.f k1 t158 x7_1).bind fun t161 => (if t161 = true then ((pinfoldlaw35_lives.f k1).bind fun t162 => (some t162)) else (some false)))) else (some false)) = some r := H
            have A49 := Aside0.mk A490
            clear A490
            by_cases c50 : t150 = t157
            ·rw [if_pos c50] at H
             have c50b0 : (t150 == t157) = true := beq_iff_eq.mpr c50
             have c50b1 : (t150 != t157) = false := bne_eq_false_iff_eq.mpr c50
             clear c50
             replace H := Option.bind_eq_some_iff.mp H
             obtain ⟨t158, A510, H⟩ := H
             replace H : ((pinfoldref04_Same.f k1 t158 x7_1).bind fun t161 => (if t161 = true then ((pinfoldlaw35_lives.f k1).bind fun t162 => (some t162)) else (some false))) = some r := H
             have A51 := Aside0.mk A510
             clear A510
             replace H := Option.bind_eq_some_iff.mp H
             obtain ⟨t161, A520, H⟩ := H
             replace H : (if t161 = true then ((pinfoldlaw35_lives.f k1).bind fun t162 => (some t162)) else (some false)) = some r := H
             have A52 := Aside0.mk A520
             clear A520
             by_cases c53 : t161 = true
             ·subst c53
              have H1 : ((pinfoldlaw35_lives.f k1).bind fun t162 => (some t162)) = some r := by rw [if_pos rfl] at H;exact H
              clear H
              have H := H1
              clear H1
              replace H := Option.bind_eq_some_iff.mp H
              obtain ⟨t162, A540, H⟩ := H
              replace H : (some t162) = some r := H
              have A54 := Aside0.mk A540
              clear A540
              obtain rfl := Option.some.inj H
              go_wp2_with (first|(go_at_call 37;(with_reducible refine (census_Quantile.calls _ _ yL0 a2 t150 true _ ?side1 ?side2 A27.out).mono ?_);(case side1 => repeat (first|exact (Kd.C_below HR141.out HB.out)|(with_reducible refine Kd.C_alloc ?_ _)|(with_reducible refine Kd.C_drewN ?_ _)|(with_reducible refine Kd.C_drew ?_)));(case side2 => exact HC141.out);rintro e w55 ⟨rfl, hb⟩;have n0_ := Aside0.mk (Kd.R_below (by (with_reducible repeat (first|apply Kd.R_alloc|apply Kd.R_drewN|apply Kd.R_drew));exact HO_7.out) hb);have n1_ := Aside0.mk (below_step (by repeat (with_reducible first|exact HB.out|apply xa|apply xb|apply xc)) hb);clear HO_7;clear HB;have HO_7 := n0_;have HB := n1_;clear n0_ n1_;(try clear hb);(try clear hb2);(try clear hk);(try clear hi))|(go_at_call 40;(with_reducible refine (pinfoldref35_At.calls k1 _ _ yL0 (wrap64 (Int.tdiv (wrap64 ((ji48) * (wrap64 ((yL0.length : Int) - 1)))) 100)) t157 _ ?side1 ?side2 A49.out).mono ?_);(case side1 => repeat (first|exact (Kd.C_below HR141.out HB.out)|(with_reducible refine Kd.C_alloc ?_ _)|(with_reducible refine Kd.C_drewN ?_ _)|(with_reducible refine Kd.C_drew ?_)));(case side2 => exact HC141.out);rintro e w' ⟨rfl, ⟨nd, rfl⟩⟩;(try first|exact ⟨rfl, _, World.drewN_drewN _ _ _⟩|exact ⟨rfl, _, Eq.trans (World.drewN_drewN _ _ _) (congrArg (World.drewN _) (Nat.add_assoc _ _ _))⟩))|(go_at_call 38;(with_reducible refine (census_Histogram.calls k1 _ _ yL0 _ _ yL1 t158 _ ?side1 ?side2 ?side3 ?side4 A51.out).mono ?_);(case side1 => repeat (first|exact (Kd.C_below HR141.out (by repeat (with_reducible first|exact HB.out|apply xa|apply xb|apply xc)))|(with_reducible refine Kd.C_alloc ?_ _)|(with_reducible refine Kd.C_drewN ?_ _)|(with_reducible refine Kd.C_drew ?_)));(case side2 => exact HC141.out);(case side3 => repeat (first|exact (Kd.C_below HR142.out (by repeat (with_reducible first|exact HB.out|apply xa|apply xb|apply xc)))|(with_reducible refine Kd.C_alloc ?_ _)|(with_reducible refine Kd.C_drewN ?_ _)|(with_reducible refine Kd.C_drew ?_)));(case side4 => exact HC142.out);rintro e w56 ⟨v159, rfl, ho0, hb⟩;have n0_ := Aside0.mk (Kd.R_elder' (by (with_reducible repeat (first|apply Kd.R_alloc|apply Kd.R_drewN|apply Kd.R_drew));exact HO_7.out) (Kd.R_base ho0) hb);have n1_ := Aside0.mk (Kd.R_lower (Kd.R_new' ho0 (Kd.R_lt (by (with_reducible repeat (first|apply Kd.R_alloc|apply Kd.R_drewN|apply Kd.R_drew));exact HO_7.out))) (below_size (by repeat (with_reducible first|exact HB.out|apply xa|apply xb|apply xc))));have n2_ := Aside0.mk (below_step (by repeat (with_reducible first|exact HB.out|apply xa|apply xb|apply xc)) hb);clear HO_7;clear HB;have HO_7 := n0_;have HO160 := n1_;have HB := n2_;clear n0_ n1_ n2_;(try clear hb);(try clear hb2);(try clear hk);(try clear hi);(try clear ho0);obtain ⟨Ao57, co57, eo57⟩ := Kd.R_slice HO160.out;subst eo57;obtain ⟨Ao58, co58, eo58⟩ := Kd.R_slice HO_7.out;subst eo58)|(go_at_call 21;(with_reducible refine (pinfoldref04_Same.calls k1 _ _ t158 _ _ x7_1 true _ ?side1 ?side2 ?side3 ?side4 A52.out).mono ?_);(case side1 => repeat (first|exact (Kd.R_reads' HO160.out).2.2|(with_reducible refine Kd.C_alloc ?_ _)|(with_reducible refine Kd.C_drewN ?_ _)|(with_reducible refine Kd.C_drew ?_)));(case side2 => exact (Kd.R_reads' HO160.out).2.1);(case side3 => repeat (first|exact (Kd.R_reads' HO_7.out).2.2|(with_reducible refine Kd.C_alloc ?_ _)|(with_reducible refine Kd.C_drewN ?_ _)|(with_reducible refine Kd.C_drew ?_)));(case side4 => exact (Kd.R_reads' HO_7.out).2.1);rintro e w' ⟨rfl, ⟨nd, rfl⟩⟩;(try first|exact ⟨rfl, _, World.drewN_drewN _ _ _⟩|exact ⟨rfl, _, Eq.trans (World.drewN_drewN _ _ _) (congrArg (World.drewN _) (Nat.add_assoc _ _ _))⟩))|(go_at_call 39;(with_reducible refine (pinfoldlaw35_lives.calls k1  t162 _ A54.out).mono ?_);rintro e w59 ⟨rfl, hb⟩;have n0_ := Aside0.mk (Kd.R_below (by (with_reducible repeat (first|apply Kd.R_alloc|apply Kd.R_drewN|apply Kd.R_drew));exact HO_7.out) hb);have n1_ := Aside0.mk (Kd.R_below (by (with_reducible repeat (first|apply Kd.R_alloc|apply Kd.R_drewN|apply Kd.R_drew));exact HO160.out) hb);have n2_ := Aside0.mk (below_step (by repeat (with_reducible first|exact HB.out|apply xa|apply xb|apply xc)) hb);clear HO_7;clear HO160;clear HB;have HO_7 := n0_;have HO160 := n1_;have HB := n2_;clear n0_ n1_ n2_;(try clear hb);(try clear hb2);(try clear hk);(try clear hi)))
              repeat (go_quiet (first|(go_at_call 37;(with_reducible refine (census_Quantile.calls _ _ yL0 a2 t150 true _ ?side1 ?side2 A27.out).mono ?_);(case side1 => repeat (first|exact (Kd.C_below HR141.out HB.out)|(with_reducible refine Kd.C_alloc ?_ _)|(with_reducible refine Kd.C_drewN ?_ _)|(with_reducible refine Kd.C_drew ?_)));(case side2 => exact HC141.out);rintro e w55 ⟨rfl, hb⟩;have n0_ := Aside0.mk (Kd.R_below (by (with_reducible repeat (first|apply Kd.R_alloc|apply Kd.R_drewN|apply Kd.R_drew));exact HO_7.out) hb);have n1_ := Aside0.mk (below_step (by repeat (with_reducible first|exact HB.out|apply xa|apply xb|apply xc)) hb);clear HO_7;clear HB;have HO_7 := n0_;have HB := n1_;clear n0_ n1_;(try clear hb);(try clear hb2);(try clear hk);(try clear hi))|(go_at_call 40;(with_reducible refine (pinfoldref35_At.calls k1 _ _ yL0 (wrap64 (Int.tdiv (wrap64 ((ji48) * (wrap64 ((yL0.length : Int) - 1)))) 100)) t157 _ ?side1 ?side2 A49.out).mono ?_);(case side1 => repeat (first|exact (Kd.C_below HR141.out HB.out)|(with_reducible refine Kd.C_alloc ?_ _)|(with_reducible refine Kd.C_drewN ?_ _)|(with_reducible refine Kd.C_drew ?_)));(case side2 => exact HC141.out);rintro e w' ⟨rfl, ⟨nd, rfl⟩⟩;(try first|exact ⟨rfl, _, World.drewN_drewN _ _ _⟩|exact ⟨rfl, _, Eq.trans (World.drewN_drewN _ _ _) (congrArg (World.drewN _) (Nat.add_assoc _ _ _))⟩))|(go_at_call 38;(with_reducible refine (census_Histogram.calls k1 _ _ yL0 _ _ yL1 t158 _ ?side1 ?side2 ?side3 ?side4 A51.out).mono ?_);(case side1 => repeat (first|exact (Kd.C_below HR141.out (by repeat (with_reducible first|exact HB.out|apply xa|apply xb|apply xc)))|(with_reducible refine Kd.C_alloc ?_ _)|(with_reducible refine Kd.C_drewN ?_ _)|(with_reducible refine Kd.C_drew ?_)));(case side2 => exact HC141.out);(case side3 => repeat (first|exact (Kd.C_below HR142.out (by repeat (with_reducible first|exact HB.out|apply xa|apply xb|apply xc)))|(with_reducible refine Kd.C_alloc ?_ _)|(with_reducible refine Kd.C_drewN ?_ _)|(with_reducible refine Kd.C_drew ?_)));(case side4 => exact HC142.out);rintro e w56 ⟨v159, rfl, ho0, hb⟩;have n0_ := Aside0.mk (Kd.R_elder' (by (with_reducible repeat (first|apply Kd.R_alloc|apply Kd.R_drewN|apply Kd.R_drew));exact HO_7.out) (Kd.R_base ho0) hb);have n1_ := Aside0.mk (Kd.R_lower (Kd.R_new' ho0 (Kd.R_lt (by (with_reducible repeat (first|apply Kd.R_alloc|apply Kd.R_drewN|apply Kd.R_drew));exact HO_7.out))) (below_size (by repeat (with_reducible first|exact HB.out|apply xa|apply xb|apply xc))));have n2_ := Aside0.mk (below_step (by repeat (with_reducible first|exact HB.out|apply xa|apply xb|apply xc)) hb);clear HO_7;clear HB;have HO_7 := n0_;have HO160 := n1_;have HB := n2_;clear n0_ n1_ n2_;(try clear hb);(try clear hb2);(try clear hk);(try clear hi);(try clear ho0);obtain ⟨Ao57, co57, eo57⟩ := Kd.R_slice HO160.out;subst eo57;obtain ⟨Ao58, co58, eo58⟩ := Kd.R_slice HO_7.out;subst eo58)|(go_at_call 21;(with_reducible refine (pinfoldref04_Same.calls k1 _ _ t158 _ _ x7_1 true _ ?side1 ?side2 ?side3 ?side4 A52.out).mono ?_);(case side1 => repeat (first|exact (Kd.R_reads' HO160.out).2.2|(with_reducible refine Kd.C_alloc ?_ _)|(with_reducible refine Kd.C_drewN ?_ _)|(with_reducible refine Kd.C_drew ?_)));(case side2 => exact (Kd.R_reads' HO160.out).2.1);(case side3 => repeat (first|exact (Kd.R_reads' HO_7.out).2.2|(with_reducible refine Kd.C_alloc ?_ _)|(with_reducible refine Kd.C_drewN ?_ _)|(with_reducible refine Kd.C_drew ?_)));(case side4 => exact (Kd.R_reads' HO_7.out).2.1);rintro e w' ⟨rfl, ⟨nd, rfl⟩⟩;(try first|exact ⟨rfl, _, World.drewN_drewN _ _ _⟩|exact ⟨rfl, _, Eq.trans (World.drewN_drewN _ _ _) (congrArg (World.drewN _) (Nat.add_assoc _ _ _))⟩))|(go_at_call 39;(with_reducible refine (pinfoldlaw35_lives.calls k1  t162 _ A54.out).mono ?_);rintro e w59 ⟨rfl, hb⟩;have n0_ := Aside0.mk (Kd.R_below (by (with_reducible repeat (first|apply Kd.R_alloc|apply Kd.R_drewN|apply Kd.R_drew));exact HO_7.out) hb);have n1_ := Aside0.mk (Kd.R_below (by (with_reducible repeat (first|apply Kd.R_alloc|apply Kd.R_drewN|apply Kd.R_drew));exact HO160.out) hb);have n2_ := Aside0.mk (below_step (by repeat (with_reducible first|exact HB.out|apply xa|apply xb|apply xc)) hb);clear HO_7;clear HO160;clear HB;have HO_7 := n0_;have HO160 := n1_;have HB := n2_;clear n0_ n1_ n2_;(try clear hb);(try clear hb2);(try clear hk);(try clear hi)));try go_wp2_with (first|(go_at_call 37;(with_reducible refine (census_Quantile.calls _ _ yL0 a2 t150 true _ ?side1 ?side2 A27.out).mono ?_);(case side1 => repeat (first|exact (Kd.C_below HR141.out HB.out)|(with_reducible refine Kd.C_alloc ?_ _)|(with_reducible refine Kd.C_drewN ?_ _)|(with_reducible refine Kd.C_drew ?_)));(case side2 => exact HC141.out);rintro e w55 ⟨rfl, hb⟩;have n0_ := Aside0.mk (Kd.R_below (by (with_reducible repeat (first|apply Kd.R_alloc|apply Kd.R_drewN|apply Kd.R_drew));exact HO_7.out) hb);have n1_ := Aside0.mk (below_step (by repeat (with_reducible first|exact HB.out|apply xa|apply xb|apply xc)) hb);clear HO_7;clear HB;have HO_7 := n0_;have HB := n1_;clear n0_ n1_;(try clear hb);(try clear hb2);(try clear hk);(try clear hi))|(go_at_call 40;(with_reducible refine (pinfoldref35_At.calls k1 _ _ yL0 (wrap64 (Int.tdiv (wrap64 ((ji48) * (wrap64 ((yL0.length : Int) - 1)))) 100)) t157 _ ?side1 ?side2 A49.out).mono ?_);(case side1 => repeat (first|exact (Kd.C_below HR141.out HB.out)|(with_reducible refine Kd.C_alloc ?_ _)|(with_reducible refine Kd.C_drewN ?_ _)|(with_reducible refine Kd.C_drew ?_)));(case side2 => exact HC141.out);rintro e w' ⟨rfl, ⟨nd, rfl⟩⟩;(try first|exact ⟨rfl, _, World.drewN_drewN _ _ _⟩|exact ⟨rfl, _, Eq.trans (World.drewN_drewN _ _ _) (congrArg (World.drewN _) (Nat.add_assoc _ _ _))⟩))|(go_at_call 38;(with_reducible refine (census_Histogram.calls k1 _ _ yL0 _ _ yL1 t158 _ ?side1 ?side2 ?side3 ?side4 A51.out).mono ?_);(case side1 => repeat (first|exact (Kd.C_below HR141.out (by repeat (with_reducible first|exact HB.out|apply xa|apply xb|apply xc)))|(with_reducible refine Kd.C_alloc ?_ _)|(with_reducible refine Kd.C_drewN ?_ _)|(with_reducible refine Kd.C_drew ?_)));(case side2 => exact HC141.out);(case side3 => repeat (first|exact (Kd.C_below HR142.out (by repeat (with_reducible first|exact HB.out|apply xa|apply xb|apply xc)))|(with_reducible refine Kd.C_alloc ?_ _)|(with_reducible refine Kd.C_drewN ?_ _)|(with_reducible refine Kd.C_drew ?_)));(case side4 => exact HC142.out);rintro e w56 ⟨v159, rfl, ho0, hb⟩;have n0_ := Aside0.mk (Kd.R_elder' (by (with_reducible repeat (first|apply Kd.R_alloc|apply Kd.R_drewN|apply Kd.R_drew));exact HO_7.out) (Kd.R_base ho0) hb);have n1_ := Aside0.mk (Kd.R_lower (Kd.R_new' ho0 (Kd.R_lt (by (with_reducible repeat (first|apply Kd.R_alloc|apply Kd.R_drewN|apply Kd.R_drew));exact HO_7.out))) (below_size (by repeat (with_reducible first|exact HB.out|apply xa|apply xb|apply xc))));have n2_ := Aside0.mk (below_step (by repeat (with_reducible first|exact HB.out|apply xa|apply xb|apply xc)) hb);clear HO_7;clear HB;have HO_7 := n0_;have HO160 := n1_;have HB := n2_;clear n0_ n1_ n2_;(try clear hb);(try clear hb2);(try clear hk);(try clear hi);(try clear ho0);obtain ⟨Ao57, co57, eo57⟩ := Kd.R_slice HO160.out;subst eo57;obtain ⟨Ao58, co58, eo58⟩ := Kd.R_slice HO_7.out;subst eo58)|(go_at_call 21;(with_reducible refine (pinfoldref04_Same.calls k1 _ _ t158 _ _ x7_1 true _ ?side1 ?side2 ?side3 ?side4 A52.out).mono ?_);(case side1 => repeat (first|exact (Kd.R_reads' HO160.out).2.2|(with_reducible refine Kd.C_alloc ?_ _)|(with_reducible refine Kd.C_drewN ?_ _)|(with_reducible refine Kd.C_drew ?_)));(case side2 => exact (Kd.R_reads' HO160.out).2.1);(case side3 => repeat (first|exact (Kd.R_reads' HO_7.out).2.2|(with_reducible refine Kd.C_alloc ?_ _)|(with_reducible refine Kd.C_drewN ?_ _)|(with_reducible refine Kd.C_drew ?_)));(case side4 => exact (Kd.R_reads' HO_7.out).2.1);rintro e w' ⟨rfl, ⟨nd, rfl⟩⟩;(try first|exact ⟨rfl, _, World.drewN_drewN _ _ _⟩|exact ⟨rfl, _, Eq.trans (World.drewN_drewN _ _ _) (congrArg (World.drewN _) (Nat.add_assoc _ _ _))⟩))|(go_at_call 39;(with_reducible refine (pinfoldlaw35_lives.calls k1  t162 _ A54.out).mono ?_);rintro e w59 ⟨rfl, hb⟩;have n0_ := Aside0.mk (Kd.R_below (by (with_reducible repeat (first|apply Kd.R_alloc|apply Kd.R_drewN|apply Kd.R_drew));exact HO_7.out) hb);have n1_ := Aside0.mk (Kd.R_below (by (with_reducible repeat (first|apply Kd.R_alloc|apply Kd.R_drewN|apply Kd.R_drew));exact HO160.out) hb);have n2_ := Aside0.mk (below_step (by repeat (with_reducible first|exact HB.out|apply xa|apply xb|apply xc)) hb);clear HO_7;clear HO160;clear HB;have HO_7 := n0_;have HO160 := n1_;have HB := n2_;clear n0_ n1_ n2_;(try clear hb);(try clear hb2);(try clear hk);(try clear hi))))
              go_ret
              exact ⟨by first|rfl|(simp [errW_none, errW_some] <;> rfl)|(simp only [← hji4, ← hji7, ← hji10, ← hji47, ← hji48];first|rfl|(simp [errW_none, errW_some] <;> rfl))|(simp [*, errW_none, errW_some] <;> rfl), by repeat (with_reducible first|exact HB.out|apply xa|apply xb|apply xc)⟩
             ·replace c53 := Bool.eq_false_iff.mpr c53
              subst c53
              have H1 : (some false) = some r := by rw [if_neg (show ¬ (false = true) by decide)] at H;exact H
              clear H
              have H := H1
              clear H1
              obtain rfl := Option.some.inj H
              go_wp2_with (first|(go_at_call 37;(with_reducible refine (census_Quantile.calls _ _ yL0 a2 t150 true _ ?side1 ?side2 A27.out).mono ?_);(case side1 => repeat (first|exact (Kd.C_below HR141.out HB.out)|(with_reducible refine Kd.C_alloc ?_ _)|(with_reducible refine Kd.C_drewN ?_ _)|(with_reducible refine Kd.C_drew ?_)));(case side2 => exact HC141.out);rintro e w60 ⟨rfl, hb⟩;have n0_ := Aside0.mk (Kd.R_below (by (with_reducible repeat (first|apply Kd.R_alloc|apply Kd.R_drewN|apply Kd.R_drew));exact HO_7.out) hb);have n1_ := Aside0.mk (below_step (by repeat (with_reducible first|exact HB.out|apply xa|apply xb|apply xc)) hb);clear HO_7;clear HB;have HO_7 := n0_;have HB := n1_;clear n0_ n1_;(try clear hb);(try clear hb2);(try clear hk);(try clear hi))|(go_at_call 40;(with_reducible refine (pinfoldref35_At.calls k1 _ _ yL0 (wrap64 (Int.tdiv (wrap64 ((ji48) * (wrap64 ((yL0.length : Int) - 1)))) 100)) t157 _ ?side1 ?side2 A49.out).mono ?_);(case side1 => repeat (first|exact (Kd.C_below HR141.out HB.out)|(with_reducible refine Kd.C_alloc ?_ _)|(with_reducible refine Kd.C_drewN ?_ _)|(with_reducible refine Kd.C_drew ?_)));(case side2 => exact HC141.out);rintro e w' ⟨rfl, ⟨nd, rfl⟩⟩;(try first|exact ⟨rfl, _, World.drewN_drewN _ _ _⟩|exact ⟨rfl, _, Eq.trans (World.drewN_drewN _ _ _) (congrArg (World.drewN _) (Nat.add_assoc _ _ _))⟩))|(go_at_call 38;(with_reducible refine (census_Histogram.calls k1 _ _ yL0 _ _ yL1 t158 _ ?side1 ?side2 ?side3 ?side4 A51.out).mono ?_);(case side1 => repeat (first|exact (Kd.C_below HR141.out (by repeat (with_reducible first|exact HB.out|apply xa|apply xb|apply xc)))|(with_reducible refine Kd.C_alloc ?_ _)|(with_reducible refine Kd.C_drewN ?_ _)|(with_reducible refine Kd.C_drew ?_)));(case side2 => exact HC141.out);(case side3 => repeat (first|exact (Kd.C_below HR142.out (by repeat (with_reducible first|exact HB.out|apply xa|apply xb|apply xc)))|(with_reducible refine Kd.C_alloc ?_ _)|(with_reducible refine Kd.C_drewN ?_ _)|(with_reducible refine Kd.C_drew ?_)));(case side4 => exact HC142.out);rintro e w61 ⟨v159, rfl, ho0, hb⟩;have n0_ := Aside0.mk (Kd.R_elder' (by (with_reducible repeat (first|apply Kd.R_alloc|apply Kd.R_drewN|apply Kd.R_drew));exact HO_7.out) (Kd.R_base ho0) hb);have n1_ := Aside0.mk (Kd.R_lower (Kd.R_new' ho0 (Kd.R_lt (by (with_reducible repeat (first|apply Kd.R_alloc|apply Kd.R_drewN|apply Kd.R_drew));exact HO_7.out))) (below_size (by repeat (with_reducible first|exact HB.out|apply xa|apply xb|apply xc))));have n2_ := Aside0.mk (below_step (by repeat (with_reducible first|exact HB.out|apply xa|apply xb|apply xc)) hb);clear HO_7;clear HB;have HO_7 := n0_;have HO160 := n1_;have HB := n2_;clear n0_ n1_ n2_;(try clear hb);(try clear hb2);(try clear hk);(try clear hi);(try clear ho0);obtain ⟨Ao62, co62, eo62⟩ := Kd.R_slice HO160.out;subst eo62;obtain ⟨Ao63, co63, eo63⟩ := Kd.R_slice HO_7.out;subst eo63)|(go_at_call 21;(with_reducible refine (pinfoldref04_Same.calls k1 _ _ t158 _ _ x7_1 false _ ?side1 ?side2 ?side3 ?side4 A52.out).mono ?_);(case side1 => repeat (first|exact (Kd.R_reads' HO160.out).2.2|(with_reducible refine Kd.C_alloc ?_ _)|(with_reducible refine Kd.C_drewN ?_ _)|(with_reducible refine Kd.C_drew ?_)));(case side2 => exact (Kd.R_reads' HO160.out).2.1);(case side3 => repeat (first|exact (Kd.R_reads' HO_7.out).2.2|(with_reducible refine Kd.C_alloc ?_ _)|(with_reducible refine Kd.C_drewN ?_ _)|(with_reducible refine Kd.C_drew ?_)));(case side4 => exact (Kd.R_reads' HO_7.out).2.1);rintro e w' ⟨rfl, ⟨nd, rfl⟩⟩;(try first|exact ⟨rfl, _, World.drewN_drewN _ _ _⟩|exact ⟨rfl, _, Eq.trans (World.drewN_drewN _ _ _) (congrArg (World.drewN _) (Nat.add_assoc _ _ _))⟩)))
              repeat (go_quiet (first|(go_at_call 37;(with_reducible refine (census_Quantile.calls _ _ yL0 a2 t150 true _ ?side1 ?side2 A27.out).mono ?_);(case side1 => repeat (first|exact (Kd.C_below HR141.out HB.out)|(with_reducible refine Kd.C_alloc ?_ _)|(with_reducible refine Kd.C_drewN ?_ _)|(with_reducible refine Kd.C_drew ?_)));(case side2 => exact HC141.out);rintro e w60 ⟨rfl, hb⟩;have n0_ := Aside0.mk (Kd.R_below (by (with_reducible repeat (first|apply Kd.R_alloc|apply Kd.R_drewN|apply Kd.R_drew));exact HO_7.out) hb);have n1_ := Aside0.mk (below_step (by repeat (with_reducible first|exact HB.out|apply xa|apply xb|apply xc)) hb);clear HO_7;clear HB;have HO_7 := n0_;have HB := n1_;clear n0_ n1_;(try clear hb);(try clear hb2);(try clear hk);(try clear hi))|(go_at_call 40;(with_reducible refine (pinfoldref35_At.calls k1 _ _ yL0 (wrap64 (Int.tdiv (wrap64 ((ji48) * (wrap64 ((yL0.length : Int) - 1)))) 100)) t157 _ ?side1 ?side2 A49.out).mono ?_);(case side1 => repeat (first|exact (Kd.C_below HR141.out HB.out)|(with_reducible refine Kd.C_alloc ?_ _)|(with_reducible refine Kd.C_drewN ?_ _)|(with_reducible refine Kd.C_drew ?_)));(case side2 => exact HC141.out);rintro e w' ⟨rfl, ⟨nd, rfl⟩⟩;(try first|exact ⟨rfl, _, World.drewN_drewN _ _ _⟩|exact ⟨rfl, _, Eq.trans (World.drewN_drewN _ _ _) (congrArg (World.drewN _) (Nat.add_assoc _ _ _))⟩))|(go_at_call 38;(with_reducible refine (census_Histogram.calls k1 _ _ yL0 _ _ yL1 t158 _ ?side1 ?side2 ?side3 ?side4 A51.out).mono ?_);(case side1 => repeat (first|exact (Kd.C_below HR141.out (by repeat (with_reducible first|exact HB.out|apply xa|apply xb|apply xc)))|(with_reducible refine Kd.C_alloc ?_ _)|(with_reducible refine Kd.C_drewN ?_ _)|(with_reducible refine Kd.C_drew ?_)));(case side2 => exact HC141.out);(case side3 => repeat (first|exact (Kd.C_below HR142.out (by repeat (with_reducible first|exact HB.out|apply xa|apply xb|apply xc)))|(with_reducible refine Kd.C_alloc ?_ _)|(with_reducible refine Kd.C_drewN ?_ _)|(with_reducible refine Kd.C_drew ?_)));(case side4 => exact HC142.out);rintro e w61 ⟨v159, rfl, ho0, hb⟩;have n0_ := Aside0.mk (Kd.R_elder' (by (with_reducible repeat (first|apply Kd.R_alloc|apply Kd.R_drewN|apply Kd.R_drew));exact HO_7.out) (Kd.R_base ho0) hb);have n1_ := Aside0.mk (Kd.R_lower (Kd.R_new' ho0 (Kd.R_lt (by (with_reducible repeat (first|apply Kd.R_alloc|apply Kd.R_drewN|apply Kd.R_drew));exact HO_7.out))) (below_size (by repeat (with_reducible first|exact HB.out|apply xa|apply xb|apply xc))));have n2_ := Aside0.mk (below_step (by repeat (with_reducible first|exact HB.out|apply xa|apply xb|apply xc)) hb);clear HO_7;clear HB;have HO_7 := n0_;have HO160 := n1_;have HB := n2_;clear n0_ n1_ n2_;(try clear hb);(try clear hb2);(try clear hk);(try clear hi);(try clear ho0);obtain ⟨Ao62, co62, eo62⟩ := Kd.R_slice HO160.out;subst eo62;obtain ⟨Ao63, co63, eo63⟩ := Kd.R_slice HO_7.out;subst eo63)|(go_at_call 21;(with_reducible refine (pinfoldref04_Same.calls k1 _ _ t158 _ _ x7_1 false _ ?side1 ?side2 ?side3 ?side4 A52.out).mono ?_);(case side1 => repeat (first|exact (Kd.R_reads' HO160.out).2.2|(with_reducible refine Kd.C_alloc ?_ _)|(with_reducible refine Kd.C_drewN ?_ _)|(with_reducible refine Kd.C_drew ?_)));(case side2 => exact (Kd.R_reads' HO160.out).2.1);(case side3 => repeat (first|exact (Kd.R_reads' HO_7.out).2.2|(with_reducible refine Kd.C_alloc ?_ _)|(with_reducible refine Kd.C_drewN ?_ _)|(with_reducible refine Kd.C_drew ?_)));(case side4 => exact (Kd.R_reads' HO_7.out).2.1);rintro e w' ⟨rfl, ⟨nd, rfl⟩⟩;(try first|exact ⟨rfl, _, World.drewN_drewN _ _ _⟩|exact ⟨rfl, _, Eq.trans (World.drewN_drewN _ _ _) (congrArg (World.drewN _) (Nat.add_assoc _ _ _))⟩)));try go_wp2_with (first|(go_at_call 37;(with_reducible refine (census_Quantile.calls _ _ yL0 a2 t150 true _ ?side1 ?side2 A27.out).mono ?_);(case side1 => repeat (first|exact (Kd.C_below HR141.out HB.out)|(with_reducible refine Kd.C_alloc ?_ _)|(with_reducible refine Kd.C_drewN ?_ _)|(with_reducible refine Kd.C_drew ?_)));(case side2 => exact HC141.out);rintro e w60 ⟨rfl, hb⟩;have n0_ := Aside0.mk (Kd.R_below (by (with_reducible repeat (first|apply Kd.R_alloc|apply Kd.R_drewN|apply Kd.R_drew));exact HO_7.out) hb);have n1_ := Aside0.mk (below_step (by repeat (with_reducible first|exact HB.out|apply xa|apply xb|apply xc)) hb);clear HO_7;clear HB;have HO_7 := n0_;have HB := n1_;clear n0_ n1_;(try clear hb);(try clear hb2);(try clear hk);(try clear hi))|(go_at_call 40;(with_reducible refine (pinfoldref35_At.calls k1 _ _ yL0 (wrap64 (Int.tdiv (wrap64 ((ji48) * (wrap64 ((yL0.length : Int) - 1)))) 100)) t157 _ ?side1 ?side2 A49.out).mono ?_);(case side1 => repeat (first|exact (Kd.C_below HR141.out HB.out)|(with_reducible refine Kd.C_alloc ?_ _)|(with_reducible refine Kd.C_drewN ?_ _)|(with_reducible refine Kd.C_drew ?_)));(case side2 => exact HC141.out);rintro e w' ⟨rfl, ⟨nd, rfl⟩⟩;(try first|exact ⟨rfl, _, World.drewN_drewN _ _ _⟩|exact ⟨rfl, _, Eq.trans (World.drewN_drewN _ _ _) (congrArg (World.drewN _) (Nat.add_assoc _ _ _))⟩))|(go_at_call 38;(with_reducible refine (census_Histogram.calls k1 _ _ yL0 _ _ yL1 t158 _ ?side1 ?side2 ?side3 ?side4 A51.out).mono ?_);(case side1 => repeat (first|exact (Kd.C_below HR141.out (by repeat (with_reducible first|exact HB.out|apply xa|apply xb|apply xc)))|(with_reducible refine Kd.C_alloc ?_ _)|(with_reducible refine Kd.C_drewN ?_ _)|(with_reducible refine Kd.C_drew ?_)));(case side2 => exact HC141.out);(case side3 => repeat (first|exact (Kd.C_below HR142.out (by repeat (with_reducible first|exact HB.out|apply xa|apply xb|apply xc)))|(with_reducible refine Kd.C_alloc ?_ _)|(with_reducible refine Kd.C_drewN ?_ _)|(with_reducible refine Kd.C_drew ?_)));(case side4 => exact HC142.out);rintro e w61 ⟨v159, rfl, ho0, hb⟩;have n0_ := Aside0.mk (Kd.R_elder' (by (with_reducible repeat (first|apply Kd.R_alloc|apply Kd.R_drewN|apply Kd.R_drew));exact HO_7.out) (Kd.R_base ho0) hb);have n1_ := Aside0.mk (Kd.R_lower (Kd.R_new' ho0 (Kd.R_lt (by (with_reducible repeat (first|apply Kd.R_alloc|apply Kd.R_drewN|apply Kd.R_drew));exact HO_7.out))) (below_size (by repeat (with_reducible first|exact HB.out|apply xa|apply xb|apply xc))));have n2_ := Aside0.mk (below_step (by repeat (with_reducible first|exact HB.out|apply xa|apply xb|apply xc)) hb);clear HO_7;clear HB;have HO_7 := n0_;have HO160 := n1_;have HB := n2_;clear n0_ n1_ n2_;(try clear hb);(try clear hb2);(try clear hk);(try clear hi);(try clear ho0);obtain ⟨Ao62, co62, eo62⟩ := Kd.R_slice HO160.out;subst eo62;obtain ⟨Ao63, co63, eo63⟩ := Kd.R_slice HO_7.out;subst eo63)|(go_at_call 21;(with_reducible refine (pinfoldref04_Same.calls k1 _ _ t158 _ _ x7_1 false _ ?side1 ?side2 ?side3 ?side4 A52.out).mono ?_);(case side1 => repeat (first|exact (Kd.R_reads' HO160.out).2.2|(with_reducible refine Kd.C_alloc ?_ _)|(with_reducible refine Kd.C_drewN ?_ _)|(with_reducible refine Kd.C_drew ?_)));(case side2 => exact (Kd.R_reads' HO160.out).2.1);(case side3 => repeat (first|exact (Kd.R_reads' HO_7.out).2.2|(with_reducible refine Kd.C_alloc ?_ _)|(with_reducible refine Kd.C_drewN ?_ _)|(with_reducible refine Kd.C_drew ?_)));(case side4 => exact (Kd.R_reads' HO_7.out).2.1);rintro e w' ⟨rfl, ⟨nd, rfl⟩⟩;(try first|exact ⟨rfl, _, World.drewN_drewN _ _ _⟩|exact ⟨rfl, _, Eq.trans (World.drewN_drewN _ _ _) (congrArg (World.drewN _) (Nat.add_assoc _ _ _))⟩))))
              go_ret
              exact ⟨by first|rfl|(simp [errW_none, errW_some] <;> rfl)|(simp only [← hji4, ← hji7, ← hji10, ← hji47, ← hji48];first|rfl|(simp [errW_none, errW_some] <;> rfl))|(simp [*, errW_none, errW_some] <;> rfl), by repeat (with_reducible first|exact HB.out|apply xa|apply xb|apply xc)⟩
            ·rw [if_neg c50] at H
             have c50b0 : (t150 == t157) = false := beq_eq_false_iff_ne.mpr c50
             have c50b1 : (t150 != t157) = true := bne_iff_ne.mpr c50
             obtain rfl := Option.some.inj H
             go_wp2_with (first|(go_at_call 37;(with_reducible refine (census_Quantile.calls _ _ yL0 a2 t150 true _ ?side1 ?side2 A27.out).mono ?_);(case side1 => repeat (first|exact (Kd.C_below HR141.out HB.out)|(with_reducible refine Kd.C_alloc ?_ _)|(with_reducible refine Kd.C_drewN ?_ _)|(with_reducible refine Kd.C_drew ?_)));(case side2 => exact HC141.out);rintro e w64 ⟨rfl, hb⟩;have n0_ := Aside0.mk (Kd.R_below (by (with_reducible repeat (first|apply Kd.R_alloc|apply Kd.R_drewN|apply Kd.R_drew));exact HO_7.out) hb);have n1_ := Aside0.mk (below_step (by repeat (with_reducible first|exact HB.out|apply xa|apply xb|apply xc)) hb);clear HO_7;clear HB;have HO_7 := n0_;have HB := n1_;clear n0_ n1_;(try clear hb);(try clear hb2);(try clear hk);(try clear hi))|(go_at_call 40;(with_reducible refine (pinfoldref35_At.calls k1 _ _ yL0 (wrap64 (Int.tdiv (wrap64 ((ji48) * (wrap64 ((yL0.length : Int) - 1)))) 100)) t157 _ ?side1 ?side2 A49.out).mono ?_);(case side1 => repeat (first|exact (Kd.C_below HR141.out HB.out)|(with_reducible refine Kd.C_alloc ?_ _)|(with_reducible refine Kd.C_drewN ?_ _)|(with_reducible refine Kd.C_drew ?_)));(case side2 => exact HC141.out);rintro e w' ⟨rfl, ⟨nd, rfl⟩⟩;(try first|exact ⟨rfl, _, World.drewN_drewN _ _ _⟩|exact ⟨rfl, _, Eq.trans (World.drewN_drewN _ _ _) (congrArg (World.drewN _) (Nat.add_assoc _ _ _))⟩)))
             repeat (go_quiet (first|(go_at_call 37;(with_reducible refine (census_Quantile.calls _ _ yL0 a2 t150 true _ ?side1 ?side2 A27.out).mono ?_);(case side1 => repeat (first|exact (Kd.C_below HR141.out HB.out)|(with_reducible refine Kd.C_alloc ?_ _)|(with_reducible refine Kd.C_drewN ?_ _)|(with_reducible refine Kd.C_drew ?_)));(case side2 => exact HC141.out);rintro e w64 ⟨rfl, hb⟩;have n0_ := Aside0.mk (Kd.R_below (by (with_reducible repeat (first|apply Kd.R_alloc|apply Kd.R_drewN|apply Kd.R_drew));exact HO_7.out) hb);have n1_ := Aside0.mk (below_step (by repeat (with_reducible first|exact HB.out|apply xa|apply xb|apply xc)) hb);clear HO_7;clear HB;have HO_7 := n0_;have HB := n1_;clear n0_ n1_;(try clear hb);(try clear hb2);(try clear hk);(try clear hi))|(go_at_call 40;(with_reducible refine (pinfoldref35_At.calls k1 _ _ yL0 (wrap64 (Int.tdiv (wrap64 ((ji48) * (wrap64 ((yL0.length : Int) - 1)))) 100)) t157 _ ?side1 ?side2 A49.out).mono ?_);(case side1 => repeat (first|exact (Kd.C_below HR141.out HB.out)|(with_reducible refine Kd.C_alloc ?_ _)|(with_reducible refine Kd.C_drewN ?_ _)|(with_reducible refine Kd.C_drew ?_)));(case side2 => exact HC141.out);rintro e w' ⟨rfl, ⟨nd, rfl⟩⟩;(try first|exact ⟨rfl, _, World.drewN_drewN _ _ _⟩|exact ⟨rfl, _, Eq.trans (World.drewN_drewN _ _ _) (congrArg (World.drewN _) (Nat.add_assoc _ _ _))⟩)));try go_wp2_with (first|(go_at_call 37;(with_reducible refine (census_Quantile.calls _ _ yL0 a2 t150 true _ ?side1 ?side2 A27.out).mono ?_);(case side1 => repeat (first|exact (Kd.C_below HR141.out HB.out)|(with_reducible refine Kd.C_alloc ?_ _)|(with_reducible refine Kd.C_drewN ?_ _)|(with_reducible refine Kd.C_drew ?_)));(case side2 => exact HC141.out);rintro e w64 ⟨rfl, hb⟩;have n0_ := Aside0.mk (Kd.R_below (by (with_reducible repeat (first|apply Kd.R_alloc|apply Kd.R_drewN|apply Kd.R_drew));exact HO_7.out) hb);have n1_ := Aside0.mk (below_step (by repeat (with_reducible first|exact HB.out|apply xa|apply xb|apply xc)) hb);clear HO_7;clear HB;have HO_7 := n0_;have HB := n1_;clear n0_ n1_;(try clear hb);(try clear hb2);(try clear hk);(try clear hi))|(go_at_call 40;(with_reducible refine (pinfoldref35_At.calls k1 _ _ yL0 (wrap64 (Int.tdiv (wrap64 ((ji48) * (wrap64 ((yL0.length : Int) - 1)))) 100)) t157 _ ?side1 ?side2 A49.out).mono ?_);(case side1 => repeat (first|exact (Kd.C_below HR141.out HB.out)|(with_reducible refine Kd.C_alloc ?_ _)|(with_reducible refine Kd.C_drewN ?_ _)|(with_reducible refine Kd.C_drew ?_)));(case side2 => exact HC141.out);rintro e w' ⟨rfl, ⟨nd, rfl⟩⟩;(try first|exact ⟨rfl, _, World.drewN_drewN _ _ _⟩|exact ⟨rfl, _, Eq.trans (World.drewN_drewN _ _ _) (congrArg (World.drewN _) (Nat.add_assoc _ _ _))⟩))))
             go_ret
             exact ⟨by first|rfl|(simp [errW_none, errW_some] <;> rfl)|(simp only [← hji4, ← hji7, ← hji10, ← hji47, ← hji48];first|rfl|(simp [errW_none, errW_some] <;> rfl))|(simp [*, errW_none, errW_some] <;> rfl), by repeat (with_reducible first|exact HB.out|apply xa|apply xb|apply xc)⟩
           ·replace c46 := Bool.eq_false_iff.mpr c46
            subst c46
            have H1 : (some false) = some r := by rw [if_neg (show ¬ (false = true) by decide)] at H;exact H
            clear H
            have H := H1
            clear H1
            obtain rfl := Option.some.inj H
            go_wp2_with (first|(go_at_call 37;(with_reducible refine (census_Quantile.calls _ _ yL0 a2 t150 false _ ?side1 ?side2 A27.out).mono ?_);(case side1 => repeat (first|exact (Kd.C_below HR141.out HB.out)|(with_reducible refine Kd.C_alloc ?_ _)|(with_reducible refine Kd.C_drewN ?_ _)|(with_reducible refine Kd.C_drew ?_)));(case side2 => exact HC141.out);rintro e w65 ⟨rfl, hb⟩;have n0_ := Aside0.mk (Kd.R_below (by (with_reducible repeat (first|apply Kd.R_alloc|apply Kd.R_drewN|apply Kd.R_drew));exact HO_7.out) hb);have n1_ := Aside0.mk (below_step (by repeat (with_reducible first|exact HB.out|apply xa|apply xb|apply xc)) hb);clear HO_7;clear HB;have HO_7 := n0_;have HB := n1_;clear n0_ n1_;(try clear hb);(try clear hb2);(try clear hk);(try clear hi)))
            repeat (go_quiet (first|(go_at_call 37;(with_reducible refine (census_Quantile.calls _ _ yL0 a2 t150 false _ ?side1 ?side2 A27.out).mono ?_);(case side1 => repeat (first|exact (Kd.C_below HR141.out HB.out)|(with_reducible refine Kd.C_alloc ?_ _)|(with_reducible refine Kd.C_drewN ?_ _)|(with_reducible refine Kd.C_drew ?_)));(case side2 => exact HC141.out);rintro e w65 ⟨rfl, hb⟩;have n0_ := Aside0.mk (Kd.R_below (by (with_reducible repeat (first|apply Kd.R_alloc|apply Kd.R_drewN|apply Kd.R_drew));exact HO_7.out) hb);have n1_ := Aside0.mk (below_step (by repeat (with_reducible first|exact HB.out|apply xa|apply xb|apply xc)) hb);clear HO_7;clear HB;have HO_7 := n0_;have HB := n1_;clear n0_ n1_;(try clear hb);(try clear hb2);(try clear hk);(try clear hi)));try go_wp2_with (first|(go_at_call 37;(with_reducible refine (census_Quantile.calls _ _ yL0 a2 t150 false _ ?side1 ?side2 A27.out).mono ?_);(case side1 => repeat (first|exact (Kd.C_below HR141.out HB.out)|(with_reducible refine Kd.C_alloc ?_ _)|(with_reducible refine Kd.C_drewN ?_ _)|(with_reducible refine Kd.C_drew ?_)));(case side2 => exact HC141.out);rintro e w65 ⟨rfl, hb⟩;have n0_ := Aside0.mk (Kd.R_below (by (with_reducible repeat (first|apply Kd.R_alloc|apply Kd.R_drewN|apply Kd.R_drew));exact HO_7.out) hb);have n1_ := Aside0.mk (below_step (by repeat (with_reducible first|exact HB.out|apply xa|apply xb|apply xc)) hb);clear HO_7;clear HB;have HO_7 := n0_;have HB := n1_;clear n0_ n1_;(try clear hb);(try clear hb2);(try clear hk);(try clear hi))))
            go_ret
            exact ⟨by first|rfl|(simp [errW_none, errW_some] <;> rfl)|(simp only [← hji4, ← hji7, ← hji10];first|rfl|(simp [errW_none, errW_some] <;> rfl))|(simp [*, errW_none, errW_some] <;> rfl), by repeat (with_reducible first|exact HB.out|apply xa|apply xb|apply xc)⟩
      ·rw [if_neg c12] at H
       exact absurd H (by simp)
     ·rw [if_neg c11] at H
      exact absurd H (by simp)
    ·rw [if_neg c9] at H
     exact absurd H (by simp)
   ·rw [if_neg c8] at H
    exact absurd H (by simp)
  ·rw [if_neg c6] at H
   exact absurd H (by simp)
 ·rw [if_neg c5] at H
  exact absurd H (by simp)

/-- THE ONE PURE STATEMENT of pinfoldlaw35_CensusNumbers: yours. -/
def pinfoldlaw35_CensusNumbers.Pure : Prop := ∀ (l0 : List Int) (l1 : List Int) (a2 : Int), l0.length ≤ maxLen → l0.length * 8 ≤ 140737488351232 → (∀ x ∈ l0, (Lit.int .i64 x).wf = true) → l1.length ≤ maxLen → l1.length * 8 ≤ 140737488351232 → (∀ x ∈ l1, (Lit.int .i64 x).wf = true) → (Lit.int .i64 a2).wf = true → ∃ k, pinfoldlaw35_CensusNumbers.f k l0 l1 a2 = some true
theorem pinfoldlaw35_CensusNumbers.walk (P : pinfoldlaw35_CensusNumbers.Pure) (a0 : Option Addr) (len0 cap0 : Nat) (z0 : List Int) (a1 : Option Addr) (len1 cap1 : Nat) (z1 : List Int) (a2 : Int) (w : World) (w0 : (a0 = none ∧ len0 = 0 ∧ cap0 = 0 ∧ z0 = []) ∨ ∃ x, a0 = some x ∧ len0 ≤ cap0 ∧ cap0 ≤ maxLen ∧ z0.length = cap0 ∧ (∀ i, i < z0.length → w.cell? (x.add i) = some (.int .i64 (z0.getD i 0))) ∧ ∀ n ∈ z0, (Lit.int .i64 n).wf = true) (y0 : len0 * 8 ≤ 140737488351232) (w1 : (a1 = none ∧ len1 = 0 ∧ cap1 = 0 ∧ z1 = []) ∨ ∃ x, a1 = some x ∧ len1 ≤ cap1 ∧ cap1 ≤ maxLen ∧ z1.length = cap1 ∧ (∀ i, i < z1.length → w.cell? (x.add i) = some (.int .i64 (z1.getD i 0))) ∧ ∀ n ∈ z1, (Lit.int .i64 n).wf = true) (y1 : len1 * 8 ≤ 140737488351232) (w2 : (Lit.int .i64 a2).wf = true) :
  Calls Try.prog 7 #[.slice a0 len0 cap0, .slice a1 len1 cap1, .int .i64 a2] w fun e w' => e = .returned (.bool true) ∧ Below w.heap.size w w' := by
 obtain ⟨l0, rfl, hr0, hm0, hw0, hc0⟩ := ReadsInt.ofRowC w0
 obtain ⟨l1, rfl, hr1, hm1, hw1, hc1⟩ := ReadsInt.ofRowC w1
 obtain ⟨k, h⟩ := P l0 l1 a2 hm0 y0 hw0 hm1 y1 hw1 w2
 refine (pinfoldlaw35_CensusNumbers.calls k _ _ l0 _ _ l1 a2 true w (Kd.C_of_reads (d := (0 : Int)) (h1 := fun _ => rfl) hr0) hc0 (Kd.C_of_reads (d := (0 : Int)) (h1 := fun _ => rfl) hr1) hc1 h).mono ?_
 rintro e w' ⟨rfl, hd⟩
 exact ⟨rfl, hd⟩

end Go.Proofs.Ytidhcdifmcffcaa.PCen
