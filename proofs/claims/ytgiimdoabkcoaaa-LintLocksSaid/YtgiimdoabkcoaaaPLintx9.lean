/- Functions of the program as Lean functions, and proofs that the code comes to their answers: printed by this session's program. -/
import Derived.Test.YtgiimdoabkcoaaaPLintx0
import Derived.Test.YtgiimdoabkcoaaaPLintx8
namespace Go.Proofs.Ytgiimdoabkcoaaa.PLint
open Go.RowKit Go.Proofs.YtgiimdoabkcoaaaW.PrintWords Go.Proofs.YtgiimdoabkcoaaaW.PrintLast Go.Proofs.YtgiimdoabkcoaaaW.PrintMore
attribute [local go_sem] max2_int min2_int max_two min_two max_three min_three max_four min_four   -- for this text's walks alone
set_option linter.unusedVariables false
set_option linter.unusedSimpArgs false

mutual
def pinfoldref26_Held.l0 : Nat → Int → Int → Int → List Bool → List Bool → Int → Int → Int → List (S41) → Option (List Bool × List Bool)
 | 0, _, _, _, _, _, _, _, _, _ => none
 | k + 1, x1, x2, x8, x9, x10, x30, x31, x252000, x252001 => if x31 < x30 then (if 0 ≤ x31 then (if x31 < (x10.length : Int) then (pinfoldref26_Held.l0 k x1 x2 x8 x9 (x10.set (x31 : Int).toNat (x31 == 0)) x30 (wrap64 (x31 + 1)) x252000 x252001) else (none)) else (none)) else (pinfoldref26_Held.l1 k x1 x2 x8 x9 x10 true x252000 x252001)
def pinfoldref26_Held.l1 : Nat → Int → Int → Int → List Bool → List Bool → Bool → Int → List (S41) → Option (List Bool × List Bool)
 | 0, _, _, _, _, _, _, _, _ => none
 | k + 1, x1, x2, x8, x9, x10, x12, x252000, x252001 => if x12 = true then (pinfoldref26_Held.l2 k x1 x2 x8 x9 x10 false (x252001.length : Int) 0 x252000 x252001) else (if 0 ≤ x8 then (if (x8 : Int).toNat ≤ 281474976710656 then ((some (List.replicate (x8 : Int).toNat false : List Bool)).bind fun y281 => (pinfoldref26_Held.l4 k x9 x10 y281 (y281.length : Int) 0)) else (none)) else (none))
def pinfoldref26_Held.l2 : Nat → Int → Int → Int → List Bool → List Bool → Bool → Int → Int → Int → List (S41) → Option (List Bool × List Bool)
 | 0, _, _, _, _, _, _, _, _, _, _ => none
 | k + 1, x1, x2, x8, x9, x10, x12, x43, x44, x252000, x252001 => if x44 < x43 then (pinfoldref26_Held.l3 k x1 x2 x8 x9 x10 x12 x44 x43 x44 (x252001.length : Int) 0 x252000 x252001) else (pinfoldref26_Held.l1 k x1 x2 x8 x9 x10 x12 x252000 x252001)
def pinfoldref26_Held.l3 : Nat → Int → Int → Int → List Bool → List Bool → Bool → Int → Int → Int → Int → Int → Int → List (S41) → Option (List Bool × List Bool)
 | 0, _, _, _, _, _, _, _, _, _, _, _, _, _ => none
 | k + 1, x1, x2, x8, x9, x10, x12, x13, x43, x44, x49, x50, x252000, x252001 => if x50 < x49 then ((pinfoldref26_Goes.f x252000 x252001 x13 x50).bind fun t259 => (if t259 = true then (if 0 ≤ x13 then (if x13 < (x252001.length : Int) then (if ((rd_T41 x252001 x13).f0) = 9 then (if (wrap64 ((rd_T41 x252001 x13).f3)) = x1 then (pinfoldref26_Held.j4 k x1 x2 x8 x9 x10 x12 x13 x50 (decide (x1 < x2)) x43 x44 x49 x50 x252000 x252001 ((rd_T41 x252001 x13).f0) ((rd_T41 x252001 x13).f1) ((rd_T41 x252001 x13).f2) ((rd_T41 x252001 x13).f3)) else (pinfoldref26_Held.j4 k x1 x2 x8 x9 x10 x12 x13 x50 false x43 x44 x49 x50 x252000 x252001 ((rd_T41 x252001 x13).f0) ((rd_T41 x252001 x13).f1) ((rd_T41 x252001 x13).f2) ((rd_T41 x252001 x13).f3))) else (pinfoldref26_Held.j4 k x1 x2 x8 x9 x10 x12 x13 x50 false x43 x44 x49 x50 x252000 x252001 ((rd_T41 x252001 x13).f0) ((rd_T41 x252001 x13).f1) ((rd_T41 x252001 x13).f2) ((rd_T41 x252001 x13).f3))) else (none)) else (none)) else (pinfoldref26_Held.l3 k x1 x2 x8 x9 x10 x12 x13 x43 x44 x49 (wrap64 (x50 + 1)) x252000 x252001))) else (pinfoldref26_Held.l2 k x1 x2 x8 x9 x10 x12 x43 (wrap64 (x44 + 1)) x252000 x252001)
def pinfoldref26_Held.j4 : Nat → Int → Int → Int → List Bool → List Bool → Bool → Int → Int → Bool → Int → Int → Int → Int → Int → List (S41) → Int → Int → Int → Int → Option (List Bool × List Bool)
 | 0, _, _, _, _, _, _, _, _, _, _, _, _, _, _, _, _, _, _, _ => none
 | k + 1, x1, x2, x8, x9, x10, x12, x13, x14, x16, x43, x44, x49, x50, x252000, x252001, x262000, x262001, x262002, x262003 => if x262000 = 10 then (pinfoldref26_Held.j5 k x1 x2 x8 x9 x10 x12 x13 x14 x16 ((wrap64 (x262003)) == x1) x43 x44 x49 x50 x252000 x252001) else (pinfoldref26_Held.j5 k x1 x2 x8 x9 x10 x12 x13 x14 x16 false x43 x44 x49 x50 x252000 x252001)
def pinfoldref26_Held.j5 : Nat → Int → Int → Int → List Bool → List Bool → Bool → Int → Int → Bool → Bool → Int → Int → Int → Int → Int → List (S41) → Option (List Bool × List Bool)
 | 0, _, _, _, _, _, _, _, _, _, _, _, _, _, _, _, _ => none
 | k + 1, x1, x2, x8, x9, x10, x12, x13, x14, x16, x17, x43, x44, x49, x50, x252000, x252001 => if 0 ≤ x13 then (if x13 < (x9.length : Int) then (if rdOf false x9 x13 = true then (pinfoldref26_Held.j6 k x1 x2 x8 x9 x10 x12 x13 x14 x16 x17 (!x17) x43 x44 x49 x50 x252000 x252001) else (if x16 = true then (if x13 < (x10.length : Int) then (if rdOf false x10 x13 = true then (pinfoldref26_Held.j6 k x1 x2 x8 x9 x10 x12 x13 x14 x16 x17 (!x17) x43 x44 x49 x50 x252000 x252001) else (pinfoldref26_Held.j6 k x1 x2 x8 x9 x10 x12 x13 x14 x16 x17 false x43 x44 x49 x50 x252000 x252001)) else (none)) else (pinfoldref26_Held.j6 k x1 x2 x8 x9 x10 x12 x13 x14 x16 x17 false x43 x44 x49 x50 x252000 x252001))) else (none)) else (none)
def pinfoldref26_Held.j6 : Nat → Int → Int → Int → List Bool → List Bool → Bool → Int → Int → Bool → Bool → Bool → Int → Int → Int → Int → Int → List (S41) → Option (List Bool × List Bool)
 | 0, _, _, _, _, _, _, _, _, _, _, _, _, _, _, _, _, _ => none
 | k + 1, x1, x2, x8, x9, x10, x12, x13, x14, x16, x17, x18, x43, x44, x49, x50, x252000, x252001 => if 0 ≤ x13 then (if x13 < (x10.length : Int) then (if rdOf false x10 x13 = true then (if x16 = true then (if x17 = true then (if x13 < (x9.length : Int) then (if rdOf false x9 x13 = true then (pinfoldref26_Held.j7 k x1 x2 x8 x9 x10 x12 x13 x14 x18 true x43 x44 x49 x50 x252000 x252001) else (pinfoldref26_Held.j7 k x1 x2 x8 x9 x10 x12 x13 x14 x18 (rdOf false x10 x13) x43 x44 x49 x50 x252000 x252001)) else (none)) else (pinfoldref26_Held.j7 k x1 x2 x8 x9 x10 x12 x13 x14 x18 false x43 x44 x49 x50 x252000 x252001)) else (pinfoldref26_Held.j7 k x1 x2 x8 x9 x10 x12 x13 x14 x18 true x43 x44 x49 x50 x252000 x252001)) else (if x17 = true then (if x13 < (x9.length : Int) then (if rdOf false x9 x13 = true then (pinfoldref26_Held.j7 k x1 x2 x8 x9 x10 x12 x13 x14 x18 true x43 x44 x49 x50 x252000 x252001) else (pinfoldref26_Held.j7 k x1 x2 x8 x9 x10 x12 x13 x14 x18 (rdOf false x10 x13) x43 x44 x49 x50 x252000 x252001)) else (none)) else (pinfoldref26_Held.j7 k x1 x2 x8 x9 x10 x12 x13 x14 x18 false x43 x44 x49 x50 x252000 x252001))) else (none)) else (none)
def pinfoldref26_Held.j7 : Nat → Int → Int → Int → List Bool → List Bool → Bool → Int → Int → Bool → Bool → Int → Int → Int → Int → Int → List (S41) → Option (List Bool × List Bool)
 | 0, _, _, _, _, _, _, _, _, _, _, _, _, _, _, _, _ => none
 | k + 1, x1, x2, x8, x9, x10, x12, x13, x14, x18, x19, x43, x44, x49, x50, x252000, x252001 => if x18 = true then (if 0 ≤ x14 then (if x14 < (x9.length : Int) then (if rdOf false x9 x14 = true then (if x19 = true then (if x14 < (x10.length : Int) then (pinfoldref26_Held.j8 k x1 x2 x8 x9 x10 x12 x13 x14 x18 x19 x43 x44 x49 x50 (!(rdOf false x10 x14)) x252000 x252001) else (none)) else (pinfoldref26_Held.j8 k x1 x2 x8 x9 x10 x12 x13 x14 x18 x19 x43 x44 x49 x50 false x252000 x252001)) else (pinfoldref26_Held.j8 k x1 x2 x8 x9 x10 x12 x13 x14 x18 x19 x43 x44 x49 x50 true x252000 x252001)) else (none)) else (none)) else (if x19 = true then (if 0 ≤ x14 then (if x14 < (x10.length : Int) then (pinfoldref26_Held.j8 k x1 x2 x8 x9 x10 x12 x13 x14 x18 x19 x43 x44 x49 x50 (!(rdOf false x10 x14)) x252000 x252001) else (none)) else (none)) else (pinfoldref26_Held.j8 k x1 x2 x8 x9 x10 x12 x13 x14 x18 x19 x43 x44 x49 x50 false x252000 x252001))
def pinfoldref26_Held.j8 : Nat → Int → Int → Int → List Bool → List Bool → Bool → Int → Int → Bool → Bool → Int → Int → Int → Int → Bool → Int → List (S41) → Option (List Bool × List Bool)
 | 0, _, _, _, _, _, _, _, _, _, _, _, _, _, _, _, _, _ => none
 | k + 1, x1, x2, x8, x9, x10, x12, x13, x14, x18, x19, x43, x44, x49, x50, x145, x252000, x252001 => if x145 = true then (if 0 ≤ x14 then (if x14 < (x9.length : Int) then (if rdOf false x9 x14 = true then ((some (x9.set (x14 : Int).toNat true : List Bool)).bind fun y273 => (if x14 < (x10.length : Int) then (if rdOf false x10 x14 = true then (pinfoldref26_Held.l3 k x1 x2 x8 y273 (x10.set (x14 : Int).toNat true) true x13 x43 x44 x49 (wrap64 (x50 + 1)) x252000 x252001) else (pinfoldref26_Held.l3 k x1 x2 x8 y273 (x10.set (x14 : Int).toNat x19) true x13 x43 x44 x49 (wrap64 (x50 + 1)) x252000 x252001)) else (none))) else ((some (x9.set (x14 : Int).toNat x18 : List Bool)).bind fun y277 => (if x14 < (x10.length : Int) then (if rdOf false x10 x14 = true then (pinfoldref26_Held.l3 k x1 x2 x8 y277 (x10.set (x14 : Int).toNat true) true x13 x43 x44 x49 (wrap64 (x50 + 1)) x252000 x252001) else (pinfoldref26_Held.l3 k x1 x2 x8 y277 (x10.set (x14 : Int).toNat x19) true x13 x43 x44 x49 (wrap64 (x50 + 1)) x252000 x252001)) else (none)))) else (none)) else (none)) else (pinfoldref26_Held.l3 k x1 x2 x8 x9 x10 x12 x13 x43 x44 x49 (wrap64 (x50 + 1)) x252000 x252001)
def pinfoldref26_Held.l4 : Nat → List Bool → List Bool → List Bool → Int → Int → Option (List Bool × List Bool)
 | 0, _, _, _, _, _ => none
 | k + 1, x9, x10, x20, x171, x172 => if x172 < x171 then (if 0 ≤ x172 then (if x172 < (x9.length : Int) then (if rdOf false x9 x172 = true then (if x172 < (x10.length : Int) then (if x172 < (x20.length : Int) then (pinfoldref26_Held.l4 k x9 x10 (x20.set (x172 : Int).toNat (!(rdOf false x10 x172))) x171 (wrap64 (x172 + 1))) else (none)) else (none)) else (if x172 < (x20.length : Int) then (pinfoldref26_Held.l4 k x9 x10 (x20.set (x172 : Int).toNat false) x171 (wrap64 (x172 + 1))) else (none))) else (none)) else (none)) else (some (x9, x20))
end
def pinfoldref26_Held.f (k : Nat) (a0_0 : Int) (l0_1 : List (S41)) (a1 : Int) (a2 : Int) : Option (List Bool × List Bool) := if 0 ≤ (l0_1.length : Int) then (if ((l0_1.length : Int) : Int).toNat ≤ 281474976710656 then ((some (List.replicate ((l0_1.length : Int) : Int).toNat false : List Bool)).bind fun y255 => (pinfoldref26_Held.l0 k a1 a2 (l0_1.length : Int) (List.replicate ((l0_1.length : Int) : Int).toNat false) y255 (y255.length : Int) 0 a0_0 l0_1)) else (none)) else (none)
theorem pinfoldref26_Held.mono_l : ∀ k, (∀ y0 y1 y2 y3 y4 y5 y6 y7 y8, LeO (pinfoldref26_Held.l0 k y0 y1 y2 y3 y4 y5 y6 y7 y8) (pinfoldref26_Held.l0 (k + 1) y0 y1 y2 y3 y4 y5 y6 y7 y8)) ∧ (∀ y0 y1 y2 y3 y4 y5 y6 y7, LeO (pinfoldref26_Held.l1 k y0 y1 y2 y3 y4 y5 y6 y7) (pinfoldref26_Held.l1 (k + 1) y0 y1 y2 y3 y4 y5 y6 y7)) ∧ (∀ y0 y1 y2 y3 y4 y5 y6 y7 y8 y9, LeO (pinfoldref26_Held.l2 k y0 y1 y2 y3 y4 y5 y6 y7 y8 y9) (pinfoldref26_Held.l2 (k + 1) y0 y1 y2 y3 y4 y5 y6 y7 y8 y9)) ∧ (∀ y0 y1 y2 y3 y4 y5 y6 y7 y8 y9 y10 y11 y12, LeO (pinfoldref26_Held.l3 k y0 y1 y2 y3 y4 y5 y6 y7 y8 y9 y10 y11 y12) (pinfoldref26_Held.l3 (k + 1) y0 y1 y2 y3 y4 y5 y6 y7 y8 y9 y10 y11 y12)) ∧ (∀ y0 y1 y2 y3 y4 y5 y6 y7 y8 y9 y10 y11 y12 y13 y14 y15 y16 y17 y18, LeO (pinfoldref26_Held.j4 k y0 y1 y2 y3 y4 y5 y6 y7 y8 y9 y10 y11 y12 y13 y14 y15 y16 y17 y18) (pinfoldref26_Held.j4 (k + 1) y0 y1 y2 y3 y4 y5 y6 y7 y8 y9 y10 y11 y12 y13 y14 y15 y16 y17 y18)) ∧ (∀ y0 y1 y2 y3 y4 y5 y6 y7 y8 y9 y10 y11 y12 y13 y14 y15, LeO (pinfoldref26_Held.j5 k y0 y1 y2 y3 y4 y5 y6 y7 y8 y9 y10 y11 y12 y13 y14 y15) (pinfoldref26_Held.j5 (k + 1) y0 y1 y2 y3 y4 y5 y6 y7 y8 y9 y10 y11 y12 y13 y14 y15)) ∧ (∀ y0 y1 y2 y3 y4 y5 y6 y7 y8 y9 y10 y11 y12 y13 y14 y15 y16, LeO (pinfoldref26_Held.j6 k y0 y1 y2 y3 y4 y5 y6 y7 y8 y9 y10 y11 y12 y13 y14 y15 y16) (pinfoldref26_Held.j6 (k + 1) y0 y1 y2 y3 y4 y5 y6 y7 y8 y9 y10 y11 y12 y13 y14 y15 y16)) ∧ (∀ y0 y1 y2 y3 y4 y5 y6 y7 y8 y9 y10 y11 y12 y13 y14 y15, LeO (pinfoldref26_Held.j7 k y0 y1 y2 y3 y4 y5 y6 y7 y8 y9 y10 y11 y12 y13 y14 y15) (pinfoldref26_Held.j7 (k + 1) y0 y1 y2 y3 y4 y5 y6 y7 y8 y9 y10 y11 y12 y13 y14 y15)) ∧ (∀ y0 y1 y2 y3 y4 y5 y6 y7 y8 y9 y10 y11 y12 y13 y14 y15 y16, LeO (pinfoldref26_Held.j8 k y0 y1 y2 y3 y4 y5 y6 y7 y8 y9 y10 y11 y12 y13 y14 y15 y16) (pinfoldref26_Held.j8 (k + 1) y0 y1 y2 y3 y4 y5 y6 y7 y8 y9 y10 y11 y12 y13 y14 y15 y16)) ∧ (∀ y0 y1 y2 y3 y4, LeO (pinfoldref26_Held.l4 k y0 y1 y2 y3 y4) (pinfoldref26_Held.l4 (k + 1) y0 y1 y2 y3 y4))
 | 0 => ⟨fun _ _ _ _ _ _ _ _ _ r h => by simp [pinfoldref26_Held.l0] at h, fun _ _ _ _ _ _ _ _ r h => by simp [pinfoldref26_Held.l1] at h, fun _ _ _ _ _ _ _ _ _ _ r h => by simp [pinfoldref26_Held.l2] at h, fun _ _ _ _ _ _ _ _ _ _ _ _ _ r h => by simp [pinfoldref26_Held.l3] at h, fun _ _ _ _ _ _ _ _ _ _ _ _ _ _ _ _ _ _ _ r h => by simp [pinfoldref26_Held.j4] at h, fun _ _ _ _ _ _ _ _ _ _ _ _ _ _ _ _ r h => by simp [pinfoldref26_Held.j5] at h, fun _ _ _ _ _ _ _ _ _ _ _ _ _ _ _ _ _ r h => by simp [pinfoldref26_Held.j6] at h, fun _ _ _ _ _ _ _ _ _ _ _ _ _ _ _ _ r h => by simp [pinfoldref26_Held.j7] at h, fun _ _ _ _ _ _ _ _ _ _ _ _ _ _ _ _ _ r h => by simp [pinfoldref26_Held.j8] at h, fun _ _ _ _ _ r h => by simp [pinfoldref26_Held.l4] at h⟩
 | k + 1 => by
  obtain ⟨ih0, ih1, ih2, ih3, ih4, ih5, ih6, ih7, ih8, ih9⟩ := pinfoldref26_Held.mono_l k
  refine ⟨?_, ?_, ?_, ?_, ?_, ?_, ?_, ?_, ?_, ?_⟩
  ·intro y0 y1 y2 y3 y4 y5 y6 y7 y8
   unfold pinfoldref26_Held.l0
   repeat' first
   | (with_reducible exact ih0 _ _ _ _ _ _ _ _ _)
   | (with_reducible exact ih1 _ _ _ _ _ _ _ _)
   | (with_reducible exact ih2 _ _ _ _ _ _ _ _ _ _)
   | (with_reducible exact ih3 _ _ _ _ _ _ _ _ _ _ _ _ _)
   | (with_reducible exact ih4 _ _ _ _ _ _ _ _ _ _ _ _ _ _ _ _ _ _ _)
   | (with_reducible exact ih5 _ _ _ _ _ _ _ _ _ _ _ _ _ _ _ _)
   | (with_reducible exact ih6 _ _ _ _ _ _ _ _ _ _ _ _ _ _ _ _ _)
   | (with_reducible exact ih7 _ _ _ _ _ _ _ _ _ _ _ _ _ _ _ _)
   | (with_reducible exact ih8 _ _ _ _ _ _ _ _ _ _ _ _ _ _ _ _ _)
   | (with_reducible exact ih9 _ _ _ _ _)
   | (with_reducible exact LeO.refl _)
   | (with_reducible exact LeO.none _)
   | (with_reducible refine LeO.ite ?_ ?_)
   | (with_reducible refine LeO.bind ?_ (fun _ => ?_))
   | exact ih0 _ _ _ _ _ _ _ _ _
   | exact ih1 _ _ _ _ _ _ _ _
   | exact ih2 _ _ _ _ _ _ _ _ _ _
   | exact ih3 _ _ _ _ _ _ _ _ _ _ _ _ _
   | exact ih4 _ _ _ _ _ _ _ _ _ _ _ _ _ _ _ _ _ _ _
   | exact ih5 _ _ _ _ _ _ _ _ _ _ _ _ _ _ _ _
   | exact ih6 _ _ _ _ _ _ _ _ _ _ _ _ _ _ _ _ _
   | exact ih7 _ _ _ _ _ _ _ _ _ _ _ _ _ _ _ _
   | exact ih8 _ _ _ _ _ _ _ _ _ _ _ _ _ _ _ _ _
   | exact ih9 _ _ _ _ _
   | exact LeO.none _
   | refine LeO.ite ?_ ?_
   | refine LeO.bind ?_ (fun _ => ?_)
  ·intro y0 y1 y2 y3 y4 y5 y6 y7
   unfold pinfoldref26_Held.l1
   repeat' first
   | (with_reducible exact ih0 _ _ _ _ _ _ _ _ _)
   | (with_reducible exact ih1 _ _ _ _ _ _ _ _)
   | (with_reducible exact ih2 _ _ _ _ _ _ _ _ _ _)
   | (with_reducible exact ih3 _ _ _ _ _ _ _ _ _ _ _ _ _)
   | (with_reducible exact ih4 _ _ _ _ _ _ _ _ _ _ _ _ _ _ _ _ _ _ _)
   | (with_reducible exact ih5 _ _ _ _ _ _ _ _ _ _ _ _ _ _ _ _)
   | (with_reducible exact ih6 _ _ _ _ _ _ _ _ _ _ _ _ _ _ _ _ _)
   | (with_reducible exact ih7 _ _ _ _ _ _ _ _ _ _ _ _ _ _ _ _)
   | (with_reducible exact ih8 _ _ _ _ _ _ _ _ _ _ _ _ _ _ _ _ _)
   | (with_reducible exact ih9 _ _ _ _ _)
   | (with_reducible exact LeO.refl _)
   | (with_reducible exact LeO.none _)
   | (with_reducible refine LeO.ite ?_ ?_)
   | (with_reducible refine LeO.bind ?_ (fun _ => ?_))
   | exact ih0 _ _ _ _ _ _ _ _ _
   | exact ih1 _ _ _ _ _ _ _ _
   | exact ih2 _ _ _ _ _ _ _ _ _ _
   | exact ih3 _ _ _ _ _ _ _ _ _ _ _ _ _
   | exact ih4 _ _ _ _ _ _ _ _ _ _ _ _ _ _ _ _ _ _ _
   | exact ih5 _ _ _ _ _ _ _ _ _ _ _ _ _ _ _ _
   | exact ih6 _ _ _ _ _ _ _ _ _ _ _ _ _ _ _ _ _
   | exact ih7 _ _ _ _ _ _ _ _ _ _ _ _ _ _ _ _
   | exact ih8 _ _ _ _ _ _ _ _ _ _ _ _ _ _ _ _ _
   | exact ih9 _ _ _ _ _
   | exact LeO.none _
   | refine LeO.ite ?_ ?_
   | refine LeO.bind ?_ (fun _ => ?_)
  ·intro y0 y1 y2 y3 y4 y5 y6 y7 y8 y9
   unfold pinfoldref26_Held.l2
   repeat' first
   | (with_reducible exact ih0 _ _ _ _ _ _ _ _ _)
   | (with_reducible exact ih1 _ _ _ _ _ _ _ _)
   | (with_reducible exact ih2 _ _ _ _ _ _ _ _ _ _)
   | (with_reducible exact ih3 _ _ _ _ _ _ _ _ _ _ _ _ _)
   | (with_reducible exact ih4 _ _ _ _ _ _ _ _ _ _ _ _ _ _ _ _ _ _ _)
   | (with_reducible exact ih5 _ _ _ _ _ _ _ _ _ _ _ _ _ _ _ _)
   | (with_reducible exact ih6 _ _ _ _ _ _ _ _ _ _ _ _ _ _ _ _ _)
   | (with_reducible exact ih7 _ _ _ _ _ _ _ _ _ _ _ _ _ _ _ _)
   | (with_reducible exact ih8 _ _ _ _ _ _ _ _ _ _ _ _ _ _ _ _ _)
   | (with_reducible exact ih9 _ _ _ _ _)
   | (with_reducible exact LeO.refl _)
   | (with_reducible exact LeO.none _)
   | (with_reducible refine LeO.ite ?_ ?_)
   | (with_reducible refine LeO.bind ?_ (fun _ => ?_))
   | exact ih0 _ _ _ _ _ _ _ _ _
   | exact ih1 _ _ _ _ _ _ _ _
   | exact ih2 _ _ _ _ _ _ _ _ _ _
   | exact ih3 _ _ _ _ _ _ _ _ _ _ _ _ _
   | exact ih4 _ _ _ _ _ _ _ _ _ _ _ _ _ _ _ _ _ _ _
   | exact ih5 _ _ _ _ _ _ _ _ _ _ _ _ _ _ _ _
   | exact ih6 _ _ _ _ _ _ _ _ _ _ _ _ _ _ _ _ _
   | exact ih7 _ _ _ _ _ _ _ _ _ _ _ _ _ _ _ _
   | exact ih8 _ _ _ _ _ _ _ _ _ _ _ _ _ _ _ _ _
   | exact ih9 _ _ _ _ _
   | exact LeO.none _
   | refine LeO.ite ?_ ?_
   | refine LeO.bind ?_ (fun _ => ?_)
  ·intro y0 y1 y2 y3 y4 y5 y6 y7 y8 y9 y10 y11 y12
   unfold pinfoldref26_Held.l3
   repeat' first
   | (with_reducible exact ih0 _ _ _ _ _ _ _ _ _)
   | (with_reducible exact ih1 _ _ _ _ _ _ _ _)
   | (with_reducible exact ih2 _ _ _ _ _ _ _ _ _ _)
   | (with_reducible exact ih3 _ _ _ _ _ _ _ _ _ _ _ _ _)
   | (with_reducible exact ih4 _ _ _ _ _ _ _ _ _ _ _ _ _ _ _ _ _ _ _)
   | (with_reducible exact ih5 _ _ _ _ _ _ _ _ _ _ _ _ _ _ _ _)
   | (with_reducible exact ih6 _ _ _ _ _ _ _ _ _ _ _ _ _ _ _ _ _)
   | (with_reducible exact ih7 _ _ _ _ _ _ _ _ _ _ _ _ _ _ _ _)
   | (with_reducible exact ih8 _ _ _ _ _ _ _ _ _ _ _ _ _ _ _ _ _)
   | (with_reducible exact ih9 _ _ _ _ _)
   | (with_reducible exact LeO.refl _)
   | (with_reducible exact LeO.none _)
   | (with_reducible refine LeO.ite ?_ ?_)
   | (with_reducible refine LeO.bind ?_ (fun _ => ?_))
   | exact ih0 _ _ _ _ _ _ _ _ _
   | exact ih1 _ _ _ _ _ _ _ _
   | exact ih2 _ _ _ _ _ _ _ _ _ _
   | exact ih3 _ _ _ _ _ _ _ _ _ _ _ _ _
   | exact ih4 _ _ _ _ _ _ _ _ _ _ _ _ _ _ _ _ _ _ _
   | exact ih5 _ _ _ _ _ _ _ _ _ _ _ _ _ _ _ _
   | exact ih6 _ _ _ _ _ _ _ _ _ _ _ _ _ _ _ _ _
   | exact ih7 _ _ _ _ _ _ _ _ _ _ _ _ _ _ _ _
   | exact ih8 _ _ _ _ _ _ _ _ _ _ _ _ _ _ _ _ _
   | exact ih9 _ _ _ _ _
   | exact LeO.none _
   | refine LeO.ite ?_ ?_
   | refine LeO.bind ?_ (fun _ => ?_)
  ·intro y0 y1 y2 y3 y4 y5 y6 y7 y8 y9 y10 y11 y12 y13 y14 y15 y16 y17 y18
   unfold pinfoldref26_Held.j4
   repeat' first
   | (with_reducible exact ih0 _ _ _ _ _ _ _ _ _)
   | (with_reducible exact ih1 _ _ _ _ _ _ _ _)
   | (with_reducible exact ih2 _ _ _ _ _ _ _ _ _ _)
   | (with_reducible exact ih3 _ _ _ _ _ _ _ _ _ _ _ _ _)
   | (with_reducible exact ih4 _ _ _ _ _ _ _ _ _ _ _ _ _ _ _ _ _ _ _)
   | (with_reducible exact ih5 _ _ _ _ _ _ _ _ _ _ _ _ _ _ _ _)
   | (with_reducible exact ih6 _ _ _ _ _ _ _ _ _ _ _ _ _ _ _ _ _)
   | (with_reducible exact ih7 _ _ _ _ _ _ _ _ _ _ _ _ _ _ _ _)
   | (with_reducible exact ih8 _ _ _ _ _ _ _ _ _ _ _ _ _ _ _ _ _)
   | (with_reducible exact ih9 _ _ _ _ _)
   | (with_reducible exact LeO.refl _)
   | (with_reducible exact LeO.none _)
   | (with_reducible refine LeO.ite ?_ ?_)
   | (with_reducible refine LeO.bind ?_ (fun _ => ?_))
   | exact ih0 _ _ _ _ _ _ _ _ _
   | exact ih1 _ _ _ _ _ _ _ _
   | exact ih2 _ _ _ _ _ _ _ _ _ _
   | exact ih3 _ _ _ _ _ _ _ _ _ _ _ _ _
   | exact ih4 _ _ _ _ _ _ _ _ _ _ _ _ _ _ _ _ _ _ _
   | exact ih5 _ _ _ _ _ _ _ _ _ _ _ _ _ _ _ _
   | exact ih6 _ _ _ _ _ _ _ _ _ _ _ _ _ _ _ _ _
   | exact ih7 _ _ _ _ _ _ _ _ _ _ _ _ _ _ _ _
   | exact ih8 _ _ _ _ _ _ _ _ _ _ _ _ _ _ _ _ _
   | exact ih9 _ _ _ _ _
   | exact LeO.none _
   | refine LeO.ite ?_ ?_
   | refine LeO.bind ?_ (fun _ => ?_)
  ·intro y0 y1 y2 y3 y4 y5 y6 y7 y8 y9 y10 y11 y12 y13 y14 y15
   unfold pinfoldref26_Held.j5
   repeat' first
   | (with_reducible exact ih0 _ _ _ _ _ _ _ _ _)
   | (with_reducible exact ih1 _ _ _ _ _ _ _ _)
   | (with_reducible exact ih2 _ _ _ _ _ _ _ _ _ _)
   | (with_reducible exact ih3 _ _ _ _ _ _ _ _ _ _ _ _ _)
   | (with_reducible exact ih4 _ _ _ _ _ _ _ _ _ _ _ _ _ _ _ _ _ _ _)
   | (with_reducible exact ih5 _ _ _ _ _ _ _ _ _ _ _ _ _ _ _ _)
   | (with_reducible exact ih6 _ _ _ _ _ _ _ _ _ _ _ _ _ _ _ _ _)
   | (with_reducible exact ih7 _ _ _ _ _ _ _ _ _ _ _ _ _ _ _ _)
   | (with_reducible exact ih8 _ _ _ _ _ _ _ _ _ _ _ _ _ _ _ _ _)
   | (with_reducible exact ih9 _ _ _ _ _)
   | (with_reducible exact LeO.refl _)
   | (with_reducible exact LeO.none _)
   | (with_reducible refine LeO.ite ?_ ?_)
   | (with_reducible refine LeO.bind ?_ (fun _ => ?_))
   | exact ih0 _ _ _ _ _ _ _ _ _
   | exact ih1 _ _ _ _ _ _ _ _
   | exact ih2 _ _ _ _ _ _ _ _ _ _
   | exact ih3 _ _ _ _ _ _ _ _ _ _ _ _ _
   | exact ih4 _ _ _ _ _ _ _ _ _ _ _ _ _ _ _ _ _ _ _
   | exact ih5 _ _ _ _ _ _ _ _ _ _ _ _ _ _ _ _
   | exact ih6 _ _ _ _ _ _ _ _ _ _ _ _ _ _ _ _ _
   | exact ih7 _ _ _ _ _ _ _ _ _ _ _ _ _ _ _ _
   | exact ih8 _ _ _ _ _ _ _ _ _ _ _ _ _ _ _ _ _
   | exact ih9 _ _ _ _ _
   | exact LeO.none _
   | refine LeO.ite ?_ ?_
   | refine LeO.bind ?_ (fun _ => ?_)
  ·intro y0 y1 y2 y3 y4 y5 y6 y7 y8 y9 y10 y11 y12 y13 y14 y15 y16
   unfold pinfoldref26_Held.j6
   repeat' first
   | (with_reducible exact ih0 _ _ _ _ _ _ _ _ _)
   | (with_reducible exact ih1 _ _ _ _ _ _ _ _)
   | (with_reducible exact ih2 _ _ _ _ _ _ _ _ _ _)
   | (with_reducible exact ih3 _ _ _ _ _ _ _ _ _ _ _ _ _)
   | (with_reducible exact ih4 _ _ _ _ _ _ _ _ _ _ _ _ _ _ _ _ _ _ _)
   | (with_reducible exact ih5 _ _ _ _ _ _ _ _ _ _ _ _ _ _ _ _)
   | (with_reducible exact ih6 _ _ _ _ _ _ _ _ _ _ _ _ _ _ _ _ _)
   | (with_reducible exact ih7 _ _ _ _ _ _ _ _ _ _ _ _ _ _ _ _)
   | (with_reducible exact ih8 _ _ _ _ _ _ _ _ _ _ _ _ _ _ _ _ _)
   | (with_reducible exact ih9 _ _ _ _ _)
   | (with_reducible exact LeO.refl _)
   | (with_reducible exact LeO.none _)
   | (with_reducible refine LeO.ite ?_ ?_)
   | (with_reducible refine LeO.bind ?_ (fun _ => ?_))
   | exact ih0 _ _ _ _ _ _ _ _ _
   | exact ih1 _ _ _ _ _ _ _ _
   | exact ih2 _ _ _ _ _ _ _ _ _ _
   | exact ih3 _ _ _ _ _ _ _ _ _ _ _ _ _
   | exact ih4 _ _ _ _ _ _ _ _ _ _ _ _ _ _ _ _ _ _ _
   | exact ih5 _ _ _ _ _ _ _ _ _ _ _ _ _ _ _ _
   | exact ih6 _ _ _ _ _ _ _ _ _ _ _ _ _ _ _ _ _
   | exact ih7 _ _ _ _ _ _ _ _ _ _ _ _ _ _ _ _
   | exact ih8 _ _ _ _ _ _ _ _ _ _ _ _ _ _ _ _ _
   | exact ih9 _ _ _ _ _
   | exact LeO.none _
   | refine LeO.ite ?_ ?_
   | refine LeO.bind ?_ (fun _ => ?_)
  ·intro y0 y1 y2 y3 y4 y5 y6 y7 y8 y9 y10 y11 y12 y13 y14 y15
   unfold pinfoldref26_Held.j7
   repeat' first
   | (with_reducible exact ih0 _ _ _ _ _ _ _ _ _)
   | (with_reducible exact ih1 _ _ _ _ _ _ _ _)
   | (with_reducible exact ih2 _ _ _ _ _ _ _ _ _ _)
   | (with_reducible exact ih3 _ _ _ _ _ _ _ _ _ _ _ _ _)
   | (with_reducible exact ih4 _ _ _ _ _ _ _ _ _ _ _ _ _ _ _ _ _ _ _)
   | (with_reducible exact ih5 _ _ _ _ _ _ _ _ _ _ _ _ _ _ _ _)
   | (with_reducible exact ih6 _ _ _ _ _ _ _ _ _ _ _ _ _ _ _ _ _)
   | (with_reducible exact ih7 _ _ _ _ _ _ _ _ _ _ _ _ _ _ _ _)
   | (with_reducible exact ih8 _ _ _ _ _ _ _ _ _ _ _ _ _ _ _ _ _)
   | (with_reducible exact ih9 _ _ _ _ _)
   | (with_reducible exact LeO.refl _)
   | (with_reducible exact LeO.none _)
   | (with_reducible refine LeO.ite ?_ ?_)
   | (with_reducible refine LeO.bind ?_ (fun _ => ?_))
   | exact ih0 _ _ _ _ _ _ _ _ _
   | exact ih1 _ _ _ _ _ _ _ _
   | exact ih2 _ _ _ _ _ _ _ _ _ _
   | exact ih3 _ _ _ _ _ _ _ _ _ _ _ _ _
   | exact ih4 _ _ _ _ _ _ _ _ _ _ _ _ _ _ _ _ _ _ _
   | exact ih5 _ _ _ _ _ _ _ _ _ _ _ _ _ _ _ _
   | exact ih6 _ _ _ _ _ _ _ _ _ _ _ _ _ _ _ _ _
   | exact ih7 _ _ _ _ _ _ _ _ _ _ _ _ _ _ _ _
   | exact ih8 _ _ _ _ _ _ _ _ _ _ _ _ _ _ _ _ _
   | exact ih9 _ _ _ _ _
   | exact LeO.none _
   | refine LeO.ite ?_ ?_
   | refine LeO.bind ?_ (fun _ => ?_)
  ·intro y0 y1 y2 y3 y4 y5 y6 y7 y8 y9 y10 y11 y12 y13 y14 y15 y16
   unfold pinfoldref26_Held.j8
   repeat' first
   | (with_reducible exact ih0 _ _ _ _ _ _ _ _ _)
   | (with_reducible exact ih1 _ _ _ _ _ _ _ _)
   | (with_reducible exact ih2 _ _ _ _ _ _ _ _ _ _)
   | (with_reducible exact ih3 _ _ _ _ _ _ _ _ _ _ _ _ _)
   | (with_reducible exact ih4 _ _ _ _ _ _ _ _ _ _ _ _ _ _ _ _ _ _ _)
   | (with_reducible exact ih5 _ _ _ _ _ _ _ _ _ _ _ _ _ _ _ _)
   | (with_reducible exact ih6 _ _ _ _ _ _ _ _ _ _ _ _ _ _ _ _ _)
   | (with_reducible exact ih7 _ _ _ _ _ _ _ _ _ _ _ _ _ _ _ _)
   | (with_reducible exact ih8 _ _ _ _ _ _ _ _ _ _ _ _ _ _ _ _ _)
   | (with_reducible exact ih9 _ _ _ _ _)
   | (with_reducible exact LeO.refl _)
   | (with_reducible exact LeO.none _)
   | (with_reducible refine LeO.ite ?_ ?_)
   | (with_reducible refine LeO.bind ?_ (fun _ => ?_))
   | exact ih0 _ _ _ _ _ _ _ _ _
   | exact ih1 _ _ _ _ _ _ _ _
   | exact ih2 _ _ _ _ _ _ _ _ _ _
   | exact ih3 _ _ _ _ _ _ _ _ _ _ _ _ _
   | exact ih4 _ _ _ _ _ _ _ _ _ _ _ _ _ _ _ _ _ _ _
   | exact ih5 _ _ _ _ _ _ _ _ _ _ _ _ _ _ _ _
   | exact ih6 _ _ _ _ _ _ _ _ _ _ _ _ _ _ _ _ _
   | exact ih7 _ _ _ _ _ _ _ _ _ _ _ _ _ _ _ _
   | exact ih8 _ _ _ _ _ _ _ _ _ _ _ _ _ _ _ _ _
   | exact ih9 _ _ _ _ _
   | exact LeO.none _
   | refine LeO.ite ?_ ?_
   | refine LeO.bind ?_ (fun _ => ?_)
  ·intro y0 y1 y2 y3 y4
   unfold pinfoldref26_Held.l4
   repeat' first
   | (with_reducible exact ih0 _ _ _ _ _ _ _ _ _)
   | (with_reducible exact ih1 _ _ _ _ _ _ _ _)
   | (with_reducible exact ih2 _ _ _ _ _ _ _ _ _ _)
   | (with_reducible exact ih3 _ _ _ _ _ _ _ _ _ _ _ _ _)
   | (with_reducible exact ih4 _ _ _ _ _ _ _ _ _ _ _ _ _ _ _ _ _ _ _)
   | (with_reducible exact ih5 _ _ _ _ _ _ _ _ _ _ _ _ _ _ _ _)
   | (with_reducible exact ih6 _ _ _ _ _ _ _ _ _ _ _ _ _ _ _ _ _)
   | (with_reducible exact ih7 _ _ _ _ _ _ _ _ _ _ _ _ _ _ _ _)
   | (with_reducible exact ih8 _ _ _ _ _ _ _ _ _ _ _ _ _ _ _ _ _)
   | (with_reducible exact ih9 _ _ _ _ _)
   | (with_reducible exact LeO.refl _)
   | (with_reducible exact LeO.none _)
   | (with_reducible refine LeO.ite ?_ ?_)
   | (with_reducible refine LeO.bind ?_ (fun _ => ?_))
   | exact ih0 _ _ _ _ _ _ _ _ _
   | exact ih1 _ _ _ _ _ _ _ _
   | exact ih2 _ _ _ _ _ _ _ _ _ _
   | exact ih3 _ _ _ _ _ _ _ _ _ _ _ _ _
   | exact ih4 _ _ _ _ _ _ _ _ _ _ _ _ _ _ _ _ _ _ _
   | exact ih5 _ _ _ _ _ _ _ _ _ _ _ _ _ _ _ _
   | exact ih6 _ _ _ _ _ _ _ _ _ _ _ _ _ _ _ _ _
   | exact ih7 _ _ _ _ _ _ _ _ _ _ _ _ _ _ _ _
   | exact ih8 _ _ _ _ _ _ _ _ _ _ _ _ _ _ _ _ _
   | exact ih9 _ _ _ _ _
   | exact LeO.none _
   | refine LeO.ite ?_ ?_
   | refine LeO.bind ?_ (fun _ => ?_)
theorem pinfoldref26_Held.mono : ∀ a0 a1 a2 a3 k, LeO (pinfoldref26_Held.f k a0 a1 a2 a3) (pinfoldref26_Held.f (k + 1) a0 a1 a2 a3) := by
 intro a0 a1 a2 a3 k
 obtain ⟨ih0, ih1, ih2, ih3, ih4, ih5, ih6, ih7, ih8, ih9⟩ := pinfoldref26_Held.mono_l k
 unfold pinfoldref26_Held.f
 repeat' first
   | (with_reducible exact ih0 _ _ _ _ _ _ _ _ _)
   | (with_reducible exact ih1 _ _ _ _ _ _ _ _)
   | (with_reducible exact ih2 _ _ _ _ _ _ _ _ _ _)
   | (with_reducible exact ih3 _ _ _ _ _ _ _ _ _ _ _ _ _)
   | (with_reducible exact ih4 _ _ _ _ _ _ _ _ _ _ _ _ _ _ _ _ _ _ _)
   | (with_reducible exact ih5 _ _ _ _ _ _ _ _ _ _ _ _ _ _ _ _)
   | (with_reducible exact ih6 _ _ _ _ _ _ _ _ _ _ _ _ _ _ _ _ _)
   | (with_reducible exact ih7 _ _ _ _ _ _ _ _ _ _ _ _ _ _ _ _)
   | (with_reducible exact ih8 _ _ _ _ _ _ _ _ _ _ _ _ _ _ _ _ _)
   | (with_reducible exact ih9 _ _ _ _ _)
   | (with_reducible exact LeO.refl _)
   | (with_reducible exact LeO.none _)
   | (with_reducible refine LeO.ite ?_ ?_)
   | (with_reducible refine LeO.bind ?_ (fun _ => ?_))
   | exact ih0 _ _ _ _ _ _ _ _ _
   | exact ih1 _ _ _ _ _ _ _ _
   | exact ih2 _ _ _ _ _ _ _ _ _ _
   | exact ih3 _ _ _ _ _ _ _ _ _ _ _ _ _
   | exact ih4 _ _ _ _ _ _ _ _ _ _ _ _ _ _ _ _ _ _ _
   | exact ih5 _ _ _ _ _ _ _ _ _ _ _ _ _ _ _ _
   | exact ih6 _ _ _ _ _ _ _ _ _ _ _ _ _ _ _ _ _
   | exact ih7 _ _ _ _ _ _ _ _ _ _ _ _ _ _ _ _
   | exact ih8 _ _ _ _ _ _ _ _ _ _ _ _ _ _ _ _ _
   | exact ih9 _ _ _ _ _
   | exact LeO.none _
   | refine LeO.ite ?_ ?_
   | refine LeO.bind ?_ (fun _ => ?_)
set_option maxHeartbeats 8000000 in
set_option maxRecDepth 100000 in
theorem pinfoldref26_Held.calls (k : Nat) (a0_0 : Int) (A0_1 : Option Addr) (c0_1 : Nat) (l0_1 : List (S41)) (a1 : Int) (a2 : Int) (r1 : List Bool) (r2 : List Bool) (w : World) (hr0_1 : Kd.C k41 w A0_1 l0_1.length l0_1) (hc0_1 : l0_1.length ≤ c0_1) (h : pinfoldref26_Held.f k a0_0 l0_1 a1 a2 = some (r1, r2)) :
  Calls Try.prog 61 #[.agg #[.int .i64 a0_0, .slice A0_1 l0_1.length c0_1], .int .i64 a1, .int .i64 a2] w fun e w' => ∃ v0_ v1_ : Value, e = .returned (.tuple #[v0_, v1_]) ∧ Kd.R Kd.bool 4 w' w.heap.size (fun k_ => some k_ ≠ (v1_ : Value).ownBlock) v0_ r1 ∧ Kd.R Kd.bool 4 w' w.heap.size (fun k_ => some k_ ≠ (v0_ : Value).ownBlock) v1_ r2 ∧ Below w.heap.size w w' := by
 have hu24 := Try.underlying24
 have hu41 := Try.underlying41
 have HR0_1 := Aside0.mk hr0_1
 have HC0_1 := Aside0.mk hc0_1
 clear hr0_1 hc0_1
 have HB := Aside0.mk (Below.refl w.heap.size w)
 have H : (if 0 ≤ (l0_1.length : Int) then (if ((l0_1.length : Int) : Int).toNat ≤ 281474976710656 then ((some (List.replicate ((l0_1.length : Int) : Int).toNat false : List Bool)).bind fun y255 => (pinfoldref26_Held.l0 k a1 a2 (l0_1.length : Int) (List.replicate ((l0_1.length : Int) : Int).toNat false) y255 (y255.length : Int) 0 a0_0 l0_1)) else (none)) else (none)) = some (r1, r2) := h
 clear h
 by_cases c4 : 0 ≤ (l0_1.length : Int)
 ·rw [if_pos c4] at H
  have c4b0 := eq_true c4
  have c4b1 : decide (0 ≤ (l0_1.length : Int)) = true := decide_eq_true c4
  clear c4
  by_cases c5 : ((l0_1.length : Int) : Int).toNat ≤ 281474976710656
  ·rw [if_pos c5] at H
   have c5b0 := eq_true c5
   have c5b1 : decide (((l0_1.length : Int) : Int).toNat ≤ 281474976710656) = true := decide_eq_true c5
   clear c5
   obtain ⟨y252, hy252⟩ : ∃ y_ : List Bool, y_ = (List.replicate ((l0_1.length : Int) : Int).toNat false) := ⟨_, rfl⟩
   replace H : ((some (List.replicate ((l0_1.length : Int) : Int).toNat false : List Bool)).bind fun y255 => (pinfoldref26_Held.l0 k a1 a2 (l0_1.length : Int) y252 y255 (y255.length : Int) 0 a0_0 l0_1)) = some (r1, r2) := by first|(rw [hy252];with_reducible exact H)|(have H2_ := (Option.bind_some _ _).symm.trans H;rw [hy252];with_reducible exact H2_)|(have H2_ := (Option.bind_some _ _).symm.trans H;with_reducible exact H2_)|with_reducible exact H|(rw [hy252];exact H)|exact H
   have Ny252 := Aside0.mk hy252
   clear hy252
   obtain ⟨y255, hy255⟩ : ∃ y_ : List Bool, y_ = (List.replicate ((l0_1.length : Int) : Int).toNat false) := ⟨_, rfl⟩
   replace H : (pinfoldref26_Held.l0 k a1 a2 (l0_1.length : Int) y252 y255 (y255.length : Int) 0 a0_0 l0_1) = some (r1, r2) := by first|(rw [hy255];with_reducible exact H)|(have H2_ := (Option.bind_some _ _).symm.trans H;rw [hy255];with_reducible exact H2_)|(have H2_ := (Option.bind_some _ _).symm.trans H;with_reducible exact H2_)|with_reducible exact H|(rw [hy255];exact H)|exact H
   have Ny255 := Aside0.mk hy255
   clear hy255
   have H' := Aside0.mk H
   clear H
   go_enter Try.func61, Try.ntmps61
   go_wp2_with (first|((with_reducible refine gate_dst (N := 3) rfl ?_);refine box_event ?hg (N := 3) ?hd (cs := #[.int .i64 a0_0, .slice A0_1 l0_1.length c0_1]) (t := 24) ?hr ?_;(case hd => rfl);(case hg => rfl);(case hr => first|(go_simp;done)|(go_simp;rfl));intro gb251 hg w6 hbox hb;have n0_ := Aside0.mk (below_step (by repeat (with_reducible first|exact HB.out|apply xa|apply xb|apply xc)) hb);have n1_ := Aside0.mk (hbox);have n2_ := Aside0.mk ((by rw [hg];exact (below_size (by repeat (with_reducible first|exact HB.out|apply xa|apply xb|apply xc))) : w.heap.size ≤ gb251));have n3_ := Aside0.mk ((by rw [hg];exact (below_size (by repeat (with_reducible first|exact HB.out|apply xa|apply xb|apply xc))) : w.heap.size ≤ gb251));clear HB;have HB := n0_;have BK251 := n1_;have GW251 := n2_;have GE251 := n3_;clear n0_ n1_ n2_ n3_;clear hb hbox hg;have hcz7_0 : w6.cell? ⟨gb251, 0, none⟩ = some (.int .i64 a0_0) := (blk_cell BK251.out 0).trans rfl;have hcz7_1 : w6.cell? ⟨gb251, 1, none⟩ = some (.slice A0_1 l0_1.length c0_1) := (blk_cell BK251.out 1).trans rfl;have hfz7_0 := blk_frozen BK251.out 0;have hfz7_1 := blk_frozen BK251.out 1)|((with_reducible refine gate_dst (N := 26) rfl ?_);refine Kd.R_make Kd.bool _ 4 rfl (N := 26) rfl 29 _ _ rfl (l0_1.length : Int) rfl rfl Try.underlying29 (.bool false) 1 info4 rfl (by decide) (by omega) false (ok := fun _ => True) (okp := fun _ => True) rfl (fun _ hk => hk) trivial (of_decide_eq_true (by assumption)) (Nat.le_trans (Nat.mul_le_mul_right _ (of_decide_eq_true (by assumption) : (l0_1.length : Int).toNat ≤ 281474976710656)) (by omega)) (Below.refl _ _) (Nat.le_refl _) ?_;intro v253 w8 ho9 hb hg_ hnew_;clear hg_ hnew_;(first|rw [← Ny252.out] at ho9|(simp only [Int.reduceToNat] at ho9;rw [← Ny252.out] at ho9));have n0_ := Aside0.mk (Kd.R_lower ho9 (below_size (by repeat (first|(with_reducible first|exact HB.out|apply xa|apply xb|apply xc|refine below_set ?_ GE251.out)|exact HB.out))));have n1_ := Aside0.mk (blk_below (g := gb251) (o := .cells #[.int .i64 a0_0, .slice A0_1 l0_1.length c0_1] 24 (0, 0)) (by (with_reducible repeat (first|apply blk_drewN|apply blk_drew|apply blk_alloc));exact BK251.out) hb);have n2_ := Aside0.mk (below_step (by repeat (first|(with_reducible first|exact HB.out|apply xa|apply xb|apply xc|refine below_set ?_ GE251.out)|exact HB.out)) hb);clear BK251;clear HB;have HO254 := n0_;have BK251 := n1_;have HB := n2_;clear n0_ n1_ n2_;clear hb ho9)|((with_reducible refine gate_dst (N := 28) rfl ?_);refine Kd.R_make Kd.bool _ 4 rfl (N := 28) rfl 29 _ _ rfl (l0_1.length : Int) rfl rfl Try.underlying29 (.bool false) 1 info4 rfl (by decide) (by omega) false (ok := fun _ => True) (okp := fun _ => True) rfl (fun _ hk => hk) trivial (of_decide_eq_true (by assumption)) (Nat.le_trans (Nat.mul_le_mul_right _ (of_decide_eq_true (by assumption) : (l0_1.length : Int).toNat ≤ 281474976710656)) (by omega)) (Below.refl _ _) (Nat.le_refl _) ?_;intro v256 w10 ho11 hb hg_ hnew_;clear hg_ hnew_;(first|rw [← Ny255.out] at ho11|(simp only [Int.reduceToNat] at ho11;rw [← Ny255.out] at ho11));have n0_ := Aside0.mk (Kd.R_elder' (by (with_reducible repeat (first|apply Kd.R_alloc|apply Kd.R_drewN|apply Kd.R_drew));exact HO254.out) (Kd.R_base ho11) hb);have n1_ := Aside0.mk (Kd.R_lower (Kd.R_new' ho11 (Kd.R_lt (by (with_reducible repeat (first|apply Kd.R_alloc|apply Kd.R_drewN|apply Kd.R_drew));exact HO254.out))) (below_size (by repeat (first|(with_reducible first|exact HB.out|apply xa|apply xb|apply xc|refine below_set ?_ GE251.out)|exact HB.out))));have n2_ := Aside0.mk (blk_below (g := gb251) (o := .cells #[.int .i64 a0_0, .slice A0_1 l0_1.length c0_1] 24 (0, 0)) (by (with_reducible repeat (first|apply blk_drewN|apply blk_drew|apply blk_alloc));exact BK251.out) hb);have n3_ := Aside0.mk (below_step (by repeat (first|(with_reducible first|exact HB.out|apply xa|apply xb|apply xc|refine below_set ?_ GE251.out)|exact HB.out)) hb);clear HO254;clear BK251;clear HB;have HO254 := n0_;have HO257 := n1_;have BK251 := n2_;have HB := n3_;clear n0_ n1_ n2_ n3_;clear hb ho11;obtain ⟨Ao12, co12, eo12⟩ := Kd.R_slice HO257.out;subst eo12))
   go_loopg [31] k (fun kq v31 w' => ∃ (x10_1 : List Bool) (x31_1 : Int), v31 = .int .i64 x31_1 ∧ Aside0 (pinfoldref26_Held.l0 kq a1 a2 (l0_1.length : Int) y252 x10_1 (y255.length : Int) x31_1 a0_0 l0_1 = some (r1, r2)) ∧ Aside0 (kq ≤ k) ∧ Aside0 (Kd.R Kd.bool 4 w' w.heap.size (fun k_ => some k_ ≠ ((.slice Ao12 y255.length co12) : Value).ownBlock) v253 y252) ∧ Aside0 (Kd.R Kd.bool 4 w' w.heap.size (fun k_ => some k_ ≠ (v253 : Value).ownBlock) (.slice Ao12 y255.length co12) x10_1) ∧ Aside0 (w'.heap[gb251]? = some (.cells #[.int .i64 a0_0, (.slice A0_1 l0_1.length c0_1)] 24 (0, 0))) ∧ Aside0 (Below w.heap.size w w'))
   case atStart => exact ⟨(y255), (0), (by first|rfl|(simp;done)|(simp [*];done)), H', ⟨Nat.le_refl _⟩, ⟨by (with_reducible repeat (first|apply Kd.R_alloc|apply Kd.R_drewN|apply Kd.R_drew));exact Kd.R_mono HO254.out (fun _ hk => hk.2)⟩, ⟨by (with_reducible repeat (first|apply Kd.R_alloc|apply Kd.R_drewN|apply Kd.R_drew));exact Kd.R_mono HO257.out (fun _ hk => hk.2)⟩, ⟨by (with_reducible repeat (first|apply blk_drewN|apply blk_drew|apply blk_alloc));exact BK251.out⟩, ⟨by repeat (first|(with_reducible first|exact HB.out|apply xa|apply xb|apply xc|refine below_set ?_ GE251.out)|exact HB.out)⟩⟩
   case round => as_aux_lemma =>
    clear H'
    try clear p2
    try clear c4
    try clear c4b0
    try clear c4b1
    try clear c5
    try clear c5b0
    try clear c5b1
    try clear c6
    try clear hcz7_0
    try clear hcz7_1
    try clear hfz7_0
    try clear hfz7_1
    obtain ⟨x10_1, x31_1, rfl, HA, HK1, HO_9, HO_10, BK251, HB⟩ := hrel
    have hl10_1 := (Kd.R_reads' HO_10.out).1
    rw [hl10_1] at HO_10
    (try simp only [hl10_1])
    (try simp only [hl10_1] at BK251)
    (try simp only [hl10_1] at HO_9)
    cases gk with
    | zero => exact absurd HA.out (by simp [pinfoldref26_Held.l0])
    | succ k1 =>
     have H := HA.out
     clear HA
     simp only [pinfoldref26_Held.l0] at H
     by_cases c13 : x31_1 < (y255.length : Int)
     ·rw [if_pos c13] at H
      have c13b0 : decide (x31_1 < (y255.length : Int)) = true := decide_eq_true c13
      have c13b9 := c13b0
      (try simp only [hl10_1] at c13b9)
      clear c13
      by_cases c14 : 0 ≤ x31_1
      ·rw [if_pos c14] at H
       have c14b0 : decide (0 ≤ x31_1) = true := decide_eq_true c14
       clear c14
       by_cases c15 : x31_1 < (x10_1.length : Int)
       ·rw [if_pos c15] at H
        have c15b0 : decide (x31_1 < (x10_1.length : Int)) = true := decide_eq_true c15
        have c15b9 := c15b0
        (try simp only [hl10_1] at c15b9)
        clear c15
        obtain ⟨y258, hy258⟩ : ∃ y_ : List Bool, y_ = (x10_1.set (x31_1 : Int).toNat (x31_1 == 0)) := ⟨_, rfl⟩
        replace H : (pinfoldref26_Held.l0 k1 a1 a2 (l0_1.length : Int) y252 y258 (y255.length : Int) (wrap64 (x31_1 + 1)) a0_0 l0_1) = some (r1, r2) := by first|(rw [hy258];with_reducible exact H)|(have H2_ := (Option.bind_some _ _).symm.trans H;rw [hy258];with_reducible exact H2_)|(have H2_ := (Option.bind_some _ _).symm.trans H;with_reducible exact H2_)|with_reducible exact H|(rw [hy258];exact H)|exact H
        have Ny258 := Aside0.mk hy258
        clear hy258
        have H' := Aside0.mk H
        clear H
        have p16 : 0 ≤ (x31_1 : Int) := of_decide_eq_true (by assumption)
        have q16 : (x31_1 : Int) < ((x10_1.length : Int) : Int) := of_decide_eq_true (by assumption)
        obtain ⟨go16, co16, eo16, gb16, gl16, cl16, HG16⟩ := Kd.R_form HO_10.out (by omega)
        (first|cases eo16|(injection eo16 with ea_ en_ ec_;(first|subst ea_|(injection ea_ with ea_;subst ea_));subst ec_;clear en_))
        have GB16 := Aside0.mk gb16
        have GG16 := Aside0.mk HG16
        clear gb16 gl16 HG16
        obtain ⟨hx16_0, hf16_0⟩ := Kd.R_celln false HO_10.out (x31_1 : Int) p16 q16
        replace p16 := eq_true p16
        replace q16 := eq_true q16
        have HP17 := Kd.R_putg HO_10.out (x31_1 : Int) (x31_1 == 0)
        go_wp2_with (first|((with_reducible refine gate_store (t := 4) (p := 38) rfl ?_);refine store_event (t := 4) (p := 38) (v := ?vo_w18) (w1 := (wr.setCell ⟨go16, (x31_1 : Int).toNat, none⟩ (.bool (x31_1 == 0)))) ?hg ?ho ?hn ?hr ?_;(case ho => rfl);(case hg => rfl);(case hn => rfl);(case hr => first|(go_simp;done)|(go_simp;rfl));intro w18 hw;have hg : wr.grownBy w18 (some go16) := (by rw [hw];exact HP17.2);have hp_ : Kd.R Kd.bool 4 w18 w.heap.size (fun k_ => some k_ ≠ (v253 : Value).ownBlock) (.slice (some ⟨go16, 0, none⟩) x10_1.length co12) y258 := (by rw [hw, Ny258.out];exact HP17.1);clear HP17;have n0_ := Aside0.mk (Kd.R_after (v := (.slice (some ⟨go16, 0, none⟩) x10_1.length co12)) (v1 := (.slice (some ⟨go16, 0, none⟩) x10_1.length co12)) (ok := (fun _ => True)) (by (with_reducible repeat (first|apply Kd.R_alloc|apply Kd.R_drewN|apply Kd.R_drew));exact Kd.R_mono HO_9.out (fun _ hk => ⟨trivial, hk⟩)) hg (.inl rfl));have n1_ := Aside0.mk (hp_);have n2_ := Aside0.mk (blk_grown (g := gb251) (o := .cells #[.int .i64 a0_0, .slice A0_1 l0_1.length c0_1] 24 (0, 0)) (by (with_reducible repeat (first|apply blk_drewN|apply blk_drew|apply blk_alloc));exact BK251.out) hg (Kd.R_ne HO_10.out BK251.out (by decide)));have n3_ := Aside0.mk ((by rw [hw];exact below_set (HB.out) GB16.out : Below w.heap.size w w18));clear HO_9;clear HO_10;clear BK251;clear HB;have HO_9 := n0_;have HO_10 := n1_;have BK251 := n2_;have HB := n3_;clear n0_ n1_ n2_ n3_;clear hg hw hp_))
        (try simp only [← hl10_1])
        (try simp only [px_add0] at *)
        go_roundg k1
        case measure => have := HK1.out;omega
        case rel => exact ⟨(y258), (wrap64 (x31_1 + 1)), (by first|rfl|(simp;done)|(simp [*];done)), H', ⟨by have := HK1.out;omega⟩, ⟨by (try simp only [hl10_1]);(with_reducible repeat (first|apply Kd.R_alloc|apply Kd.R_drewN|apply Kd.R_drew));exact Kd.R_mono HO_9.out (fun _ hk => hk.2)⟩, ⟨by (try simp only [hl10_1]);(with_reducible repeat (first|apply Kd.R_alloc|apply Kd.R_drewN|apply Kd.R_drew));exact HO_10.out⟩, ⟨by (try simp only [hl10_1]);(with_reducible repeat (first|apply blk_drewN|apply blk_drew|apply blk_alloc));exact BK251.out⟩, ⟨by repeat (first|(with_reducible first|exact HB.out|apply xa|apply xb|apply xc|refine below_set ?_ GE251.out)|exact HB.out)⟩⟩
       ·rw [if_neg c15] at H
        exact absurd H (by simp)
      ·rw [if_neg c14] at H
       exact absurd H (by simp)
     ·rw [if_neg c13] at H
      have c13b0 : decide (x31_1 < (y255.length : Int)) = false := decide_eq_false c13
      have c13b9 := c13b0
      (try simp only [hl10_1] at c13b9)
      clear c13
      have H' := Aside0.mk H
      clear H
      go_wp2
      go_loopg [12] k1 (fun kq v12 w' => ∃ (x9_2 : List Bool) (x10_2 : List Bool) (x12_2 : Bool), v12 = .bool x12_2 ∧ Aside0 (pinfoldref26_Held.l1 kq a1 a2 (l0_1.length : Int) x9_2 x10_2 x12_2 a0_0 l0_1 = some (r1, r2)) ∧ Aside0 (kq ≤ k1) ∧ Aside0 (Kd.R Kd.bool 4 w' w.heap.size (fun k_ => some k_ ≠ ((.slice Ao12 x10_1.length co12) : Value).ownBlock) v253 x9_2) ∧ Aside0 (Kd.R Kd.bool 4 w' w.heap.size (fun k_ => some k_ ≠ (v253 : Value).ownBlock) (.slice Ao12 x10_1.length co12) x10_2) ∧ Aside0 (w'.heap[gb251]? = some (.cells #[.int .i64 a0_0, (.slice A0_1 l0_1.length c0_1)] 24 (0, 0))) ∧ Aside0 (Below w.heap.size w w'))
      case atStart => exact ⟨(y252), (x10_1), (true), (by first|rfl|(simp;done)|(simp [*];done)), H', ⟨Nat.le_refl _⟩, ⟨by (try simp only [hl10_1]);(with_reducible repeat (first|apply Kd.R_alloc|apply Kd.R_drewN|apply Kd.R_drew));exact HO_9.out⟩, ⟨by (try simp only [hl10_1]);(with_reducible repeat (first|apply Kd.R_alloc|apply Kd.R_drewN|apply Kd.R_drew));exact HO_10.out⟩, ⟨by (try simp only [hl10_1]);(with_reducible repeat (first|apply blk_drewN|apply blk_drew|apply blk_alloc));exact BK251.out⟩, ⟨by repeat (first|(with_reducible first|exact HB.out|apply xa|apply xb|apply xc|refine below_set ?_ GE251.out)|exact HB.out)⟩⟩
      case round => as_aux_lemma =>
       clear H'
       try clear c1
       try clear p1
       try clear q1
       try clear hx1
       try clear p2
       try clear c4
       try clear c4b0
       try clear c4b1
       try clear c5
       try clear c5b0
       try clear c5b1
       try clear c6
       try clear p6
       try clear c13
       try clear c13b0
       try clear c14
       try clear c14b0
       try clear c15
       try clear c15b0
       try clear p16
       try clear q16
       try clear hx16
       try clear hf16
       try clear hcz7_0
       try clear hcz7_1
       try clear hfz7_0
       try clear hfz7_1
       try clear hx16_0
       try clear p16
       try clear p2
       try clear q16
       obtain ⟨x9_2, x10_2, x12_2, rfl, HA, HK2, HO_9, HO_10, BK251, HB⟩ := hrel
       have hl10_2 := (Kd.R_reads' HO_10.out).1
       rw [hl10_2] at HO_10
       (try simp only [hl10_2])
       (try simp only [hl10_2] at BK251)
       (try simp only [hl10_2] at HO_9)
       cases gk with
       | zero => exact absurd HA.out (by simp [pinfoldref26_Held.l1])
       | succ k2 =>
        have H := HA.out
        clear HA
        simp only [pinfoldref26_Held.l1] at H
        by_cases c19 : x12_2 = true
        ·subst c19
         have H1 : (pinfoldref26_Held.l2 k2 a1 a2 (l0_1.length : Int) x9_2 x10_2 false (l0_1.length : Int) 0 a0_0 l0_1) = some (r1, r2) := by rw [if_pos rfl] at H;exact H
         clear H
         have H := H1
         clear H1
         have H' := Aside0.mk H
         clear H
         have hcz20_0 : wr.cell? ⟨gb251, 0, none⟩ = some (.int .i64 a0_0) := (blk_cell BK251.out 0).trans rfl
         have hcz20_1 : wr.cell? ⟨gb251, 1, none⟩ = some (.slice A0_1 l0_1.length c0_1) := (blk_cell BK251.out 1).trans rfl
         have hfz20_0 := blk_frozen BK251.out 0
         have hfz20_1 := blk_frozen BK251.out 1
         go_wp2
         go_loopg [12, 44] k2 (fun kq v12 v44 w' => ∃ (x9_3 : List Bool) (x10_3 : List Bool) (x12_3 : Bool) (x44_3 : Int), v12 = .bool x12_3 ∧ v44 = .int .i64 x44_3 ∧ Aside0 (pinfoldref26_Held.l2 kq a1 a2 (l0_1.length : Int) x9_3 x10_3 x12_3 (l0_1.length : Int) x44_3 a0_0 l0_1 = some (r1, r2)) ∧ Aside0 (kq ≤ k2) ∧ Aside0 (Kd.R Kd.bool 4 w' w.heap.size (fun k_ => some k_ ≠ ((.slice Ao12 x10_2.length co12) : Value).ownBlock) v253 x9_3) ∧ Aside0 (Kd.R Kd.bool 4 w' w.heap.size (fun k_ => some k_ ≠ (v253 : Value).ownBlock) (.slice Ao12 x10_2.length co12) x10_3) ∧ Aside0 (w'.heap[gb251]? = some (.cells #[.int .i64 a0_0, (.slice A0_1 l0_1.length c0_1)] 24 (0, 0))) ∧ Aside0 (Below w.heap.size w w'))
         case atStart => exact ⟨(x9_2), (x10_2), (false), (0), (by first|rfl|(simp;done)|(simp [*];done)), (by first|rfl|(simp;done)|(simp [*];done)), H', ⟨Nat.le_refl _⟩, ⟨by (try simp only [hl10_1]);(try simp only [hl10_2]);(with_reducible repeat (first|apply Kd.R_alloc|apply Kd.R_drewN|apply Kd.R_drew));exact HO_9.out⟩, ⟨by (try simp only [hl10_1]);(try simp only [hl10_2]);(with_reducible repeat (first|apply Kd.R_alloc|apply Kd.R_drewN|apply Kd.R_drew));exact HO_10.out⟩, ⟨by (try simp only [hl10_1]);(try simp only [hl10_2]);(with_reducible repeat (first|apply blk_drewN|apply blk_drew|apply blk_alloc));exact BK251.out⟩, ⟨by repeat (first|(with_reducible first|exact HB.out|apply xa|apply xb|apply xc|refine below_set ?_ GE251.out)|exact HB.out)⟩⟩
         case round => as_aux_lemma =>
          clear H'
          try clear c1
          try clear p1
          try clear q1
          try clear hx1
          try clear p2
          try clear c4
          try clear c4b0
          try clear c4b1
          try clear c5
          try clear c5b0
          try clear c5b1
          try clear c6
          try clear p6
          try clear c13
          try clear c13b0
          try clear c14
          try clear c14b0
          try clear c15
          try clear c15b0
          try clear p16
          try clear q16
          try clear hx16
          try clear hf16
          try clear c19
          try clear hcz20_0
          try clear hcz20_1
          try clear hcz7_0
          try clear hcz7_1
          try clear hfz20_0
          try clear hfz20_1
          try clear hfz7_0
          try clear hfz7_1
          try clear hx16_0
          try clear p1
          try clear p16
          try clear p2
          try clear p6
          try clear q1
          try clear q16
          obtain ⟨x9_3, x10_3, x12_3, x44_3, rfl, rfl, HA, HK3, HO_9, HO_10, BK251, HB⟩ := hrel
          have hl10_3 := (Kd.R_reads' HO_10.out).1
          rw [hl10_3] at HO_10
          (try simp only [hl10_3])
          (try simp only [hl10_3] at BK251)
          (try simp only [hl10_3] at HO_9)
          cases gk with
          | zero => exact absurd HA.out (by simp [pinfoldref26_Held.l2])
          | succ k3 =>
           have H := HA.out
           clear HA
           simp only [pinfoldref26_Held.l2] at H
           by_cases c21 : x44_3 < (l0_1.length : Int)
           ·rw [if_pos c21] at H
            have c21b0 : decide (x44_3 < (l0_1.length : Int)) = true := decide_eq_true c21
            clear c21
            have H' := Aside0.mk H
            clear H
            have hcz22_0 : wr.cell? ⟨gb251, 0, none⟩ = some (.int .i64 a0_0) := (blk_cell BK251.out 0).trans rfl
            have hcz22_1 : wr.cell? ⟨gb251, 1, none⟩ = some (.slice A0_1 l0_1.length c0_1) := (blk_cell BK251.out 1).trans rfl
            have hfz22_0 := blk_frozen BK251.out 0
            have hfz22_1 := blk_frozen BK251.out 1
            go_wp2
            go_loopg [12, 50] k3 (fun kq v12 v50 w' => ∃ (x9_4 : List Bool) (x10_4 : List Bool) (x12_4 : Bool) (x50_4 : Int), v12 = .bool x12_4 ∧ v50 = .int .i64 x50_4 ∧ Aside0 (pinfoldref26_Held.l3 kq a1 a2 (l0_1.length : Int) x9_4 x10_4 x12_4 x44_3 (l0_1.length : Int) x44_3 (l0_1.length : Int) x50_4 a0_0 l0_1 = some (r1, r2)) ∧ Aside0 (kq ≤ k3) ∧ Aside0 (Kd.R Kd.bool 4 w' w.heap.size (fun k_ => some k_ ≠ ((.slice Ao12 x10_3.length co12) : Value).ownBlock) v253 x9_4) ∧ Aside0 (Kd.R Kd.bool 4 w' w.heap.size (fun k_ => some k_ ≠ (v253 : Value).ownBlock) (.slice Ao12 x10_3.length co12) x10_4) ∧ Aside0 (w'.heap[gb251]? = some (.cells #[.int .i64 a0_0, (.slice A0_1 l0_1.length c0_1)] 24 (0, 0))) ∧ Aside0 (Below w.heap.size w w'))
            case atStart => exact ⟨(x9_3), (x10_3), (x12_3), (0), (by first|rfl|(simp;done)|(simp [*];done)), (by first|rfl|(simp;done)|(simp [*];done)), H', ⟨Nat.le_refl _⟩, ⟨by (try simp only [hl10_1]);(try simp only [hl10_2]);(try simp only [hl10_3]);(with_reducible repeat (first|apply Kd.R_alloc|apply Kd.R_drewN|apply Kd.R_drew));exact HO_9.out⟩, ⟨by (try simp only [hl10_1]);(try simp only [hl10_2]);(try simp only [hl10_3]);(with_reducible repeat (first|apply Kd.R_alloc|apply Kd.R_drewN|apply Kd.R_drew));exact HO_10.out⟩, ⟨by (try simp only [hl10_1]);(try simp only [hl10_2]);(try simp only [hl10_3]);(with_reducible repeat (first|apply blk_drewN|apply blk_drew|apply blk_alloc));exact BK251.out⟩, ⟨by repeat (first|(with_reducible first|exact HB.out|apply xa|apply xb|apply xc|refine below_set ?_ GE251.out)|exact HB.out)⟩⟩
            case round => as_aux_lemma =>
             clear H'
             try clear c1
             try clear p1
             try clear q1
             try clear hx1
             try clear c2
             try clear p2
             try clear c4
             try clear c4b0
             try clear c4b1
             try clear c5
             try clear c5b0
             try clear c5b1
             try clear c6
             try clear p6
             try clear c13
             try clear c13b0
             try clear c14
             try clear c14b0
             try clear c15
             try clear c15b0
             try clear p16
             try clear q16
             try clear hx16
             try clear hf16
             try clear c19
             try clear c21
             try clear c21b0
             try clear hcz20_0
             try clear hcz20_1
             try clear hcz22_0
             try clear hcz22_1
             try clear hcz7_0
             try clear hcz7_1
             try clear hfz20_0
             try clear hfz20_1
             try clear hfz22_0
             try clear hfz22_1
             try clear hfz7_0
             try clear hfz7_1
             try clear hx16_0
             try clear p1
             try clear p16
             try clear p2
             try clear p6
             try clear q1
             try clear q16
             obtain ⟨x9_4, x10_4, x12_4, x50_4, rfl, rfl, HA, HK4, HO_9, HO_10, BK251, HB⟩ := hrel
             have hl10_4 := (Kd.R_reads' HO_10.out).1
             rw [hl10_4] at HO_10
             (try simp only [hl10_4])
             (try simp only [hl10_4] at BK251)
             (try simp only [hl10_4] at HO_9)
             cases gk with
             | zero => exact absurd HA.out (by simp [pinfoldref26_Held.l3])
             | succ k4 =>
              have H := HA.out
              clear HA
              simp only [pinfoldref26_Held.l3] at H
              by_cases c23 : x50_4 < (l0_1.length : Int)
              ·rw [if_pos c23] at H
               have c23b0 : decide (x50_4 < (l0_1.length : Int)) = true := decide_eq_true c23
               clear c23
               replace H := Option.bind_eq_some_iff.mp H
               obtain ⟨t259, A240, H⟩ := H
               replace H : (if t259 = true then (if 0 ≤ x44_3 then (if x44_3 < (l0_1.length : Int) then (if ((rd_T41 l0_1 x44_3).f0) = 9 then (if (wrap64 ((rd_T41 l0_1 x44_3).f3)) = a1 then (pinfoldref26_Held.j4 k4 a1 a2 (l0_1.length : Int) x9_4 x10_4 x12_4 x44_3 x50_4 (decide (a1 < a2)) (l0_1.length : Int) x44_3 (l0_1.length : Int) x50_4 a0_0 l0_1 ((rd_T41 l0_1 x44_3).f0) ((rd_T41 l0_1 x44_3).f1) ((rd_T41 l0_1 x44_3).f2) ((rd_T41 l0_1 x44_3).f3)) else (pinfoldref26_Held.j4 k4 a1 a2 (l0_1.length : Int) x9_4 x10_4 x12_4 x44_3 x50_4 false (l0_1.length : Int) x44_3 (l0_1.length : Int) x50_4 a0_0 l0_1 ((rd_T41 l0_1 x44_3).f0) ((rd_T41 l0_1 x44_3).f1) ((rd_T41 l0_1 x44_3).f2) ((rd_T41 l0_1 x44_3).f3))) else (pinfoldref26_Held.j4 k4 a1 a2 (l0_1.length : Int) x9_4 x10_4 x12_4 x44_3 x50_4 false (l0_1.length : Int) x44_3 (l0_1.length : Int) x50_4 a0_0 l0_1 ((rd_T41 l0_1 x44_3).f0) ((rd_T41 l0_1 x44_3).f1) ((rd_T41 l0_1 x44_3).f2) ((rd_T41 l0_1 x44_3).f3))) else (none)) else (none)) else (pinfoldref26_Held.l3 k4 a1 a2 (l0_1.length : Int) x9_4 x10_4 x12_4 x44_3 (l0_1.length : Int) x44_3 (l0_1.length : Int) (wrap64 (x50_4 + 1)) a0_0 l0_1)) = some (r1, r2) := H
               have A24 := Aside0.mk A240
               clear A240
               by_cases c25 : t259 = true
               ·subst c25
                have H1 : (if 0 ≤ x44_3 then (if x44_3 < (l0_1.length : Int) then (if ((rd_T41 l0_1 x44_3).f0) = 9 then (if (wrap64 ((rd_T41 l0_1 x44_3).f3)) = a1 then (pinfoldref26_Held.j4 k4 a1 a2 (l0_1.length : Int) x9_4 x10_4 x12_4 x44_3 x50_4 (decide (a1 < a2)) (l0_1.length : Int) x44_3 (l0_1.length : Int) x50_4 a0_0 l0_1 ((rd_T41 l0_1 x44_3).f0) ((rd_T41 l0_1 x44_3).f1) ((rd_T41 l0_1 x44_3).f2) ((rd_T41 l0_1 x44_3).f3)) else (pinfoldref26_Held.j4 k4 a1 a2 (l0_1.length : Int) x9_4 x10_4 x12_4 x44_3 x50_4 false (l0_1.length : Int) x44_3 (l0_1.length : Int) x50_4 a0_0 l0_1 ((rd_T41 l0_1 x44_3).f0) ((rd_T41 l0_1 x44_3).f1) ((rd_T41 l0_1 x44_3).f2) ((rd_T41 l0_1 x44_3).f3))) else (pinfoldref26_Held.j4 k4 a1 a2 (l0_1.length : Int) x9_4 x10_4 x12_4 x44_3 x50_4 false (l0_1.length : Int) x44_3 (l0_1.length : Int) x50_4 a0_0 l0_1 ((rd_T41 l0_1 x44_3).f0) ((rd_T41 l0_1 x44_3).f1) ((rd_T41 l0_1 x44_3).f2) ((rd_T41 l0_1 x44_3).f3))) else (none)) else (none)) = some (r1, r2) := by rw [if_pos rfl] at H;exact H
                clear H
                have H := H1
                clear H1
                by_cases c26 : 0 ≤ x44_3
                ·rw [if_pos c26] at H
                 have c26b0 : decide (0 ≤ x44_3) = true := decide_eq_true c26
                 clear c26
                 by_cases c27 : x44_3 < (l0_1.length : Int)
                 ·rw [if_pos c27] at H
                  have c27b0 : decide (x44_3 < (l0_1.length : Int)) = true := decide_eq_true c27
                  clear c27
                  have HC28 := Aside0.mk H
                  clear H
                  have hcz29_0 : wr.cell? ⟨gb251, 0, none⟩ = some (.int .i64 a0_0) := (blk_cell BK251.out 0).trans rfl
                  have hcz29_1 : wr.cell? ⟨gb251, 1, none⟩ = some (.slice A0_1 l0_1.length c0_1) := (blk_cell BK251.out 1).trans rfl
                  have hfz29_0 := blk_frozen BK251.out 0
                  have hfz29_1 := blk_frozen BK251.out 1
                  go_upto_region 20 with (first|((with_reducible refine gate_callee (f := 17) rfl ?_);refine goesL_ (some 56) rfl rfl Try.func17 (by kernel_rfl) rfl #[.agg #[.int .i64 a0_0, .slice A0_1 l0_1.length c0_1], .int .i64 x44_3, .int .i64 x50_4] rfl (by (try simp only [List.map_toArray, List.map_cons, List.map_nil]);first|done|rfl|(simp only [List.length_drop, List.length_take];rfl)) ?_;(with_reducible refine (pinfoldref26_Goes.calls a0_0 _ _ l0_1 x44_3 x50_4 true _ ?side1 ?side2 A24.out).mono ?_);(case side1 => repeat (first|exact (Kd.C_below HR0_1.out HB.out)|(with_reducible refine Kd.C_alloc ?_ _)|(with_reducible refine Kd.C_drewN ?_ _)|(with_reducible refine Kd.C_drew ?_)));(case side2 => exact HC0_1.out);rintro e w30 ⟨rfl, hb⟩;refine ⟨_, rfl, ?_⟩;have n0_ := Aside0.mk (Kd.R_below (by (with_reducible repeat (first|apply Kd.R_alloc|apply Kd.R_drewN|apply Kd.R_drew));exact HO_9.out) hb);have n1_ := Aside0.mk (Kd.R_below (by (with_reducible repeat (first|apply Kd.R_alloc|apply Kd.R_drewN|apply Kd.R_drew));exact HO_10.out) hb);have n2_ := Aside0.mk (blk_below (g := gb251) (o := .cells #[.int .i64 a0_0, .slice A0_1 l0_1.length c0_1] 24 (0, 0)) (by (with_reducible repeat (first|apply blk_drewN|apply blk_drew|apply blk_alloc));exact BK251.out) hb);have n3_ := Aside0.mk (below_step (by repeat (first|(with_reducible first|exact HB.out|apply xa|apply xb|apply xc|refine below_set ?_ GE251.out)|exact HB.out)) hb);clear HO_9;clear HO_10;clear BK251;clear HB;have HO_9 := n0_;have HO_10 := n1_;have BK251 := n2_;have HB := n3_;clear n0_ n1_ n2_ n3_;(try clear hb);(try clear hb2);(try clear hk);(try clear hi);have hcz31_0 : w30.cell? ⟨gb251, 0, none⟩ = some (.int .i64 a0_0) := (blk_cell BK251.out 0).trans rfl;have hcz31_1 : w30.cell? ⟨gb251, 1, none⟩ = some (.slice A0_1 l0_1.length c0_1) := (blk_cell BK251.out 1).trans rfl;have hfz31_0 := blk_frozen BK251.out 0;have hfz31_1 := blk_frozen BK251.out 1;have p260 : 0 ≤ (x44_3 : Int) := of_decide_eq_true (by assumption);have q260 : x44_3 < (l0_1.length : Int) := of_decide_eq_true (by assumption);obtain ⟨ad260, e260, hx260_0, hx260_1, hx260_2, hx260_3⟩ := at_T41 HR0_1.out x44_3 p260 q260;cases e260;replace hx260_0 := (HB.out.cell (World.block_lt_of_cell? w _ hx260_0)).trans hx260_0;replace hx260_1 := (HB.out.cell (World.block_lt_of_cell? w _ hx260_1)).trans hx260_1;replace hx260_2 := (HB.out.cell (World.block_lt_of_cell? w _ hx260_2)).trans hx260_2;replace hx260_3 := (HB.out.cell (World.block_lt_of_cell? w _ hx260_3)).trans hx260_3;replace p260 := eq_true p260;replace q260 := eq_true q260)|((with_reducible refine gate_dst (N := 15) rfl ?_);refine box_event ?hg (N := 15) ?hd (cs := #[.int .i64 0, .int .i64 0, .int .i64 0, .int .i32 0]) (t := 41) ?hr ?_;(case hd => rfl);(case hg => rfl);(case hr => first|(go_simp;done)|(go_simp;rfl));intro gb261 hg w32 hbox hb;have n0_ := Aside0.mk (Kd.R_below (by (with_reducible repeat (first|apply Kd.R_alloc|apply Kd.R_drewN|apply Kd.R_drew));exact HO_9.out) hb);have n1_ := Aside0.mk (Kd.R_below (by (with_reducible repeat (first|apply Kd.R_alloc|apply Kd.R_drewN|apply Kd.R_drew));exact HO_10.out) hb);have n2_ := Aside0.mk (blk_below (g := gb251) (o := .cells #[.int .i64 a0_0, .slice (some ad260) l0_1.length c0_1] 24 (0, 0)) (by (with_reducible repeat (first|apply blk_drewN|apply blk_drew|apply blk_alloc));exact BK251.out) hb);have n3_ := Aside0.mk (below_step (by repeat (first|(with_reducible first|exact HB.out|apply xa|apply xb|apply xc|refine below_set ?_ GE251.out)|exact HB.out)) hb);have n4_ := Aside0.mk (hbox);have n5_ := Aside0.mk ((by rw [hg];exact (below_size (by repeat (first|(with_reducible first|exact HB.out|apply xa|apply xb|apply xc|refine below_set ?_ GE251.out)|exact HB.out))) : w.heap.size ≤ gb261));have n6_ := Aside0.mk ((by rw [hg];exact (below_size (by repeat (first|(with_reducible first|exact HB.out|apply xa|apply xb|apply xc|refine below_set ?_ GE251.out)|exact HB.out))) : w.heap.size ≤ gb261));have n7_ := Aside0.mk ((by rw [hg];exact Nat.ne_of_lt (blk_lt (g := gb251) (o := .cells #[.int .i64 a0_0, .slice (some ad260) l0_1.length c0_1] 24 (0, 0)) (by (with_reducible repeat (first|apply blk_drewN|apply blk_drew|apply blk_alloc));exact BK251.out)) : gb251 ≠ gb261));have n8_ := Aside0.mk ((by rw [hg];exact Nat.ne_of_gt (blk_lt (g := gb251) (o := .cells #[.int .i64 a0_0, .slice (some ad260) l0_1.length c0_1] 24 (0, 0)) (by (with_reducible repeat (first|apply blk_drewN|apply blk_drew|apply blk_alloc));exact BK251.out)) : gb261 ≠ gb251));clear HO_9;clear HO_10;clear BK251;clear HB;have HO_9 := n0_;have HO_10 := n1_;have BK251 := n2_;have HB := n3_;have BK261 := n4_;have GW261 := n5_;have GE261 := n6_;have NB251_261 := n7_;have NB261_251 := n8_;clear n0_ n1_ n2_ n3_ n4_ n5_ n6_ n7_ n8_;clear hb hbox hg;have hnb33 := NB261_251.out;have hnc33 := NB251_261.out;have hcz34_0 : w32.cell? ⟨gb261, 0, none⟩ = some (.int .i64 0) := (blk_cell BK261.out 0).trans rfl;have hcz34_1 : w32.cell? ⟨gb261, 1, none⟩ = some (.int .i64 0) := (blk_cell BK261.out 1).trans rfl;have hcz34_2 : w32.cell? ⟨gb261, 2, none⟩ = some (.int .i64 0) := (blk_cell BK261.out 2).trans rfl;have hcz34_3 : w32.cell? ⟨gb261, 3, none⟩ = some (.int .i32 0) := (blk_cell BK261.out 3).trans rfl;have hfz34_0 := blk_frozen BK261.out 0;have hfz34_1 := blk_frozen BK261.out 1;have hfz34_2 := blk_frozen BK261.out 2;have hfz34_3 := blk_frozen BK261.out 3))
                  (try simp only [Act.put, List.setIfInBounds_toArray, List.set_cons_zero, List.set_cons_succ])
                  go_cut [16] (fun v16 wc => ∃ (kq : Nat) (x16_27 : Bool), v16 = .bool x16_27 ∧ Aside0 (pinfoldref26_Held.j4 kq a1 a2 (l0_1.length : Int) x9_4 x10_4 x12_4 x44_3 x50_4 x16_27 (l0_1.length : Int) x44_3 (l0_1.length : Int) x50_4 a0_0 l0_1 ((rd_T41 l0_1 x44_3).f0) ((rd_T41 l0_1 x44_3).f1) ((rd_T41 l0_1 x44_3).f2) ((rd_T41 l0_1 x44_3).f3) = some (r1, r2)) ∧ Aside0 (kq ≤ k4) ∧ Aside0 (Kd.R Kd.bool 4 wc w.heap.size (fun k_ => some k_ ≠ ((.slice Ao12 x10_4.length co12) : Value).ownBlock) v253 x9_4) ∧ Aside0 (Kd.R Kd.bool 4 wc w.heap.size (fun k_ => some k_ ≠ (v253 : Value).ownBlock) (.slice Ao12 x10_4.length co12) x10_4) ∧ Aside0 (wc.heap[gb251]? = some (.cells #[.int .i64 a0_0, (.slice (some ad260) l0_1.length c0_1)] 24 (0, 0))) ∧ Aside0 (wc.heap[gb261]? = some (.cells #[.int .i64 ((rd_T41 l0_1 x44_3).f0), .int .i64 ((rd_T41 l0_1 x44_3).f1), .int .i64 ((rd_T41 l0_1 x44_3).f2), .int .i32 ((rd_T41 l0_1 x44_3).f3)] 41 (0, 0))) ∧ Aside0 (Below w.heap.size w wc))
                  case first => as_aux_lemma =>
                   have H := HC28.out
                   clear HC28
                   by_cases c35 : ((rd_T41 l0_1 x44_3).f0) = 9
                   ·rw [if_pos c35] at H
                    have c35b0 : (((rd_T41 l0_1 x44_3).f0) == 9) = true := beq_iff_eq.mpr c35
                    have c35b1 : (((rd_T41 l0_1 x44_3).f0) != 9) = false := bne_eq_false_iff_eq.mpr c35
                    clear c35
                    (first|rw [c35b0]|(simp only [i64_w, i32_w];rw [c35b0])|skip)
                    by_cases c36 : (wrap64 ((rd_T41 l0_1 x44_3).f3)) = a1
                    ·rw [if_pos c36] at H
                     have c36b0 : ((wrap64 ((rd_T41 l0_1 x44_3).f3)) == a1) = true := beq_iff_eq.mpr c36
                     have c36b1 : ((wrap64 ((rd_T41 l0_1 x44_3).f3)) != a1) = false := bne_eq_false_iff_eq.mpr c36
                     clear c36
                     have H' := Aside0.mk H
                     clear H
                     have hnb37 := NB261_251.out
                     have hnc37 := NB251_261.out
                     have hcz38_0 : w32.cell? ⟨gb261, 0, none⟩ = some (.int .i64 0) := (blk_cell BK261.out 0).trans rfl
                     have hcz38_1 : w32.cell? ⟨gb261, 1, none⟩ = some (.int .i64 0) := (blk_cell BK261.out 1).trans rfl
                     have hcz38_2 : w32.cell? ⟨gb261, 2, none⟩ = some (.int .i64 0) := (blk_cell BK261.out 2).trans rfl
                     have hcz38_3 : w32.cell? ⟨gb261, 3, none⟩ = some (.int .i32 0) := (blk_cell BK261.out 3).trans rfl
                     have hfz38_0 := blk_frozen BK261.out 0
                     have hfz38_1 := blk_frozen BK261.out 1
                     have hfz38_2 := blk_frozen BK261.out 2
                     have hfz38_3 := blk_frozen BK261.out 3
                     go_wp2
                     go_meet
                     case rel => exact ⟨_, (decide (a1 < a2)), (by first|rfl|(simp;done)|(simp [*];done)), H', ⟨by have := HK1.out;have := HK2.out;have := HK3.out;have := HK4.out;first|omega|exact Nat.le_refl _⟩, ⟨by (try simp only [hl10_1]);(try simp only [hl10_2]);(try simp only [hl10_3]);(try simp only [hl10_4]);(with_reducible repeat (first|apply Kd.R_alloc|apply Kd.R_drewN|apply Kd.R_drew));exact Kd.R_mono (Kd.R_far (p := ⟨gb261, 3, none⟩) (Kd.R_far (p := ⟨gb261, 2, none⟩) (Kd.R_far (p := ⟨gb261, 1, none⟩) (Kd.R_far (p := ⟨gb261, 0, none⟩) (Kd.R_types HO_9.out BK261.out (by decide)) (fun _ hk => hk.2) (.int .i64 ((rd_T41 l0_1 x44_3).f0))) (fun _ hk => hk.2) (.int .i64 ((rd_T41 l0_1 x44_3).f1))) (fun _ hk => hk.2) (.int .i64 ((rd_T41 l0_1 x44_3).f2))) (fun _ hk => hk.2) (.int .i32 ((rd_T41 l0_1 x44_3).f3))) (fun _ hk => hk.1)⟩, ⟨by (try simp only [hl10_1]);(try simp only [hl10_2]);(try simp only [hl10_3]);(try simp only [hl10_4]);(with_reducible repeat (first|apply Kd.R_alloc|apply Kd.R_drewN|apply Kd.R_drew));exact Kd.R_mono (Kd.R_far (p := ⟨gb261, 3, none⟩) (Kd.R_far (p := ⟨gb261, 2, none⟩) (Kd.R_far (p := ⟨gb261, 1, none⟩) (Kd.R_far (p := ⟨gb261, 0, none⟩) (Kd.R_types HO_10.out BK261.out (by decide)) (fun _ hk => hk.2) (.int .i64 ((rd_T41 l0_1 x44_3).f0))) (fun _ hk => hk.2) (.int .i64 ((rd_T41 l0_1 x44_3).f1))) (fun _ hk => hk.2) (.int .i64 ((rd_T41 l0_1 x44_3).f2))) (fun _ hk => hk.2) (.int .i32 ((rd_T41 l0_1 x44_3).f3))) (fun _ hk => hk.1)⟩, ⟨by (try simp only [hl10_1]);(try simp only [hl10_2]);(try simp only [hl10_3]);(try simp only [hl10_4]);(with_reducible repeat (first|apply blk_drewN|apply blk_drew|apply blk_alloc));refine blk_far ?_ NB251_261.out _;(with_reducible repeat (first|apply blk_drewN|apply blk_drew|apply blk_alloc));refine blk_far ?_ NB251_261.out _;(with_reducible repeat (first|apply blk_drewN|apply blk_drew|apply blk_alloc));refine blk_far ?_ NB251_261.out _;(with_reducible repeat (first|apply blk_drewN|apply blk_drew|apply blk_alloc));refine blk_far ?_ NB251_261.out _;(with_reducible repeat (first|apply blk_drewN|apply blk_drew|apply blk_alloc));exact BK251.out⟩, ⟨by (try simp only [hl10_1]);(try simp only [hl10_2]);(try simp only [hl10_3]);(try simp only [hl10_4]);(with_reducible repeat (first|apply blk_drewN|apply blk_drew|apply blk_alloc));refine blk_put (cs := #[.int .i64 ((rd_T41 l0_1 x44_3).f0), .int .i64 ((rd_T41 l0_1 x44_3).f1), .int .i64 ((rd_T41 l0_1 x44_3).f2), .int .i32 0]) ?_ 3 _ rfl;(with_reducible repeat (first|apply blk_drewN|apply blk_drew|apply blk_alloc));refine blk_put (cs := #[.int .i64 ((rd_T41 l0_1 x44_3).f0), .int .i64 ((rd_T41 l0_1 x44_3).f1), .int .i64 0, .int .i32 0]) ?_ 2 _ rfl;(with_reducible repeat (first|apply blk_drewN|apply blk_drew|apply blk_alloc));refine blk_put (cs := #[.int .i64 ((rd_T41 l0_1 x44_3).f0), .int .i64 0, .int .i64 0, .int .i32 0]) ?_ 1 _ rfl;(with_reducible repeat (first|apply blk_drewN|apply blk_drew|apply blk_alloc));refine blk_put (cs := #[.int .i64 0, .int .i64 0, .int .i64 0, .int .i32 0]) ?_ 0 _ rfl;(with_reducible repeat (first|apply blk_drewN|apply blk_drew|apply blk_alloc));exact BK261.out⟩, ⟨by repeat (first|(with_reducible first|exact HB.out|apply xa|apply xb|apply xc|refine below_set ?_ GE251.out|refine below_set ?_ GE261.out)|exact HB.out)⟩⟩
                    ·rw [if_neg c36] at H
                     have c36b0 : ((wrap64 ((rd_T41 l0_1 x44_3).f3)) == a1) = false := beq_eq_false_iff_ne.mpr c36
                     have c36b1 : ((wrap64 ((rd_T41 l0_1 x44_3).f3)) != a1) = true := bne_iff_ne.mpr c36
                     have H' := Aside0.mk H
                     clear H
                     have hnb39 := NB261_251.out
                     have hnc39 := NB251_261.out
                     have hcz40_0 : w32.cell? ⟨gb261, 0, none⟩ = some (.int .i64 0) := (blk_cell BK261.out 0).trans rfl
                     have hcz40_1 : w32.cell? ⟨gb261, 1, none⟩ = some (.int .i64 0) := (blk_cell BK261.out 1).trans rfl
                     have hcz40_2 : w32.cell? ⟨gb261, 2, none⟩ = some (.int .i64 0) := (blk_cell BK261.out 2).trans rfl
                     have hcz40_3 : w32.cell? ⟨gb261, 3, none⟩ = some (.int .i32 0) := (blk_cell BK261.out 3).trans rfl
                     have hfz40_0 := blk_frozen BK261.out 0
                     have hfz40_1 := blk_frozen BK261.out 1
                     have hfz40_2 := blk_frozen BK261.out 2
                     have hfz40_3 := blk_frozen BK261.out 3
                     go_wp2
                     go_meet
                     case rel => exact ⟨_, (false), (by first|rfl|(simp;done)|(simp [*];done)), H', ⟨by have := HK1.out;have := HK2.out;have := HK3.out;have := HK4.out;first|omega|exact Nat.le_refl _⟩, ⟨by (try simp only [hl10_1]);(try simp only [hl10_2]);(try simp only [hl10_3]);(try simp only [hl10_4]);(with_reducible repeat (first|apply Kd.R_alloc|apply Kd.R_drewN|apply Kd.R_drew));exact Kd.R_mono (Kd.R_far (p := ⟨gb261, 3, none⟩) (Kd.R_far (p := ⟨gb261, 2, none⟩) (Kd.R_far (p := ⟨gb261, 1, none⟩) (Kd.R_far (p := ⟨gb261, 0, none⟩) (Kd.R_types HO_9.out BK261.out (by decide)) (fun _ hk => hk.2) (.int .i64 ((rd_T41 l0_1 x44_3).f0))) (fun _ hk => hk.2) (.int .i64 ((rd_T41 l0_1 x44_3).f1))) (fun _ hk => hk.2) (.int .i64 ((rd_T41 l0_1 x44_3).f2))) (fun _ hk => hk.2) (.int .i32 ((rd_T41 l0_1 x44_3).f3))) (fun _ hk => hk.1)⟩, ⟨by (try simp only [hl10_1]);(try simp only [hl10_2]);(try simp only [hl10_3]);(try simp only [hl10_4]);(with_reducible repeat (first|apply Kd.R_alloc|apply Kd.R_drewN|apply Kd.R_drew));exact Kd.R_mono (Kd.R_far (p := ⟨gb261, 3, none⟩) (Kd.R_far (p := ⟨gb261, 2, none⟩) (Kd.R_far (p := ⟨gb261, 1, none⟩) (Kd.R_far (p := ⟨gb261, 0, none⟩) (Kd.R_types HO_10.out BK261.out (by decide)) (fun _ hk => hk.2) (.int .i64 ((rd_T41 l0_1 x44_3).f0))) (fun _ hk => hk.2) (.int .i64 ((rd_T41 l0_1 x44_3).f1))) (fun _ hk => hk.2) (.int .i64 ((rd_T41 l0_1 x44_3).f2))) (fun _ hk => hk.2) (.int .i32 ((rd_T41 l0_1 x44_3).f3))) (fun _ hk => hk.1)⟩, ⟨by (try simp only [hl10_1]);(try simp only [hl10_2]);(try simp only [hl10_3]);(try simp only [hl10_4]);(with_reducible repeat (first|apply blk_drewN|apply blk_drew|apply blk_alloc));refine blk_far ?_ NB251_261.out _;(with_reducible repeat (first|apply blk_drewN|apply blk_drew|apply blk_alloc));refine blk_far ?_ NB251_261.out _;(with_reducible repeat (first|apply blk_drewN|apply blk_drew|apply blk_alloc));refine blk_far ?_ NB251_261.out _;(with_reducible repeat (first|apply blk_drewN|apply blk_drew|apply blk_alloc));refine blk_far ?_ NB251_261.out _;(with_reducible repeat (first|apply blk_drewN|apply blk_drew|apply blk_alloc));exact BK251.out⟩, ⟨by (try simp only [hl10_1]);(try simp only [hl10_2]);(try simp only [hl10_3]);(try simp only [hl10_4]);(with_reducible repeat (first|apply blk_drewN|apply blk_drew|apply blk_alloc));refine blk_put (cs := #[.int .i64 ((rd_T41 l0_1 x44_3).f0), .int .i64 ((rd_T41 l0_1 x44_3).f1), .int .i64 ((rd_T41 l0_1 x44_3).f2), .int .i32 0]) ?_ 3 _ rfl;(with_reducible repeat (first|apply blk_drewN|apply blk_drew|apply blk_alloc));refine blk_put (cs := #[.int .i64 ((rd_T41 l0_1 x44_3).f0), .int .i64 ((rd_T41 l0_1 x44_3).f1), .int .i64 0, .int .i32 0]) ?_ 2 _ rfl;(with_reducible repeat (first|apply blk_drewN|apply blk_drew|apply blk_alloc));refine blk_put (cs := #[.int .i64 ((rd_T41 l0_1 x44_3).f0), .int .i64 0, .int .i64 0, .int .i32 0]) ?_ 1 _ rfl;(with_reducible repeat (first|apply blk_drewN|apply blk_drew|apply blk_alloc));refine blk_put (cs := #[.int .i64 0, .int .i64 0, .int .i64 0, .int .i32 0]) ?_ 0 _ rfl;(with_reducible repeat (first|apply blk_drewN|apply blk_drew|apply blk_alloc));exact BK261.out⟩, ⟨by repeat (first|(with_reducible first|exact HB.out|apply xa|apply xb|apply xc|refine below_set ?_ GE251.out|refine below_set ?_ GE261.out)|exact HB.out)⟩⟩
                   ·rw [if_neg c35] at H
                    have c35b0 : (((rd_T41 l0_1 x44_3).f0) == 9) = false := beq_eq_false_iff_ne.mpr c35
                    have c35b1 : (((rd_T41 l0_1 x44_3).f0) != 9) = true := bne_iff_ne.mpr c35
                    (first|rw [c35b0]|(simp only [i64_w, i32_w];rw [c35b0])|skip)
                    have H' := Aside0.mk H
                    clear H
                    have hnb41 := NB261_251.out
                    have hnc41 := NB251_261.out
                    have hcz42_0 : w32.cell? ⟨gb261, 0, none⟩ = some (.int .i64 0) := (blk_cell BK261.out 0).trans rfl
                    have hcz42_1 : w32.cell? ⟨gb261, 1, none⟩ = some (.int .i64 0) := (blk_cell BK261.out 1).trans rfl
                    have hcz42_2 : w32.cell? ⟨gb261, 2, none⟩ = some (.int .i64 0) := (blk_cell BK261.out 2).trans rfl
                    have hcz42_3 : w32.cell? ⟨gb261, 3, none⟩ = some (.int .i32 0) := (blk_cell BK261.out 3).trans rfl
                    have hfz42_0 := blk_frozen BK261.out 0
                    have hfz42_1 := blk_frozen BK261.out 1
                    have hfz42_2 := blk_frozen BK261.out 2
                    have hfz42_3 := blk_frozen BK261.out 3
                    go_wp2
                    go_meet
                    case rel => exact ⟨_, (false), (by first|rfl|(simp;done)|(simp [*];done)), H', ⟨by have := HK1.out;have := HK2.out;have := HK3.out;have := HK4.out;first|omega|exact Nat.le_refl _⟩, ⟨by (try simp only [hl10_1]);(try simp only [hl10_2]);(try simp only [hl10_3]);(try simp only [hl10_4]);(with_reducible repeat (first|apply Kd.R_alloc|apply Kd.R_drewN|apply Kd.R_drew));exact Kd.R_mono (Kd.R_far (p := ⟨gb261, 3, none⟩) (Kd.R_far (p := ⟨gb261, 2, none⟩) (Kd.R_far (p := ⟨gb261, 1, none⟩) (Kd.R_far (p := ⟨gb261, 0, none⟩) (Kd.R_types HO_9.out BK261.out (by decide)) (fun _ hk => hk.2) (.int .i64 ((rd_T41 l0_1 x44_3).f0))) (fun _ hk => hk.2) (.int .i64 ((rd_T41 l0_1 x44_3).f1))) (fun _ hk => hk.2) (.int .i64 ((rd_T41 l0_1 x44_3).f2))) (fun _ hk => hk.2) (.int .i32 ((rd_T41 l0_1 x44_3).f3))) (fun _ hk => hk.1)⟩, ⟨by (try simp only [hl10_1]);(try simp only [hl10_2]);(try simp only [hl10_3]);(try simp only [hl10_4]);(with_reducible repeat (first|apply Kd.R_alloc|apply Kd.R_drewN|apply Kd.R_drew));exact Kd.R_mono (Kd.R_far (p := ⟨gb261, 3, none⟩) (Kd.R_far (p := ⟨gb261, 2, none⟩) (Kd.R_far (p := ⟨gb261, 1, none⟩) (Kd.R_far (p := ⟨gb261, 0, none⟩) (Kd.R_types HO_10.out BK261.out (by decide)) (fun _ hk => hk.2) (.int .i64 ((rd_T41 l0_1 x44_3).f0))) (fun _ hk => hk.2) (.int .i64 ((rd_T41 l0_1 x44_3).f1))) (fun _ hk => hk.2) (.int .i64 ((rd_T41 l0_1 x44_3).f2))) (fun _ hk => hk.2) (.int .i32 ((rd_T41 l0_1 x44_3).f3))) (fun _ hk => hk.1)⟩, ⟨by (try simp only [hl10_1]);(try simp only [hl10_2]);(try simp only [hl10_3]);(try simp only [hl10_4]);(with_reducible repeat (first|apply blk_drewN|apply blk_drew|apply blk_alloc));refine blk_far ?_ NB251_261.out _;(with_reducible repeat (first|apply blk_drewN|apply blk_drew|apply blk_alloc));refine blk_far ?_ NB251_261.out _;(with_reducible repeat (first|apply blk_drewN|apply blk_drew|apply blk_alloc));refine blk_far ?_ NB251_261.out _;(with_reducible repeat (first|apply blk_drewN|apply blk_drew|apply blk_alloc));refine blk_far ?_ NB251_261.out _;(with_reducible repeat (first|apply blk_drewN|apply blk_drew|apply blk_alloc));exact BK251.out⟩, ⟨by (try simp only [hl10_1]);(try simp only [hl10_2]);(try simp only [hl10_3]);(try simp only [hl10_4]);(with_reducible repeat (first|apply blk_drewN|apply blk_drew|apply blk_alloc));refine blk_put (cs := #[.int .i64 ((rd_T41 l0_1 x44_3).f0), .int .i64 ((rd_T41 l0_1 x44_3).f1), .int .i64 ((rd_T41 l0_1 x44_3).f2), .int .i32 0]) ?_ 3 _ rfl;(with_reducible repeat (first|apply blk_drewN|apply blk_drew|apply blk_alloc));refine blk_put (cs := #[.int .i64 ((rd_T41 l0_1 x44_3).f0), .int .i64 ((rd_T41 l0_1 x44_3).f1), .int .i64 0, .int .i32 0]) ?_ 2 _ rfl;(with_reducible repeat (first|apply blk_drewN|apply blk_drew|apply blk_alloc));refine blk_put (cs := #[.int .i64 ((rd_T41 l0_1 x44_3).f0), .int .i64 0, .int .i64 0, .int .i32 0]) ?_ 1 _ rfl;(with_reducible repeat (first|apply blk_drewN|apply blk_drew|apply blk_alloc));refine blk_put (cs := #[.int .i64 0, .int .i64 0, .int .i64 0, .int .i32 0]) ?_ 0 _ rfl;(with_reducible repeat (first|apply blk_drewN|apply blk_drew|apply blk_alloc));exact BK261.out⟩, ⟨by repeat (first|(with_reducible first|exact HB.out|apply xa|apply xb|apply xc|refine below_set ?_ GE251.out|refine below_set ?_ GE261.out)|exact HB.out)⟩⟩
                  case rest => as_aux_lemma =>
                   clear HC28
                   try clear c1
                   try clear p1
                   try clear q1
                   try clear hx1
                   try clear c2
                   try clear p2
                   try clear q2
                   try clear hx2
                   try clear c3
                   try clear c4
                   try clear c4b0
                   try clear c4b1
                   try clear c5
                   try clear c5b0
                   try clear c5b1
                   try clear c6
                   try clear p6
                   try clear c13
                   try clear c13b0
                   try clear c14
                   try clear c14b0
                   try clear c15
                   try clear c15b0
                   try clear p16
                   try clear q16
                   try clear hx16
                   try clear hf16
                   try clear c17
                   try clear c19
                   try clear c21
                   try clear c21b0
                   try clear c23
                   try clear c23b0
                   try clear c25
                   try clear c26
                   try clear c26b0
                   try clear p26
                   try clear q26
                   try clear hx26
                   try clear c27
                   try clear c27b0
                   try clear c33
                   try clear c35
                   try clear c35b0
                   try clear c35b1
                   try clear c36
                   try clear c36b0
                   try clear c36b1
                   try clear c37
                   try clear c39
                   try clear c41
                   try clear hcz20_0
                   try clear hcz20_1
                   try clear hcz22_0
                   try clear hcz22_1
                   try clear hcz29_0
                   try clear hcz29_1
                   try clear hcz31_0
                   try clear hcz31_1
                   try clear hcz34_0
                   try clear hcz34_1
                   try clear hcz34_2
                   try clear hcz34_3
                   try clear hcz38_0
                   try clear hcz38_1
                   try clear hcz38_2
                   try clear hcz38_3
                   try clear hcz40_0
                   try clear hcz40_1
                   try clear hcz40_2
                   try clear hcz40_3
                   try clear hcz42_0
                   try clear hcz42_1
                   try clear hcz42_2
                   try clear hcz42_3
                   try clear hcz7_0
                   try clear hcz7_1
                   try clear hfz20_0
                   try clear hfz20_1
                   try clear hfz22_0
                   try clear hfz22_1
                   try clear hfz29_0
                   try clear hfz29_1
                   try clear hfz31_0
                   try clear hfz31_1
                   try clear hfz34_0
                   try clear hfz34_1
                   try clear hfz34_2
                   try clear hfz34_3
                   try clear hfz38_0
                   try clear hfz38_1
                   try clear hfz38_2
                   try clear hfz38_3
                   try clear hfz40_0
                   try clear hfz40_1
                   try clear hfz40_2
                   try clear hfz40_3
                   try clear hfz42_0
                   try clear hfz42_1
                   try clear hfz42_2
                   try clear hfz42_3
                   try clear hfz7_0
                   try clear hfz7_1
                   try clear hx16_0
                   try clear hx260_0
                   try clear hx260_1
                   try clear hx260_2
                   try clear hx260_3
                   try clear p1
                   try clear p16
                   try clear p2
                   try clear p260
                   try clear p6
                   try clear q1
                   try clear q16
                   try clear q260
                   obtain ⟨kq, x16_27, rfl, HA, HJ27, HO_9, HO_10, BK251, BK261, HB⟩ := hcut
                   cases kq with
                   | zero => exact absurd HA.out (by simp [pinfoldref26_Held.j4])
                   | succ kj27 =>
                    have H := HA.out
                    clear HA
                    simp only [pinfoldref26_Held.j4] at H
                    have HC43 := Aside0.mk H
                    clear H
                    go_upto_region 21 with (fail)
                    go_cut [17] (fun v17 wc => ∃ (kq : Nat) (x17_42 : Bool), v17 = .bool x17_42 ∧ Aside0 (pinfoldref26_Held.j5 kq a1 a2 (l0_1.length : Int) x9_4 x10_4 x12_4 x44_3 x50_4 x16_27 x17_42 (l0_1.length : Int) x44_3 (l0_1.length : Int) x50_4 a0_0 l0_1 = some (r1, r2)) ∧ Aside0 (kq ≤ kj27) ∧ Aside0 (Kd.R Kd.bool 4 wc w.heap.size (fun k_ => some k_ ≠ ((.slice Ao12 x10_4.length co12) : Value).ownBlock) v253 x9_4) ∧ Aside0 (Kd.R Kd.bool 4 wc w.heap.size (fun k_ => some k_ ≠ (v253 : Value).ownBlock) (.slice Ao12 x10_4.length co12) x10_4) ∧ Aside0 (wc.heap[gb251]? = some (.cells #[.int .i64 a0_0, (.slice (some ad260) l0_1.length c0_1)] 24 (0, 0))) ∧ Aside0 (wc.heap[gb261]? = some (.cells #[.int .i64 ((rd_T41 l0_1 x44_3).f0), .int .i64 ((rd_T41 l0_1 x44_3).f1), .int .i64 ((rd_T41 l0_1 x44_3).f2), .int .i32 ((rd_T41 l0_1 x44_3).f3)] 41 (0, 0))) ∧ Aside0 (Below w.heap.size w wc))
                    case first => as_aux_lemma =>
                     have H := HC43.out
                     clear HC43
                     by_cases c44 : ((rd_T41 l0_1 x44_3).f0) = 10
                     ·rw [if_pos c44] at H
                      have c44b0 : (((rd_T41 l0_1 x44_3).f0) == 10) = true := beq_iff_eq.mpr c44
                      have c44b1 : (((rd_T41 l0_1 x44_3).f0) != 10) = false := bne_eq_false_iff_eq.mpr c44
                      clear c44
                      (first|rw [c44b0]|(simp only [i64_w, i32_w];rw [c44b0])|skip)
                      have H' := Aside0.mk H
                      clear H
                      have hnb45 := NB261_251.out
                      have hnc45 := NB251_261.out
                      have hcz46_0 : wc.cell? ⟨gb261, 0, none⟩ = some (.int .i64 ((rd_T41 l0_1 x44_3).f0)) := (blk_cell BK261.out 0).trans rfl
                      have hcz46_1 : wc.cell? ⟨gb261, 1, none⟩ = some (.int .i64 ((rd_T41 l0_1 x44_3).f1)) := (blk_cell BK261.out 1).trans rfl
                      have hcz46_2 : wc.cell? ⟨gb261, 2, none⟩ = some (.int .i64 ((rd_T41 l0_1 x44_3).f2)) := (blk_cell BK261.out 2).trans rfl
                      have hcz46_3 : wc.cell? ⟨gb261, 3, none⟩ = some (.int .i32 ((rd_T41 l0_1 x44_3).f3)) := (blk_cell BK261.out 3).trans rfl
                      have hfz46_0 := blk_frozen BK261.out 0
                      have hfz46_1 := blk_frozen BK261.out 1
                      have hfz46_2 := blk_frozen BK261.out 2
                      have hfz46_3 := blk_frozen BK261.out 3
                      go_wp2
                      go_meet
                      case rel => exact ⟨_, (((wrap64 (((rd_T41 l0_1 x44_3).f3))) == a1)), (by first|rfl|(simp;done)|(simp [*];done)), H', ⟨by have := HK1.out;have := HK2.out;have := HK3.out;have := HK4.out;have := HJ27.out;first|omega|exact Nat.le_refl _⟩, ⟨by (try simp only [hl10_1]);(try simp only [hl10_2]);(try simp only [hl10_3]);(try simp only [hl10_4]);(with_reducible repeat (first|apply Kd.R_alloc|apply Kd.R_drewN|apply Kd.R_drew));exact HO_9.out⟩, ⟨by (try simp only [hl10_1]);(try simp only [hl10_2]);(try simp only [hl10_3]);(try simp only [hl10_4]);(with_reducible repeat (first|apply Kd.R_alloc|apply Kd.R_drewN|apply Kd.R_drew));exact HO_10.out⟩, ⟨by (try simp only [hl10_1]);(try simp only [hl10_2]);(try simp only [hl10_3]);(try simp only [hl10_4]);(with_reducible repeat (first|apply blk_drewN|apply blk_drew|apply blk_alloc));exact BK251.out⟩, ⟨by (try simp only [hl10_1]);(try simp only [hl10_2]);(try simp only [hl10_3]);(try simp only [hl10_4]);(with_reducible repeat (first|apply blk_drewN|apply blk_drew|apply blk_alloc));exact BK261.out⟩, ⟨by repeat (first|(with_reducible first|exact HB.out|apply xa|apply xb|apply xc|refine below_set ?_ GE251.out|refine below_set ?_ GE261.out)|exact HB.out)⟩⟩
                     ·rw [if_neg c44] at H
                      have c44b0 : (((rd_T41 l0_1 x44_3).f0) == 10) = false := beq_eq_false_iff_ne.mpr c44
                      have c44b1 : (((rd_T41 l0_1 x44_3).f0) != 10) = true := bne_iff_ne.mpr c44
                      (first|rw [c44b0]|(simp only [i64_w, i32_w];rw [c44b0])|skip)
                      have H' := Aside0.mk H
                      clear H
                      have hnb47 := NB261_251.out
                      have hnc47 := NB251_261.out
                      have hcz48_0 : wc.cell? ⟨gb261, 0, none⟩ = some (.int .i64 ((rd_T41 l0_1 x44_3).f0)) := (blk_cell BK261.out 0).trans rfl
                      have hcz48_1 : wc.cell? ⟨gb261, 1, none⟩ = some (.int .i64 ((rd_T41 l0_1 x44_3).f1)) := (blk_cell BK261.out 1).trans rfl
                      have hcz48_2 : wc.cell? ⟨gb261, 2, none⟩ = some (.int .i64 ((rd_T41 l0_1 x44_3).f2)) := (blk_cell BK261.out 2).trans rfl
                      have hcz48_3 : wc.cell? ⟨gb261, 3, none⟩ = some (.int .i32 ((rd_T41 l0_1 x44_3).f3)) := (blk_cell BK261.out 3).trans rfl
                      have hfz48_0 := blk_frozen BK261.out 0
                      have hfz48_1 := blk_frozen BK261.out 1
                      have hfz48_2 := blk_frozen BK261.out 2
                      have hfz48_3 := blk_frozen BK261.out 3
                      go_wp2
                      go_meet
                      case rel => exact ⟨_, (false), (by first|rfl|(simp;done)|(simp [*];done)), H', ⟨by have := HK1.out;have := HK2.out;have := HK3.out;have := HK4.out;have := HJ27.out;first|omega|exact Nat.le_refl _⟩, ⟨by (try simp only [hl10_1]);(try simp only [hl10_2]);(try simp only [hl10_3]);(try simp only [hl10_4]);(with_reducible repeat (first|apply Kd.R_alloc|apply Kd.R_drewN|apply Kd.R_drew));exact HO_9.out⟩, ⟨by (try simp only [hl10_1]);(try simp only [hl10_2]);(try simp only [hl10_3]);(try simp only [hl10_4]);(with_reducible repeat (first|apply Kd.R_alloc|apply Kd.R_drewN|apply Kd.R_drew));exact HO_10.out⟩, ⟨by (try simp only [hl10_1]);(try simp only [hl10_2]);(try simp only [hl10_3]);(try simp only [hl10_4]);(with_reducible repeat (first|apply blk_drewN|apply blk_drew|apply blk_alloc));exact BK251.out⟩, ⟨by (try simp only [hl10_1]);(try simp only [hl10_2]);(try simp only [hl10_3]);(try simp only [hl10_4]);(with_reducible repeat (first|apply blk_drewN|apply blk_drew|apply blk_alloc));exact BK261.out⟩, ⟨by repeat (first|(with_reducible first|exact HB.out|apply xa|apply xb|apply xc|refine below_set ?_ GE251.out|refine below_set ?_ GE261.out)|exact HB.out)⟩⟩
                    case rest => as_aux_lemma =>
                     clear HC43
                     try clear c1
                     try clear p1
                     try clear q1
                     try clear hx1
                     try clear c2
                     try clear p2
                     try clear q2
                     try clear hx2
                     try clear c3
                     try clear c4
                     try clear c4b0
                     try clear c4b1
                     try clear c5
                     try clear c5b0
                     try clear c5b1
                     try clear c6
                     try clear p6
                     try clear c13
                     try clear c13b0
                     try clear c14
                     try clear c14b0
                     try clear c15
                     try clear c15b0
                     try clear p16
                     try clear q16
                     try clear hx16
                     try clear hf16
                     try clear c17
                     try clear c19
                     try clear c21
                     try clear c21b0
                     try clear c23
                     try clear c23b0
                     try clear c25
                     try clear c26
                     try clear c26b0
                     try clear p26
                     try clear q26
                     try clear hx26
                     try clear c27
                     try clear c27b0
                     try clear c33
                     try clear c35
                     try clear c35b0
                     try clear c35b1
                     try clear c36
                     try clear c36b0
                     try clear c36b1
                     try clear c37
                     try clear c39
                     try clear c41
                     try clear c44
                     try clear c44b0
                     try clear c44b1
                     try clear c45
                     try clear c47
                     try clear hcz20_0
                     try clear hcz20_1
                     try clear hcz22_0
                     try clear hcz22_1
                     try clear hcz29_0
                     try clear hcz29_1
                     try clear hcz31_0
                     try clear hcz31_1
                     try clear hcz34_0
                     try clear hcz34_1
                     try clear hcz34_2
                     try clear hcz34_3
                     try clear hcz38_0
                     try clear hcz38_1
                     try clear hcz38_2
                     try clear hcz38_3
                     try clear hcz40_0
                     try clear hcz40_1
                     try clear hcz40_2
                     try clear hcz40_3
                     try clear hcz42_0
                     try clear hcz42_1
                     try clear hcz42_2
                     try clear hcz42_3
                     try clear hcz46_0
                     try clear hcz46_1
                     try clear hcz46_2
                     try clear hcz46_3
                     try clear hcz48_0
                     try clear hcz48_1
                     try clear hcz48_2
                     try clear hcz48_3
                     try clear hcz7_0
                     try clear hcz7_1
                     try clear hfz20_0
                     try clear hfz20_1
                     try clear hfz22_0
                     try clear hfz22_1
                     try clear hfz29_0
                     try clear hfz29_1
                     try clear hfz31_0
                     try clear hfz31_1
                     try clear hfz34_0
                     try clear hfz34_1
                     try clear hfz34_2
                     try clear hfz34_3
                     try clear hfz38_0
                     try clear hfz38_1
                     try clear hfz38_2
                     try clear hfz38_3
                     try clear hfz40_0
                     try clear hfz40_1
                     try clear hfz40_2
                     try clear hfz40_3
                     try clear hfz42_0
                     try clear hfz42_1
                     try clear hfz42_2
                     try clear hfz42_3
                     try clear hfz46_0
                     try clear hfz46_1
                     try clear hfz46_2
                     try clear hfz46_3
                     try clear hfz48_0
                     try clear hfz48_1
                     try clear hfz48_2
                     try clear hfz48_3
                     try clear hfz7_0
                     try clear hfz7_1
                     try clear hx16_0
                     try clear hx260_0
                     try clear hx260_1
                     try clear hx260_2
                     try clear hx260_3
                     try clear p1
                     try clear p16
                     try clear p2
                     try clear p26
                     try clear p260
                     try clear p6
                     try clear q1
                     try clear q16
                     try clear q2
                     try clear q26
                     try clear q260
                     obtain ⟨kq, x17_42, rfl, HA, HJ42, HO_9, HO_10, BK251, BK261, HB⟩ := hcut
                     cases kq with
                     | zero => exact absurd HA.out (by simp [pinfoldref26_Held.j5])
                     | succ kj42 =>
                      have H := HA.out
                      clear HA
                      simp only [pinfoldref26_Held.j5] at H
                      have HC49 := Aside0.mk H
                      clear H
                      go_upto_region 22 with (fail)
                      go_cut [18] (fun v18 wc => ∃ (kq : Nat) (x18_48 : Bool), v18 = .bool x18_48 ∧ Aside0 (pinfoldref26_Held.j6 kq a1 a2 (l0_1.length : Int) x9_4 x10_4 x12_4 x44_3 x50_4 x16_27 x17_42 x18_48 (l0_1.length : Int) x44_3 (l0_1.length : Int) x50_4 a0_0 l0_1 = some (r1, r2)) ∧ Aside0 (kq ≤ kj42) ∧ Aside0 (Kd.R Kd.bool 4 wc w.heap.size (fun k_ => some k_ ≠ ((.slice Ao12 x10_4.length co12) : Value).ownBlock) v253 x9_4) ∧ Aside0 (Kd.R Kd.bool 4 wc w.heap.size (fun k_ => some k_ ≠ (v253 : Value).ownBlock) (.slice Ao12 x10_4.length co12) x10_4) ∧ Aside0 (wc.heap[gb251]? = some (.cells #[.int .i64 a0_0, (.slice (some ad260) l0_1.length c0_1)] 24 (0, 0))) ∧ Aside0 (wc.heap[gb261]? = some (.cells #[.int .i64 ((rd_T41 l0_1 x44_3).f0), .int .i64 ((rd_T41 l0_1 x44_3).f1), .int .i64 ((rd_T41 l0_1 x44_3).f2), .int .i32 ((rd_T41 l0_1 x44_3).f3)] 41 (0, 0))) ∧ Aside0 (Below w.heap.size w wc))
                      case first => as_aux_lemma =>
                       have H := HC49.out
                       clear HC49
                       by_cases c50 : 0 ≤ x44_3
                       ·rw [if_pos c50] at H
                        have c50b0 : decide (0 ≤ x44_3) = true := decide_eq_true c50
                        clear c50
                        (first|rw [c50b0]|(simp only [i64_w, i32_w];rw [c50b0])|skip)
                        by_cases c51 : x44_3 < (x9_4.length : Int)
                        ·rw [if_pos c51] at H
                         have c51b0 : decide (x44_3 < (x9_4.length : Int)) = true := decide_eq_true c51
                         have c51b9 := c51b0
                         (try simp only [hl10_1] at c51b9)
                         (try simp only [hl10_2] at c51b9)
                         (try simp only [hl10_3] at c51b9)
                         (try simp only [hl10_4] at c51b9)
                         clear c51
                         obtain ⟨bq52, hbq52⟩ : ∃ b_ : Bool, b_ = (rdOf false x9_4 x44_3) := ⟨_, rfl⟩
                         replace H : (if bq52 = true then (pinfoldref26_Held.j6 kj42 a1 a2 (l0_1.length : Int) x9_4 x10_4 x12_4 x44_3 x50_4 x16_27 x17_42 (!x17_42) (l0_1.length : Int) x44_3 (l0_1.length : Int) x50_4 a0_0 l0_1) else (if x16_27 = true then (if x44_3 < (x10_4.length : Int) then (if rdOf false x10_4 x44_3 = true then (pinfoldref26_Held.j6 kj42 a1 a2 (l0_1.length : Int) x9_4 x10_4 x12_4 x44_3 x50_4 x16_27 x17_42 (!x17_42) (l0_1.length : Int) x44_3 (l0_1.length : Int) x50_4 a0_0 l0_1) else (pinfoldref26_Held.j6 kj42 a1 a2 (l0_1.length : Int) x9_4 x10_4 x12_4 x44_3 x50_4 x16_27 x17_42 false (l0_1.length : Int) x44_3 (l0_1.length : Int) x50_4 a0_0 l0_1)) else (none)) else (pinfoldref26_Held.j6 kj42 a1 a2 (l0_1.length : Int) x9_4 x10_4 x12_4 x44_3 x50_4 x16_27 x17_42 false (l0_1.length : Int) x44_3 (l0_1.length : Int) x50_4 a0_0 l0_1))) = some (r1, r2) := by rw [← hbq52] at H;exact H
                         have Nbq52 := Aside0.mk hbq52
                         (try rw [← Nbq52.out] at c44b0)
                         (try rw [← Nbq52.out] at c44b1)
                         (try rw [← Nbq52.out] at c44b2)
                         (try rw [← Nbq52.out] at c44b3)
                         (try rw [← Nbq52.out] at c50b0)
                         (try rw [← Nbq52.out] at c50b1)
                         (try rw [← Nbq52.out] at c50b2)
                         (try rw [← Nbq52.out] at c50b3)
                         (try rw [← Nbq52.out] at c51b0)
                         (try rw [← Nbq52.out] at c51b1)
                         (try rw [← Nbq52.out] at c51b2)
                         (try rw [← Nbq52.out] at c51b3)
                         clear hbq52
                         by_cases c53 : bq52 = true
                         ·subst c53
                          have H1 : (pinfoldref26_Held.j6 kj42 a1 a2 (l0_1.length : Int) x9_4 x10_4 x12_4 x44_3 x50_4 x16_27 x17_42 (!x17_42) (l0_1.length : Int) x44_3 (l0_1.length : Int) x50_4 a0_0 l0_1) = some (r1, r2) := by rw [if_pos rfl] at H;exact H
                          clear H
                          have H := H1
                          clear H1
                          have H' := Aside0.mk H
                          clear H
                          obtain ⟨Ao54, co54, eo54⟩ := Kd.R_slice HO_9.out
                          subst eo54
                          have p262 : 0 ≤ (x44_3 : Int) := of_decide_eq_true (by assumption)
                          have q262 : x44_3 < (x9_4.length : Int) := of_decide_eq_true (by assumption)
                          obtain ⟨ad262, e262, hx262_0⟩ := Kd.at_bool (Kd.R_reads' HO_9.out).2.2 x44_3 p262 q262
                          (try rw [← Nbq52.out] at hx262_0)
                          cases e262
                          replace p262 := eq_true p262
                          replace q262 := eq_true q262
                          go_wp2
                          go_meet
                          case rel => exact ⟨_, (!x17_42), (by first|rfl|(simp;done)|(simp [*];done)), H', ⟨by have := HK1.out;have := HK2.out;have := HK3.out;have := HK4.out;have := HJ27.out;have := HJ42.out;first|omega|exact Nat.le_refl _⟩, ⟨by (try simp only [hl10_1]);(try simp only [hl10_2]);(try simp only [hl10_3]);(try simp only [hl10_4]);(with_reducible repeat (first|apply Kd.R_alloc|apply Kd.R_drewN|apply Kd.R_drew));exact HO_9.out⟩, ⟨by (try simp only [hl10_1]);(try simp only [hl10_2]);(try simp only [hl10_3]);(try simp only [hl10_4]);(with_reducible repeat (first|apply Kd.R_alloc|apply Kd.R_drewN|apply Kd.R_drew));exact HO_10.out⟩, ⟨by (try simp only [hl10_1]);(try simp only [hl10_2]);(try simp only [hl10_3]);(try simp only [hl10_4]);(with_reducible repeat (first|apply blk_drewN|apply blk_drew|apply blk_alloc));exact BK251.out⟩, ⟨by (try simp only [hl10_1]);(try simp only [hl10_2]);(try simp only [hl10_3]);(try simp only [hl10_4]);(with_reducible repeat (first|apply blk_drewN|apply blk_drew|apply blk_alloc));exact BK261.out⟩, ⟨by repeat (first|(with_reducible first|exact HB.out|apply xa|apply xb|apply xc|refine below_set ?_ GE251.out|refine below_set ?_ GE261.out)|exact HB.out)⟩⟩
                         ·replace c53 := Bool.eq_false_iff.mpr c53
                          subst c53
                          have H1 : (if x16_27 = true then (if x44_3 < (x10_4.length : Int) then (if rdOf false x10_4 x44_3 = true then (pinfoldref26_Held.j6 kj42 a1 a2 (l0_1.length : Int) x9_4 x10_4 x12_4 x44_3 x50_4 x16_27 x17_42 (!x17_42) (l0_1.length : Int) x44_3 (l0_1.length : Int) x50_4 a0_0 l0_1) else (pinfoldref26_Held.j6 kj42 a1 a2 (l0_1.length : Int) x9_4 x10_4 x12_4 x44_3 x50_4 x16_27 x17_42 false (l0_1.length : Int) x44_3 (l0_1.length : Int) x50_4 a0_0 l0_1)) else (none)) else (pinfoldref26_Held.j6 kj42 a1 a2 (l0_1.length : Int) x9_4 x10_4 x12_4 x44_3 x50_4 x16_27 x17_42 false (l0_1.length : Int) x44_3 (l0_1.length : Int) x50_4 a0_0 l0_1)) = some (r1, r2) := by rw [if_neg (show ¬ (false = true) by decide)] at H;exact H
                          clear H
                          have H := H1
                          clear H1
                          by_cases c55 : x16_27 = true
                          ·subst c55
                           have H1 : (if x44_3 < (x10_4.length : Int) then (if rdOf false x10_4 x44_3 = true then (pinfoldref26_Held.j6 kj42 a1 a2 (l0_1.length : Int) x9_4 x10_4 x12_4 x44_3 x50_4 true x17_42 (!x17_42) (l0_1.length : Int) x44_3 (l0_1.length : Int) x50_4 a0_0 l0_1) else (pinfoldref26_Held.j6 kj42 a1 a2 (l0_1.length : Int) x9_4 x10_4 x12_4 x44_3 x50_4 true x17_42 false (l0_1.length : Int) x44_3 (l0_1.length : Int) x50_4 a0_0 l0_1)) else (none)) = some (r1, r2) := by rw [if_pos rfl] at H;exact H
                           clear H
                           have H := H1
                           clear H1
                           by_cases c56 : x44_3 < (x10_4.length : Int)
                           ·rw [if_pos c56] at H
                            have c56b0 : decide (x44_3 < (x10_4.length : Int)) = true := decide_eq_true c56
                            have c56b9 := c56b0
                            (try simp only [hl10_1] at c56b9)
                            (try simp only [hl10_2] at c56b9)
                            (try simp only [hl10_3] at c56b9)
                            (try simp only [hl10_4] at c56b9)
                            clear c56
                            obtain ⟨bq57, hbq57⟩ : ∃ b_ : Bool, b_ = (rdOf false x10_4 x44_3) := ⟨_, rfl⟩
                            replace H : (if bq57 = true then (pinfoldref26_Held.j6 kj42 a1 a2 (l0_1.length : Int) x9_4 x10_4 x12_4 x44_3 x50_4 true x17_42 (!x17_42) (l0_1.length : Int) x44_3 (l0_1.length : Int) x50_4 a0_0 l0_1) else (pinfoldref26_Held.j6 kj42 a1 a2 (l0_1.length : Int) x9_4 x10_4 x12_4 x44_3 x50_4 true x17_42 false (l0_1.length : Int) x44_3 (l0_1.length : Int) x50_4 a0_0 l0_1)) = some (r1, r2) := by rw [← hbq57] at H;exact H
                            have Nbq57 := Aside0.mk hbq57
                            (try rw [← Nbq57.out] at c50b0)
                            (try rw [← Nbq57.out] at c50b1)
                            (try rw [← Nbq57.out] at c50b2)
                            (try rw [← Nbq57.out] at c50b3)
                            (try rw [← Nbq57.out] at c51b0)
                            (try rw [← Nbq57.out] at c51b1)
                            (try rw [← Nbq57.out] at c51b2)
                            (try rw [← Nbq57.out] at c51b3)
                            (try rw [← Nbq57.out] at c56b0)
                            (try rw [← Nbq57.out] at c56b1)
                            (try rw [← Nbq57.out] at c56b2)
                            (try rw [← Nbq57.out] at c56b3)
                            clear hbq57
                            by_cases c58 : bq57 = true
                            ·subst c58
                             have H1 : (pinfoldref26_Held.j6 kj42 a1 a2 (l0_1.length : Int) x9_4 x10_4 x12_4 x44_3 x50_4 true x17_42 (!x17_42) (l0_1.length : Int) x44_3 (l0_1.length : Int) x50_4 a0_0 l0_1) = some (r1, r2) := by rw [if_pos rfl] at H;exact H
                             clear H
                             have H := H1
                             clear H1
                             have H' := Aside0.mk H
                             clear H
                             obtain ⟨Ao59, co59, eo59⟩ := Kd.R_slice HO_9.out
                             subst eo59
                             have p262 : 0 ≤ (x44_3 : Int) := of_decide_eq_true (by assumption)
                             have q262 : x44_3 < (x9_4.length : Int) := of_decide_eq_true (by assumption)
                             obtain ⟨ad262, e262, hx262_0⟩ := Kd.at_bool (Kd.R_reads' HO_9.out).2.2 x44_3 p262 q262
                             (try rw [← Nbq52.out] at hx262_0)
                             (try rw [← Nbq57.out] at hx262_0)
                             cases e262
                             replace p262 := eq_true p262
                             replace q262 := eq_true q262
                             have p263 : 0 ≤ (x44_3 : Int) := of_decide_eq_true (by assumption)
                             have q263 : x44_3 < (x10_4.length : Int) := of_decide_eq_true (by assumption)
                             obtain ⟨ad263, e263, hx263_0⟩ := Kd.at_bool (Kd.R_reads' HO_10.out).2.2 x44_3 p263 q263
                             (try rw [← Nbq52.out] at hx263_0)
                             (try rw [← Nbq57.out] at hx263_0)
                             cases e263
                             replace p263 := eq_true p263
                             replace q263 := eq_true q263
                             go_wp2
                             go_meet
                             case rel => exact ⟨_, (!x17_42), (by first|rfl|(simp;done)|(simp [*];done)), H', ⟨by have := HK1.out;have := HK2.out;have := HK3.out;have := HK4.out;have := HJ27.out;have := HJ42.out;first|omega|exact Nat.le_refl _⟩, ⟨by (try simp only [hl10_1]);(try simp only [hl10_2]);(try simp only [hl10_3]);(try simp only [hl10_4]);(with_reducible repeat (first|apply Kd.R_alloc|apply Kd.R_drewN|apply Kd.R_drew));exact HO_9.out⟩, ⟨by (try simp only [hl10_1]);(try simp only [hl10_2]);(try simp only [hl10_3]);(try simp only [hl10_4]);(with_reducible repeat (first|apply Kd.R_alloc|apply Kd.R_drewN|apply Kd.R_drew));exact HO_10.out⟩, ⟨by (try simp only [hl10_1]);(try simp only [hl10_2]);(try simp only [hl10_3]);(try simp only [hl10_4]);(with_reducible repeat (first|apply blk_drewN|apply blk_drew|apply blk_alloc));exact BK251.out⟩, ⟨by (try simp only [hl10_1]);(try simp only [hl10_2]);(try simp only [hl10_3]);(try simp only [hl10_4]);(with_reducible repeat (first|apply blk_drewN|apply blk_drew|apply blk_alloc));exact BK261.out⟩, ⟨by repeat (first|(with_reducible first|exact HB.out|apply xa|apply xb|apply xc|refine below_set ?_ GE251.out|refine below_set ?_ GE261.out)|exact HB.out)⟩⟩
                            ·replace c58 := Bool.eq_false_iff.mpr c58
                             subst c58
                             have H1 : (pinfoldref26_Held.j6 kj42 a1 a2 (l0_1.length : Int) x9_4 x10_4 x12_4 x44_3 x50_4 true x17_42 false (l0_1.length : Int) x44_3 (l0_1.length : Int) x50_4 a0_0 l0_1) = some (r1, r2) := by rw [if_neg (show ¬ (false = true) by decide)] at H;exact H
                             clear H
                             have H := H1
                             clear H1
                             have H' := Aside0.mk H
                             clear H
                             obtain ⟨Ao60, co60, eo60⟩ := Kd.R_slice HO_9.out
                             subst eo60
                             have p262 : 0 ≤ (x44_3 : Int) := of_decide_eq_true (by assumption)
                             have q262 : x44_3 < (x9_4.length : Int) := of_decide_eq_true (by assumption)
                             obtain ⟨ad262, e262, hx262_0⟩ := Kd.at_bool (Kd.R_reads' HO_9.out).2.2 x44_3 p262 q262
                             (try rw [← Nbq52.out] at hx262_0)
                             (try rw [← Nbq57.out] at hx262_0)
                             cases e262
                             replace p262 := eq_true p262
                             replace q262 := eq_true q262
                             have p263 : 0 ≤ (x44_3 : Int) := of_decide_eq_true (by assumption)
                             have q263 : x44_3 < (x10_4.length : Int) := of_decide_eq_true (by assumption)
                             obtain ⟨ad263, e263, hx263_0⟩ := Kd.at_bool (Kd.R_reads' HO_10.out).2.2 x44_3 p263 q263
                             (try rw [← Nbq52.out] at hx263_0)
                             (try rw [← Nbq57.out] at hx263_0)
                             cases e263
                             replace p263 := eq_true p263
                             replace q263 := eq_true q263
                             go_wp2
                             go_meet
                             case rel => exact ⟨_, (false), (by first|rfl|(simp;done)|(simp [*];done)), H', ⟨by have := HK1.out;have := HK2.out;have := HK3.out;have := HK4.out;have := HJ27.out;have := HJ42.out;first|omega|exact Nat.le_refl _⟩, ⟨by (try simp only [hl10_1]);(try simp only [hl10_2]);(try simp only [hl10_3]);(try simp only [hl10_4]);(with_reducible repeat (first|apply Kd.R_alloc|apply Kd.R_drewN|apply Kd.R_drew));exact HO_9.out⟩, ⟨by (try simp only [hl10_1]);(try simp only [hl10_2]);(try simp only [hl10_3]);(try simp only [hl10_4]);(with_reducible repeat (first|apply Kd.R_alloc|apply Kd.R_drewN|apply Kd.R_drew));exact HO_10.out⟩, ⟨by (try simp only [hl10_1]);(try simp only [hl10_2]);(try simp only [hl10_3]);(try simp only [hl10_4]);(with_reducible repeat (first|apply blk_drewN|apply blk_drew|apply blk_alloc));exact BK251.out⟩, ⟨by (try simp only [hl10_1]);(try simp only [hl10_2]);(try simp only [hl10_3]);(try simp only [hl10_4]);(with_reducible repeat (first|apply blk_drewN|apply blk_drew|apply blk_alloc));exact BK261.out⟩, ⟨by repeat (first|(with_reducible first|exact HB.out|apply xa|apply xb|apply xc|refine below_set ?_ GE251.out|refine below_set ?_ GE261.out)|exact HB.out)⟩⟩
                           ·rw [if_neg c56] at H
                            exact absurd H (by simp)
                          ·replace c55 := Bool.eq_false_iff.mpr c55
                           subst c55
                           have H1 : (pinfoldref26_Held.j6 kj42 a1 a2 (l0_1.length : Int) x9_4 x10_4 x12_4 x44_3 x50_4 false x17_42 false (l0_1.length : Int) x44_3 (l0_1.length : Int) x50_4 a0_0 l0_1) = some (r1, r2) := by rw [if_neg (show ¬ (false = true) by decide)] at H;exact H
                           clear H
                           have H := H1
                           clear H1
                           have H' := Aside0.mk H
                           clear H
                           obtain ⟨Ao61, co61, eo61⟩ := Kd.R_slice HO_9.out
                           subst eo61
                           have p262 : 0 ≤ (x44_3 : Int) := of_decide_eq_true (by assumption)
                           have q262 : x44_3 < (x9_4.length : Int) := of_decide_eq_true (by assumption)
                           obtain ⟨ad262, e262, hx262_0⟩ := Kd.at_bool (Kd.R_reads' HO_9.out).2.2 x44_3 p262 q262
                           (try rw [← Nbq52.out] at hx262_0)
                           cases e262
                           replace p262 := eq_true p262
                           replace q262 := eq_true q262
                           go_wp2
                           go_meet
                           case rel => exact ⟨_, (false), (by first|rfl|(simp;done)|(simp [*];done)), H', ⟨by have := HK1.out;have := HK2.out;have := HK3.out;have := HK4.out;have := HJ27.out;have := HJ42.out;first|omega|exact Nat.le_refl _⟩, ⟨by (try simp only [hl10_1]);(try simp only [hl10_2]);(try simp only [hl10_3]);(try simp only [hl10_4]);(with_reducible repeat (first|apply Kd.R_alloc|apply Kd.R_drewN|apply Kd.R_drew));exact HO_9.out⟩, ⟨by (try simp only [hl10_1]);(try simp only [hl10_2]);(try simp only [hl10_3]);(try simp only [hl10_4]);(with_reducible repeat (first|apply Kd.R_alloc|apply Kd.R_drewN|apply Kd.R_drew));exact HO_10.out⟩, ⟨by (try simp only [hl10_1]);(try simp only [hl10_2]);(try simp only [hl10_3]);(try simp only [hl10_4]);(with_reducible repeat (first|apply blk_drewN|apply blk_drew|apply blk_alloc));exact BK251.out⟩, ⟨by (try simp only [hl10_1]);(try simp only [hl10_2]);(try simp only [hl10_3]);(try simp only [hl10_4]);(with_reducible repeat (first|apply blk_drewN|apply blk_drew|apply blk_alloc));exact BK261.out⟩, ⟨by repeat (first|(with_reducible first|exact HB.out|apply xa|apply xb|apply xc|refine below_set ?_ GE251.out|refine below_set ?_ GE261.out)|exact HB.out)⟩⟩
                        ·rw [if_neg c51] at H
                         exact absurd H (by simp)
                       ·rw [if_neg c50] at H
                        exact absurd H (by simp)
                      case rest => as_aux_lemma =>
                       clear HC49
                       try clear c1
                       try clear p1
                       try clear q1
                       try clear hx1
                       try clear c2
                       try clear p2
                       try clear q2
                       try clear hx2
                       try clear c3
                       try clear c4
                       try clear c4b0
                       try clear c4b1
                       try clear c5
                       try clear c5b0
                       try clear c5b1
                       try clear q5
                       try clear c6
                       try clear p6
                       try clear c13
                       try clear c13b0
                       try clear c14
                       try clear c14b0
                       try clear c15
                       try clear c15b0
                       try clear p16
                       try clear q16
                       try clear hx16
                       try clear hf16
                       try clear c17
                       try clear c19
                       try clear c21
                       try clear c21b0
                       try clear c23
                       try clear c23b0
                       try clear c25
                       try clear c26
                       try clear c26b0
                       try clear p26
                       try clear q26
                       try clear hx26
                       try clear c27
                       try clear c27b0
                       try clear c33
                       try clear c35
                       try clear c35b0
                       try clear c35b1
                       try clear c36
                       try clear c36b0
                       try clear c36b1
                       try clear c37
                       try clear c39
                       try clear c41
                       try clear c44
                       try clear c44b0
                       try clear c44b1
                       try clear c45
                       try clear c47
                       try clear c50
                       try clear c50b0
                       try clear c51
                       try clear c51b0
                       try clear q52
                       try clear c53
                       try clear c55
                       try clear c56
                       try clear c56b0
                       try clear q57
                       try clear c58
                       try clear hcz20_0
                       try clear hcz20_1
                       try clear hcz22_0
                       try clear hcz22_1
                       try clear hcz29_0
                       try clear hcz29_1
                       try clear hcz31_0
                       try clear hcz31_1
                       try clear hcz34_0
                       try clear hcz34_1
                       try clear hcz34_2
                       try clear hcz34_3
                       try clear hcz38_0
                       try clear hcz38_1
                       try clear hcz38_2
                       try clear hcz38_3
                       try clear hcz40_0
                       try clear hcz40_1
                       try clear hcz40_2
                       try clear hcz40_3
                       try clear hcz42_0
                       try clear hcz42_1
                       try clear hcz42_2
                       try clear hcz42_3
                       try clear hcz46_0
                       try clear hcz46_1
                       try clear hcz46_2
                       try clear hcz46_3
                       try clear hcz48_0
                       try clear hcz48_1
                       try clear hcz48_2
                       try clear hcz48_3
                       try clear hcz7_0
                       try clear hcz7_1
                       try clear hfz20_0
                       try clear hfz20_1
                       try clear hfz22_0
                       try clear hfz22_1
                       try clear hfz29_0
                       try clear hfz29_1
                       try clear hfz31_0
                       try clear hfz31_1
                       try clear hfz34_0
                       try clear hfz34_1
                       try clear hfz34_2
                       try clear hfz34_3
                       try clear hfz38_0
                       try clear hfz38_1
                       try clear hfz38_2
                       try clear hfz38_3
                       try clear hfz40_0
                       try clear hfz40_1
                       try clear hfz40_2
                       try clear hfz40_3
                       try clear hfz42_0
                       try clear hfz42_1
                       try clear hfz42_2
                       try clear hfz42_3
                       try clear hfz46_0
                       try clear hfz46_1
                       try clear hfz46_2
                       try clear hfz46_3
                       try clear hfz48_0
                       try clear hfz48_1
                       try clear hfz48_2
                       try clear hfz48_3
                       try clear hfz7_0
                       try clear hfz7_1
                       try clear hx16_0
                       try clear hx260_0
                       try clear hx260_1
                       try clear hx260_2
                       try clear hx260_3
                       try clear hx262_0
                       try clear hx263_0
                       try clear p1
                       try clear p16
                       try clear p2
                       try clear p26
                       try clear p260
                       try clear p262
                       try clear p263
                       try clear p6
                       try clear q1
                       try clear q16
                       try clear q2
                       try clear q26
                       try clear q260
                       try clear q262
                       try clear q263
                       obtain ⟨kq, x18_48, rfl, HA, HJ48, HO_9, HO_10, BK251, BK261, HB⟩ := hcut
                       cases kq with
                       | zero => exact absurd HA.out (by simp [pinfoldref26_Held.j6])
                       | succ kj48 =>
                        have H := HA.out
                        clear HA
                        simp only [pinfoldref26_Held.j6] at H
                        have HC62 := Aside0.mk H
                        clear H
                        go_upto_region 23 with (fail)
                        go_cut [19] (fun v19 wc => ∃ (kq : Nat) (x19_61 : Bool), v19 = .bool x19_61 ∧ Aside0 (pinfoldref26_Held.j7 kq a1 a2 (l0_1.length : Int) x9_4 x10_4 x12_4 x44_3 x50_4 x18_48 x19_61 (l0_1.length : Int) x44_3 (l0_1.length : Int) x50_4 a0_0 l0_1 = some (r1, r2)) ∧ Aside0 (kq ≤ kj48) ∧ Aside0 (Kd.R Kd.bool 4 wc w.heap.size (fun k_ => some k_ ≠ ((.slice Ao12 x10_4.length co12) : Value).ownBlock) v253 x9_4) ∧ Aside0 (Kd.R Kd.bool 4 wc w.heap.size (fun k_ => some k_ ≠ (v253 : Value).ownBlock) (.slice Ao12 x10_4.length co12) x10_4) ∧ Aside0 (wc.heap[gb251]? = some (.cells #[.int .i64 a0_0, (.slice (some ad260) l0_1.length c0_1)] 24 (0, 0))) ∧ Aside0 (wc.heap[gb261]? = some (.cells #[.int .i64 ((rd_T41 l0_1 x44_3).f0), .int .i64 ((rd_T41 l0_1 x44_3).f1), .int .i64 ((rd_T41 l0_1 x44_3).f2), .int .i32 ((rd_T41 l0_1 x44_3).f3)] 41 (0, 0))) ∧ Aside0 (Below w.heap.size w wc))
                        case first => as_aux_lemma =>
                         have H := HC62.out
                         clear HC62
                         by_cases c63 : 0 ≤ x44_3
                         ·rw [if_pos c63] at H
                          have c63b0 : decide (0 ≤ x44_3) = true := decide_eq_true c63
                          clear c63
                          (first|rw [c63b0]|(simp only [i64_w, i32_w];rw [c63b0])|skip)
                          by_cases c64 : x44_3 < (x10_4.length : Int)
                          ·rw [if_pos c64] at H
                           have c64b0 : decide (x44_3 < (x10_4.length : Int)) = true := decide_eq_true c64
                           have c64b9 := c64b0
                           (try simp only [hl10_1] at c64b9)
                           (try simp only [hl10_2] at c64b9)
                           (try simp only [hl10_3] at c64b9)
                           (try simp only [hl10_4] at c64b9)
                           clear c64
                           obtain ⟨bq65, hbq65⟩ : ∃ b_ : Bool, b_ = (rdOf false x10_4 x44_3) := ⟨_, rfl⟩
                           replace H : (if bq65 = true then (if x16_27 = true then (if x17_42 = true then (if x44_3 < (x9_4.length : Int) then (if rdOf false x9_4 x44_3 = true then (pinfoldref26_Held.j7 kj48 a1 a2 (l0_1.length : Int) x9_4 x10_4 x12_4 x44_3 x50_4 x18_48 true (l0_1.length : Int) x44_3 (l0_1.length : Int) x50_4 a0_0 l0_1) else (pinfoldref26_Held.j7 kj48 a1 a2 (l0_1.length : Int) x9_4 x10_4 x12_4 x44_3 x50_4 x18_48 bq65 (l0_1.length : Int) x44_3 (l0_1.length : Int) x50_4 a0_0 l0_1)) else (none)) else (pinfoldref26_Held.j7 kj48 a1 a2 (l0_1.length : Int) x9_4 x10_4 x12_4 x44_3 x50_4 x18_48 false (l0_1.length : Int) x44_3 (l0_1.length : Int) x50_4 a0_0 l0_1)) else (pinfoldref26_Held.j7 kj48 a1 a2 (l0_1.length : Int) x9_4 x10_4 x12_4 x44_3 x50_4 x18_48 true (l0_1.length : Int) x44_3 (l0_1.length : Int) x50_4 a0_0 l0_1)) else (if x17_42 = true then (if x44_3 < (x9_4.length : Int) then (if rdOf false x9_4 x44_3 = true then (pinfoldref26_Held.j7 kj48 a1 a2 (l0_1.length : Int) x9_4 x10_4 x12_4 x44_3 x50_4 x18_48 true (l0_1.length : Int) x44_3 (l0_1.length : Int) x50_4 a0_0 l0_1) else (pinfoldref26_Held.j7 kj48 a1 a2 (l0_1.length : Int) x9_4 x10_4 x12_4 x44_3 x50_4 x18_48 bq65 (l0_1.length : Int) x44_3 (l0_1.length : Int) x50_4 a0_0 l0_1)) else (none)) else (pinfoldref26_Held.j7 kj48 a1 a2 (l0_1.length : Int) x9_4 x10_4 x12_4 x44_3 x50_4 x18_48 false (l0_1.length : Int) x44_3 (l0_1.length : Int) x50_4 a0_0 l0_1))) = some (r1, r2) := by rw [← hbq65] at H;exact H
                           have Nbq65 := Aside0.mk hbq65
                           (try rw [← Nbq65.out] at c56b0)
                           (try rw [← Nbq65.out] at c56b1)
                           (try rw [← Nbq65.out] at c56b2)
                           (try rw [← Nbq65.out] at c56b3)
                           (try rw [← Nbq65.out] at c63b0)
                           (try rw [← Nbq65.out] at c63b1)
                           (try rw [← Nbq65.out] at c63b2)
                           (try rw [← Nbq65.out] at c63b3)
                           (try rw [← Nbq65.out] at c64b0)
                           (try rw [← Nbq65.out] at c64b1)
                           (try rw [← Nbq65.out] at c64b2)
                           (try rw [← Nbq65.out] at c64b3)
                           clear hbq65
                           by_cases c66 : bq65 = true
                           ·subst c66
                            have H1 : (if x16_27 = true then (if x17_42 = true then (if x44_3 < (x9_4.length : Int) then (if rdOf false x9_4 x44_3 = true then (pinfoldref26_Held.j7 kj48 a1 a2 (l0_1.length : Int) x9_4 x10_4 x12_4 x44_3 x50_4 x18_48 true (l0_1.length : Int) x44_3 (l0_1.length : Int) x50_4 a0_0 l0_1) else (pinfoldref26_Held.j7 kj48 a1 a2 (l0_1.length : Int) x9_4 x10_4 x12_4 x44_3 x50_4 x18_48 true (l0_1.length : Int) x44_3 (l0_1.length : Int) x50_4 a0_0 l0_1)) else (none)) else (pinfoldref26_Held.j7 kj48 a1 a2 (l0_1.length : Int) x9_4 x10_4 x12_4 x44_3 x50_4 x18_48 false (l0_1.length : Int) x44_3 (l0_1.length : Int) x50_4 a0_0 l0_1)) else (pinfoldref26_Held.j7 kj48 a1 a2 (l0_1.length : Int) x9_4 x10_4 x12_4 x44_3 x50_4 x18_48 true (l0_1.length : Int) x44_3 (l0_1.length : Int) x50_4 a0_0 l0_1)) = some (r1, r2) := by rw [if_pos rfl] at H;exact H
                            clear H
                            have H := H1
                            clear H1
                            by_cases c67 : x16_27 = true
                            ·subst c67
                             have H1 : (if x17_42 = true then (if x44_3 < (x9_4.length : Int) then (if rdOf false x9_4 x44_3 = true then (pinfoldref26_Held.j7 kj48 a1 a2 (l0_1.length : Int) x9_4 x10_4 x12_4 x44_3 x50_4 x18_48 true (l0_1.length : Int) x44_3 (l0_1.length : Int) x50_4 a0_0 l0_1) else (pinfoldref26_Held.j7 kj48 a1 a2 (l0_1.length : Int) x9_4 x10_4 x12_4 x44_3 x50_4 x18_48 true (l0_1.length : Int) x44_3 (l0_1.length : Int) x50_4 a0_0 l0_1)) else (none)) else (pinfoldref26_Held.j7 kj48 a1 a2 (l0_1.length : Int) x9_4 x10_4 x12_4 x44_3 x50_4 x18_48 false (l0_1.length : Int) x44_3 (l0_1.length : Int) x50_4 a0_0 l0_1)) = some (r1, r2) := by rw [if_pos rfl] at H;exact H
                             clear H
                             have H := H1
                             clear H1
                             by_cases c68 : x17_42 = true
                             ·subst c68
                              have H1 : (if x44_3 < (x9_4.length : Int) then (if rdOf false x9_4 x44_3 = true then (pinfoldref26_Held.j7 kj48 a1 a2 (l0_1.length : Int) x9_4 x10_4 x12_4 x44_3 x50_4 x18_48 true (l0_1.length : Int) x44_3 (l0_1.length : Int) x50_4 a0_0 l0_1) else (pinfoldref26_Held.j7 kj48 a1 a2 (l0_1.length : Int) x9_4 x10_4 x12_4 x44_3 x50_4 x18_48 true (l0_1.length : Int) x44_3 (l0_1.length : Int) x50_4 a0_0 l0_1)) else (none)) = some (r1, r2) := by rw [if_pos rfl] at H;exact H
                              clear H
                              have H := H1
                              clear H1
                              by_cases c69 : x44_3 < (x9_4.length : Int)
                              ·rw [if_pos c69] at H
                               have c69b0 : decide (x44_3 < (x9_4.length : Int)) = true := decide_eq_true c69
                               have c69b9 := c69b0
                               (try simp only [hl10_1] at c69b9)
                               (try simp only [hl10_2] at c69b9)
                               (try simp only [hl10_3] at c69b9)
                               (try simp only [hl10_4] at c69b9)
                               clear c69
                               obtain ⟨bq70, hbq70⟩ : ∃ b_ : Bool, b_ = (rdOf false x9_4 x44_3) := ⟨_, rfl⟩
                               replace H : (if bq70 = true then (pinfoldref26_Held.j7 kj48 a1 a2 (l0_1.length : Int) x9_4 x10_4 x12_4 x44_3 x50_4 x18_48 true (l0_1.length : Int) x44_3 (l0_1.length : Int) x50_4 a0_0 l0_1) else (pinfoldref26_Held.j7 kj48 a1 a2 (l0_1.length : Int) x9_4 x10_4 x12_4 x44_3 x50_4 x18_48 true (l0_1.length : Int) x44_3 (l0_1.length : Int) x50_4 a0_0 l0_1)) = some (r1, r2) := by rw [← hbq70] at H;exact H
                               have Nbq70 := Aside0.mk hbq70
                               (try rw [← Nbq70.out] at c63b0)
                               (try rw [← Nbq70.out] at c63b1)
                               (try rw [← Nbq70.out] at c63b2)
                               (try rw [← Nbq70.out] at c63b3)
                               (try rw [← Nbq70.out] at c64b0)
                               (try rw [← Nbq70.out] at c64b1)
                               (try rw [← Nbq70.out] at c64b2)
                               (try rw [← Nbq70.out] at c64b3)
                               (try rw [← Nbq70.out] at c69b0)
                               (try rw [← Nbq70.out] at c69b1)
                               (try rw [← Nbq70.out] at c69b2)
                               (try rw [← Nbq70.out] at c69b3)
                               clear hbq70
                               by_cases c71 : bq70 = true
                               ·subst c71
                                have H1 : (pinfoldref26_Held.j7 kj48 a1 a2 (l0_1.length : Int) x9_4 x10_4 x12_4 x44_3 x50_4 x18_48 true (l0_1.length : Int) x44_3 (l0_1.length : Int) x50_4 a0_0 l0_1) = some (r1, r2) := by rw [if_pos rfl] at H;exact H
                                clear H
                                have H := H1
                                clear H1
                                have H' := Aside0.mk H
                                clear H
                                have p264 : 0 ≤ (x44_3 : Int) := of_decide_eq_true (by assumption)
                                have q264 : x44_3 < (x10_4.length : Int) := of_decide_eq_true (by assumption)
                                obtain ⟨ad264, e264, hx264_0⟩ := Kd.at_bool (Kd.R_reads' HO_10.out).2.2 x44_3 p264 q264
                                (try rw [← Nbq65.out] at hx264_0)
                                (try rw [← Nbq70.out] at hx264_0)
                                cases e264
                                replace p264 := eq_true p264
                                replace q264 := eq_true q264
                                obtain ⟨Ao72, co72, eo72⟩ := Kd.R_slice HO_9.out
                                subst eo72
                                have p265 : 0 ≤ (x44_3 : Int) := of_decide_eq_true (by assumption)
                                have q265 : x44_3 < (x9_4.length : Int) := of_decide_eq_true (by assumption)
                                obtain ⟨ad265, e265, hx265_0⟩ := Kd.at_bool (Kd.R_reads' HO_9.out).2.2 x44_3 p265 q265
                                (try rw [← Nbq65.out] at hx265_0)
                                (try rw [← Nbq70.out] at hx265_0)
                                cases e265
                                replace p265 := eq_true p265
                                replace q265 := eq_true q265
                                go_wp2
                                go_meet
                                case rel => exact ⟨_, (true), (by first|rfl|(simp;done)|(simp [*];done)), H', ⟨by have := HK1.out;have := HK2.out;have := HK3.out;have := HK4.out;have := HJ27.out;have := HJ42.out;have := HJ48.out;first|omega|exact Nat.le_refl _⟩, ⟨by (try simp only [hl10_1]);(try simp only [hl10_2]);(try simp only [hl10_3]);(try simp only [hl10_4]);(with_reducible repeat (first|apply Kd.R_alloc|apply Kd.R_drewN|apply Kd.R_drew));exact HO_9.out⟩, ⟨by (try simp only [hl10_1]);(try simp only [hl10_2]);(try simp only [hl10_3]);(try simp only [hl10_4]);(with_reducible repeat (first|apply Kd.R_alloc|apply Kd.R_drewN|apply Kd.R_drew));exact HO_10.out⟩, ⟨by (try simp only [hl10_1]);(try simp only [hl10_2]);(try simp only [hl10_3]);(try simp only [hl10_4]);(with_reducible repeat (first|apply blk_drewN|apply blk_drew|apply blk_alloc));exact BK251.out⟩, ⟨by (try simp only [hl10_1]);(try simp only [hl10_2]);(try simp only [hl10_3]);(try simp only [hl10_4]);(with_reducible repeat (first|apply blk_drewN|apply blk_drew|apply blk_alloc));exact BK261.out⟩, ⟨by repeat (first|(with_reducible first|exact HB.out|apply xa|apply xb|apply xc|refine below_set ?_ GE251.out|refine below_set ?_ GE261.out)|exact HB.out)⟩⟩
                               ·replace c71 := Bool.eq_false_iff.mpr c71
                                subst c71
                                have H1 : (pinfoldref26_Held.j7 kj48 a1 a2 (l0_1.length : Int) x9_4 x10_4 x12_4 x44_3 x50_4 x18_48 true (l0_1.length : Int) x44_3 (l0_1.length : Int) x50_4 a0_0 l0_1) = some (r1, r2) := by rw [if_neg (show ¬ (false = true) by decide)] at H;exact H
                                clear H
                                have H := H1
                                clear H1
                                have H' := Aside0.mk H
                                clear H
                                have p264 : 0 ≤ (x44_3 : Int) := of_decide_eq_true (by assumption)
                                have q264 : x44_3 < (x10_4.length : Int) := of_decide_eq_true (by assumption)
                                obtain ⟨ad264, e264, hx264_0⟩ := Kd.at_bool (Kd.R_reads' HO_10.out).2.2 x44_3 p264 q264
                                (try rw [← Nbq65.out] at hx264_0)
                                (try rw [← Nbq70.out] at hx264_0)
                                cases e264
                                replace p264 := eq_true p264
                                replace q264 := eq_true q264
                                obtain ⟨Ao73, co73, eo73⟩ := Kd.R_slice HO_9.out
                                subst eo73
                                have p265 : 0 ≤ (x44_3 : Int) := of_decide_eq_true (by assumption)
                                have q265 : x44_3 < (x9_4.length : Int) := of_decide_eq_true (by assumption)
                                obtain ⟨ad265, e265, hx265_0⟩ := Kd.at_bool (Kd.R_reads' HO_9.out).2.2 x44_3 p265 q265
                                (try rw [← Nbq65.out] at hx265_0)
                                (try rw [← Nbq70.out] at hx265_0)
                                cases e265
                                replace p265 := eq_true p265
                                replace q265 := eq_true q265
                                have p266 : 0 ≤ (x44_3 : Int) := of_decide_eq_true (by assumption)
                                have q266 : x44_3 < (x10_4.length : Int) := of_decide_eq_true (by assumption)
                                obtain ⟨ad266, e266, hx266_0⟩ := Kd.at_bool (Kd.R_reads' HO_10.out).2.2 x44_3 p266 q266
                                (try rw [← Nbq65.out] at hx266_0)
                                (try rw [← Nbq70.out] at hx266_0)
                                obtain rfl : ad264 = ad266 := (by injection e266)
                                replace p266 := eq_true p266
                                replace q266 := eq_true q266
                                go_wp2
                                go_meet
                                case rel => exact ⟨_, (true), (by first|rfl|(simp;done)|(simp [*];done)), H', ⟨by have := HK1.out;have := HK2.out;have := HK3.out;have := HK4.out;have := HJ27.out;have := HJ42.out;have := HJ48.out;first|omega|exact Nat.le_refl _⟩, ⟨by (try simp only [hl10_1]);(try simp only [hl10_2]);(try simp only [hl10_3]);(try simp only [hl10_4]);(with_reducible repeat (first|apply Kd.R_alloc|apply Kd.R_drewN|apply Kd.R_drew));exact HO_9.out⟩, ⟨by (try simp only [hl10_1]);(try simp only [hl10_2]);(try simp only [hl10_3]);(try simp only [hl10_4]);(with_reducible repeat (first|apply Kd.R_alloc|apply Kd.R_drewN|apply Kd.R_drew));exact HO_10.out⟩, ⟨by (try simp only [hl10_1]);(try simp only [hl10_2]);(try simp only [hl10_3]);(try simp only [hl10_4]);(with_reducible repeat (first|apply blk_drewN|apply blk_drew|apply blk_alloc));exact BK251.out⟩, ⟨by (try simp only [hl10_1]);(try simp only [hl10_2]);(try simp only [hl10_3]);(try simp only [hl10_4]);(with_reducible repeat (first|apply blk_drewN|apply blk_drew|apply blk_alloc));exact BK261.out⟩, ⟨by repeat (first|(with_reducible first|exact HB.out|apply xa|apply xb|apply xc|refine below_set ?_ GE251.out|refine below_set ?_ GE261.out)|exact HB.out)⟩⟩
                              ·rw [if_neg c69] at H
                               exact absurd H (by simp)
                             ·replace c68 := Bool.eq_false_iff.mpr c68
                              subst c68
                              have H1 : (pinfoldref26_Held.j7 kj48 a1 a2 (l0_1.length : Int) x9_4 x10_4 x12_4 x44_3 x50_4 x18_48 false (l0_1.length : Int) x44_3 (l0_1.length : Int) x50_4 a0_0 l0_1) = some (r1, r2) := by rw [if_neg (show ¬ (false = true) by decide)] at H;exact H
                              clear H
                              have H := H1
                              clear H1
                              have H' := Aside0.mk H
                              clear H
                              have p264 : 0 ≤ (x44_3 : Int) := of_decide_eq_true (by assumption)
                              have q264 : x44_3 < (x10_4.length : Int) := of_decide_eq_true (by assumption)
                              obtain ⟨ad264, e264, hx264_0⟩ := Kd.at_bool (Kd.R_reads' HO_10.out).2.2 x44_3 p264 q264
                              (try rw [← Nbq65.out] at hx264_0)
                              cases e264
                              replace p264 := eq_true p264
                              replace q264 := eq_true q264
                              go_wp2
                              go_meet
                              case rel => exact ⟨_, (false), (by first|rfl|(simp;done)|(simp [*];done)), H', ⟨by have := HK1.out;have := HK2.out;have := HK3.out;have := HK4.out;have := HJ27.out;have := HJ42.out;have := HJ48.out;first|omega|exact Nat.le_refl _⟩, ⟨by (try simp only [hl10_1]);(try simp only [hl10_2]);(try simp only [hl10_3]);(try simp only [hl10_4]);(with_reducible repeat (first|apply Kd.R_alloc|apply Kd.R_drewN|apply Kd.R_drew));exact HO_9.out⟩, ⟨by (try simp only [hl10_1]);(try simp only [hl10_2]);(try simp only [hl10_3]);(try simp only [hl10_4]);(with_reducible repeat (first|apply Kd.R_alloc|apply Kd.R_drewN|apply Kd.R_drew));exact HO_10.out⟩, ⟨by (try simp only [hl10_1]);(try simp only [hl10_2]);(try simp only [hl10_3]);(try simp only [hl10_4]);(with_reducible repeat (first|apply blk_drewN|apply blk_drew|apply blk_alloc));exact BK251.out⟩, ⟨by (try simp only [hl10_1]);(try simp only [hl10_2]);(try simp only [hl10_3]);(try simp only [hl10_4]);(with_reducible repeat (first|apply blk_drewN|apply blk_drew|apply blk_alloc));exact BK261.out⟩, ⟨by repeat (first|(with_reducible first|exact HB.out|apply xa|apply xb|apply xc|refine below_set ?_ GE251.out|refine below_set ?_ GE261.out)|exact HB.out)⟩⟩
                            ·replace c67 := Bool.eq_false_iff.mpr c67
                             subst c67
                             have H1 : (pinfoldref26_Held.j7 kj48 a1 a2 (l0_1.length : Int) x9_4 x10_4 x12_4 x44_3 x50_4 x18_48 true (l0_1.length : Int) x44_3 (l0_1.length : Int) x50_4 a0_0 l0_1) = some (r1, r2) := by rw [if_neg (show ¬ (false = true) by decide)] at H;exact H
                             clear H
                             have H := H1
                             clear H1
                             have H' := Aside0.mk H
                             clear H
                             have p264 : 0 ≤ (x44_3 : Int) := of_decide_eq_true (by assumption)
                             have q264 : x44_3 < (x10_4.length : Int) := of_decide_eq_true (by assumption)
                             obtain ⟨ad264, e264, hx264_0⟩ := Kd.at_bool (Kd.R_reads' HO_10.out).2.2 x44_3 p264 q264
                             (try rw [← Nbq65.out] at hx264_0)
                             cases e264
                             replace p264 := eq_true p264
                             replace q264 := eq_true q264
                             go_wp2
                             go_meet
                             case rel => exact ⟨_, (true), (by first|rfl|(simp;done)|(simp [*];done)), H', ⟨by have := HK1.out;have := HK2.out;have := HK3.out;have := HK4.out;have := HJ27.out;have := HJ42.out;have := HJ48.out;first|omega|exact Nat.le_refl _⟩, ⟨by (try simp only [hl10_1]);(try simp only [hl10_2]);(try simp only [hl10_3]);(try simp only [hl10_4]);(with_reducible repeat (first|apply Kd.R_alloc|apply Kd.R_drewN|apply Kd.R_drew));exact HO_9.out⟩, ⟨by (try simp only [hl10_1]);(try simp only [hl10_2]);(try simp only [hl10_3]);(try simp only [hl10_4]);(with_reducible repeat (first|apply Kd.R_alloc|apply Kd.R_drewN|apply Kd.R_drew));exact HO_10.out⟩, ⟨by (try simp only [hl10_1]);(try simp only [hl10_2]);(try simp only [hl10_3]);(try simp only [hl10_4]);(with_reducible repeat (first|apply blk_drewN|apply blk_drew|apply blk_alloc));exact BK251.out⟩, ⟨by (try simp only [hl10_1]);(try simp only [hl10_2]);(try simp only [hl10_3]);(try simp only [hl10_4]);(with_reducible repeat (first|apply blk_drewN|apply blk_drew|apply blk_alloc));exact BK261.out⟩, ⟨by repeat (first|(with_reducible first|exact HB.out|apply xa|apply xb|apply xc|refine below_set ?_ GE251.out|refine below_set ?_ GE261.out)|exact HB.out)⟩⟩
                           ·replace c66 := Bool.eq_false_iff.mpr c66
                            subst c66
                            have H1 : (if x17_42 = true then (if x44_3 < (x9_4.length : Int) then (if rdOf false x9_4 x44_3 = true then (pinfoldref26_Held.j7 kj48 a1 a2 (l0_1.length : Int) x9_4 x10_4 x12_4 x44_3 x50_4 x18_48 true (l0_1.length : Int) x44_3 (l0_1.length : Int) x50_4 a0_0 l0_1) else (pinfoldref26_Held.j7 kj48 a1 a2 (l0_1.length : Int) x9_4 x10_4 x12_4 x44_3 x50_4 x18_48 false (l0_1.length : Int) x44_3 (l0_1.length : Int) x50_4 a0_0 l0_1)) else (none)) else (pinfoldref26_Held.j7 kj48 a1 a2 (l0_1.length : Int) x9_4 x10_4 x12_4 x44_3 x50_4 x18_48 false (l0_1.length : Int) x44_3 (l0_1.length : Int) x50_4 a0_0 l0_1)) = some (r1, r2) := by rw [if_neg (show ¬ (false = true) by decide)] at H;exact H
                            clear H
                            have H := H1
                            clear H1
                            by_cases c74 : x17_42 = true
                            ·subst c74
                             have H1 : (if x44_3 < (x9_4.length : Int) then (if rdOf false x9_4 x44_3 = true then (pinfoldref26_Held.j7 kj48 a1 a2 (l0_1.length : Int) x9_4 x10_4 x12_4 x44_3 x50_4 x18_48 true (l0_1.length : Int) x44_3 (l0_1.length : Int) x50_4 a0_0 l0_1) else (pinfoldref26_Held.j7 kj48 a1 a2 (l0_1.length : Int) x9_4 x10_4 x12_4 x44_3 x50_4 x18_48 false (l0_1.length : Int) x44_3 (l0_1.length : Int) x50_4 a0_0 l0_1)) else (none)) = some (r1, r2) := by rw [if_pos rfl] at H;exact H
                             clear H
                             have H := H1
                             clear H1
                             by_cases c75 : x44_3 < (x9_4.length : Int)
                             ·rw [if_pos c75] at H
                              have c75b0 : decide (x44_3 < (x9_4.length : Int)) = true := decide_eq_true c75
                              have c75b9 := c75b0
                              (try simp only [hl10_1] at c75b9)
                              (try simp only [hl10_2] at c75b9)
                              (try simp only [hl10_3] at c75b9)
                              (try simp only [hl10_4] at c75b9)
                              clear c75
                              obtain ⟨bq76, hbq76⟩ : ∃ b_ : Bool, b_ = (rdOf false x9_4 x44_3) := ⟨_, rfl⟩
                              replace H : (if bq76 = true then (pinfoldref26_Held.j7 kj48 a1 a2 (l0_1.length : Int) x9_4 x10_4 x12_4 x44_3 x50_4 x18_48 true (l0_1.length : Int) x44_3 (l0_1.length : Int) x50_4 a0_0 l0_1) else (pinfoldref26_Held.j7 kj48 a1 a2 (l0_1.length : Int) x9_4 x10_4 x12_4 x44_3 x50_4 x18_48 false (l0_1.length : Int) x44_3 (l0_1.length : Int) x50_4 a0_0 l0_1)) = some (r1, r2) := by rw [← hbq76] at H;exact H
                              have Nbq76 := Aside0.mk hbq76
                              (try rw [← Nbq76.out] at c64b0)
                              (try rw [← Nbq76.out] at c64b1)
                              (try rw [← Nbq76.out] at c64b2)
                              (try rw [← Nbq76.out] at c64b3)
                              (try rw [← Nbq76.out] at c69b0)
                              (try rw [← Nbq76.out] at c69b1)
                              (try rw [← Nbq76.out] at c69b2)
                              (try rw [← Nbq76.out] at c69b3)
                              (try rw [← Nbq76.out] at c75b0)
                              (try rw [← Nbq76.out] at c75b1)
                              (try rw [← Nbq76.out] at c75b2)
                              (try rw [← Nbq76.out] at c75b3)
                              clear hbq76
                              by_cases c77 : bq76 = true
                              ·subst c77
                               have H1 : (pinfoldref26_Held.j7 kj48 a1 a2 (l0_1.length : Int) x9_4 x10_4 x12_4 x44_3 x50_4 x18_48 true (l0_1.length : Int) x44_3 (l0_1.length : Int) x50_4 a0_0 l0_1) = some (r1, r2) := by rw [if_pos rfl] at H;exact H
                               clear H
                               have H := H1
                               clear H1
                               have H' := Aside0.mk H
                               clear H
                               have p264 : 0 ≤ (x44_3 : Int) := of_decide_eq_true (by assumption)
                               have q264 : x44_3 < (x10_4.length : Int) := of_decide_eq_true (by assumption)
                               obtain ⟨ad264, e264, hx264_0⟩ := Kd.at_bool (Kd.R_reads' HO_10.out).2.2 x44_3 p264 q264
                               (try rw [← Nbq65.out] at hx264_0)
                               (try rw [← Nbq76.out] at hx264_0)
                               cases e264
                               replace p264 := eq_true p264
                               replace q264 := eq_true q264
                               obtain ⟨Ao78, co78, eo78⟩ := Kd.R_slice HO_9.out
                               subst eo78
                               have p267 : 0 ≤ (x44_3 : Int) := of_decide_eq_true (by assumption)
                               have q267 : x44_3 < (x9_4.length : Int) := of_decide_eq_true (by assumption)
                               obtain ⟨ad267, e267, hx267_0⟩ := Kd.at_bool (Kd.R_reads' HO_9.out).2.2 x44_3 p267 q267
                               (try rw [← Nbq65.out] at hx267_0)
                               (try rw [← Nbq76.out] at hx267_0)
                               cases e267
                               replace p267 := eq_true p267
                               replace q267 := eq_true q267
                               go_wp2
                               go_meet
                               case rel => exact ⟨_, (true), (by first|rfl|(simp;done)|(simp [*];done)), H', ⟨by have := HK1.out;have := HK2.out;have := HK3.out;have := HK4.out;have := HJ27.out;have := HJ42.out;have := HJ48.out;first|omega|exact Nat.le_refl _⟩, ⟨by (try simp only [hl10_1]);(try simp only [hl10_2]);(try simp only [hl10_3]);(try simp only [hl10_4]);(with_reducible repeat (first|apply Kd.R_alloc|apply Kd.R_drewN|apply Kd.R_drew));exact HO_9.out⟩, ⟨by (try simp only [hl10_1]);(try simp only [hl10_2]);(try simp only [hl10_3]);(try simp only [hl10_4]);(with_reducible repeat (first|apply Kd.R_alloc|apply Kd.R_drewN|apply Kd.R_drew));exact HO_10.out⟩, ⟨by (try simp only [hl10_1]);(try simp only [hl10_2]);(try simp only [hl10_3]);(try simp only [hl10_4]);(with_reducible repeat (first|apply blk_drewN|apply blk_drew|apply blk_alloc));exact BK251.out⟩, ⟨by (try simp only [hl10_1]);(try simp only [hl10_2]);(try simp only [hl10_3]);(try simp only [hl10_4]);(with_reducible repeat (first|apply blk_drewN|apply blk_drew|apply blk_alloc));exact BK261.out⟩, ⟨by repeat (first|(with_reducible first|exact HB.out|apply xa|apply xb|apply xc|refine below_set ?_ GE251.out|refine below_set ?_ GE261.out)|exact HB.out)⟩⟩
                              ·replace c77 := Bool.eq_false_iff.mpr c77
                               subst c77
                               have H1 : (pinfoldref26_Held.j7 kj48 a1 a2 (l0_1.length : Int) x9_4 x10_4 x12_4 x44_3 x50_4 x18_48 false (l0_1.length : Int) x44_3 (l0_1.length : Int) x50_4 a0_0 l0_1) = some (r1, r2) := by rw [if_neg (show ¬ (false = true) by decide)] at H;exact H
                               clear H
                               have H := H1
                               clear H1
                               have H' := Aside0.mk H
                               clear H
                               have p264 : 0 ≤ (x44_3 : Int) := of_decide_eq_true (by assumption)
                               have q264 : x44_3 < (x10_4.length : Int) := of_decide_eq_true (by assumption)
                               obtain ⟨ad264, e264, hx264_0⟩ := Kd.at_bool (Kd.R_reads' HO_10.out).2.2 x44_3 p264 q264
                               (try rw [← Nbq65.out] at hx264_0)
                               (try rw [← Nbq76.out] at hx264_0)
                               cases e264
                               replace p264 := eq_true p264
                               replace q264 := eq_true q264
                               obtain ⟨Ao79, co79, eo79⟩ := Kd.R_slice HO_9.out
                               subst eo79
                               have p267 : 0 ≤ (x44_3 : Int) := of_decide_eq_true (by assumption)
                               have q267 : x44_3 < (x9_4.length : Int) := of_decide_eq_true (by assumption)
                               obtain ⟨ad267, e267, hx267_0⟩ := Kd.at_bool (Kd.R_reads' HO_9.out).2.2 x44_3 p267 q267
                               (try rw [← Nbq65.out] at hx267_0)
                               (try rw [← Nbq76.out] at hx267_0)
                               cases e267
                               replace p267 := eq_true p267
                               replace q267 := eq_true q267
                               have p268 : 0 ≤ (x44_3 : Int) := of_decide_eq_true (by assumption)
                               have q268 : x44_3 < (x10_4.length : Int) := of_decide_eq_true (by assumption)
                               obtain ⟨ad268, e268, hx268_0⟩ := Kd.at_bool (Kd.R_reads' HO_10.out).2.2 x44_3 p268 q268
                               (try rw [← Nbq65.out] at hx268_0)
                               (try rw [← Nbq76.out] at hx268_0)
                               obtain rfl : ad264 = ad268 := (by injection e268)
                               replace p268 := eq_true p268
                               replace q268 := eq_true q268
                               go_wp2
                               go_meet
                               case rel => exact ⟨_, (false), (by first|rfl|(simp;done)|(simp [*];done)), H', ⟨by have := HK1.out;have := HK2.out;have := HK3.out;have := HK4.out;have := HJ27.out;have := HJ42.out;have := HJ48.out;first|omega|exact Nat.le_refl _⟩, ⟨by (try simp only [hl10_1]);(try simp only [hl10_2]);(try simp only [hl10_3]);(try simp only [hl10_4]);(with_reducible repeat (first|apply Kd.R_alloc|apply Kd.R_drewN|apply Kd.R_drew));exact HO_9.out⟩, ⟨by (try simp only [hl10_1]);(try simp only [hl10_2]);(try simp only [hl10_3]);(try simp only [hl10_4]);(with_reducible repeat (first|apply Kd.R_alloc|apply Kd.R_drewN|apply Kd.R_drew));exact HO_10.out⟩, ⟨by (try simp only [hl10_1]);(try simp only [hl10_2]);(try simp only [hl10_3]);(try simp only [hl10_4]);(with_reducible repeat (first|apply blk_drewN|apply blk_drew|apply blk_alloc));exact BK251.out⟩, ⟨by (try simp only [hl10_1]);(try simp only [hl10_2]);(try simp only [hl10_3]);(try simp only [hl10_4]);(with_reducible repeat (first|apply blk_drewN|apply blk_drew|apply blk_alloc));exact BK261.out⟩, ⟨by repeat (first|(with_reducible first|exact HB.out|apply xa|apply xb|apply xc|refine below_set ?_ GE251.out|refine below_set ?_ GE261.out)|exact HB.out)⟩⟩
                             ·rw [if_neg c75] at H
                              exact absurd H (by simp)
                            ·replace c74 := Bool.eq_false_iff.mpr c74
                             subst c74
                             have H1 : (pinfoldref26_Held.j7 kj48 a1 a2 (l0_1.length : Int) x9_4 x10_4 x12_4 x44_3 x50_4 x18_48 false (l0_1.length : Int) x44_3 (l0_1.length : Int) x50_4 a0_0 l0_1) = some (r1, r2) := by rw [if_neg (show ¬ (false = true) by decide)] at H;exact H
                             clear H
                             have H := H1
                             clear H1
                             have H' := Aside0.mk H
                             clear H
                             have p264 : 0 ≤ (x44_3 : Int) := of_decide_eq_true (by assumption)
                             have q264 : x44_3 < (x10_4.length : Int) := of_decide_eq_true (by assumption)
                             obtain ⟨ad264, e264, hx264_0⟩ := Kd.at_bool (Kd.R_reads' HO_10.out).2.2 x44_3 p264 q264
                             (try rw [← Nbq65.out] at hx264_0)
                             cases e264
                             replace p264 := eq_true p264
                             replace q264 := eq_true q264
                             go_wp2
                             go_meet
                             case rel => exact ⟨_, (false), (by first|rfl|(simp;done)|(simp [*];done)), H', ⟨by have := HK1.out;have := HK2.out;have := HK3.out;have := HK4.out;have := HJ27.out;have := HJ42.out;have := HJ48.out;first|omega|exact Nat.le_refl _⟩, ⟨by (try simp only [hl10_1]);(try simp only [hl10_2]);(try simp only [hl10_3]);(try simp only [hl10_4]);(with_reducible repeat (first|apply Kd.R_alloc|apply Kd.R_drewN|apply Kd.R_drew));exact HO_9.out⟩, ⟨by (try simp only [hl10_1]);(try simp only [hl10_2]);(try simp only [hl10_3]);(try simp only [hl10_4]);(with_reducible repeat (first|apply Kd.R_alloc|apply Kd.R_drewN|apply Kd.R_drew));exact HO_10.out⟩, ⟨by (try simp only [hl10_1]);(try simp only [hl10_2]);(try simp only [hl10_3]);(try simp only [hl10_4]);(with_reducible repeat (first|apply blk_drewN|apply blk_drew|apply blk_alloc));exact BK251.out⟩, ⟨by (try simp only [hl10_1]);(try simp only [hl10_2]);(try simp only [hl10_3]);(try simp only [hl10_4]);(with_reducible repeat (first|apply blk_drewN|apply blk_drew|apply blk_alloc));exact BK261.out⟩, ⟨by repeat (first|(with_reducible first|exact HB.out|apply xa|apply xb|apply xc|refine below_set ?_ GE251.out|refine below_set ?_ GE261.out)|exact HB.out)⟩⟩
                          ·rw [if_neg c64] at H
                           exact absurd H (by simp)
                         ·rw [if_neg c63] at H
                          exact absurd H (by simp)
                        case rest => as_aux_lemma =>
                         clear HC62
                         try clear c1
                         try clear p1
                         try clear q1
                         try clear hx1
                         try clear c2
                         try clear p2
                         try clear q2
                         try clear hx2
                         try clear c3
                         try clear c4
                         try clear c4b0
                         try clear c4b1
                         try clear c5
                         try clear c5b0
                         try clear c5b1
                         try clear q5
                         try clear c6
                         try clear p6
                         try clear q6
                         try clear c7
                         try clear q7
                         try clear c13
                         try clear c13b0
                         try clear c14
                         try clear c14b0
                         try clear c15
                         try clear c15b0
                         try clear p16
                         try clear q16
                         try clear hx16
                         try clear hf16
                         try clear c17
                         try clear c19
                         try clear c21
                         try clear c21b0
                         try clear c23
                         try clear c23b0
                         try clear c25
                         try clear c26
                         try clear c26b0
                         try clear p26
                         try clear q26
                         try clear hx26
                         try clear c27
                         try clear c27b0
                         try clear c33
                         try clear c35
                         try clear c35b0
                         try clear c35b1
                         try clear c36
                         try clear c36b0
                         try clear c36b1
                         try clear c37
                         try clear c39
                         try clear c41
                         try clear c44
                         try clear c44b0
                         try clear c44b1
                         try clear c45
                         try clear c47
                         try clear c50
                         try clear c50b0
                         try clear c51
                         try clear c51b0
                         try clear q52
                         try clear c53
                         try clear c55
                         try clear c56
                         try clear c56b0
                         try clear q57
                         try clear c58
                         try clear c63
                         try clear c63b0
                         try clear c64
                         try clear c64b0
                         try clear q65
                         try clear c66
                         try clear c67
                         try clear c68
                         try clear c69
                         try clear c69b0
                         try clear q70
                         try clear c71
                         try clear c74
                         try clear c75
                         try clear c75b0
                         try clear q76
                         try clear c77
                         try clear hcz20_0
                         try clear hcz20_1
                         try clear hcz22_0
                         try clear hcz22_1
                         try clear hcz29_0
                         try clear hcz29_1
                         try clear hcz31_0
                         try clear hcz31_1
                         try clear hcz34_0
                         try clear hcz34_1
                         try clear hcz34_2
                         try clear hcz34_3
                         try clear hcz38_0
                         try clear hcz38_1
                         try clear hcz38_2
                         try clear hcz38_3
                         try clear hcz40_0
                         try clear hcz40_1
                         try clear hcz40_2
                         try clear hcz40_3
                         try clear hcz42_0
                         try clear hcz42_1
                         try clear hcz42_2
                         try clear hcz42_3
                         try clear hcz46_0
                         try clear hcz46_1
                         try clear hcz46_2
                         try clear hcz46_3
                         try clear hcz48_0
                         try clear hcz48_1
                         try clear hcz48_2
                         try clear hcz48_3
                         try clear hcz7_0
                         try clear hcz7_1
                         try clear hfz20_0
                         try clear hfz20_1
                         try clear hfz22_0
                         try clear hfz22_1
                         try clear hfz29_0
                         try clear hfz29_1
                         try clear hfz31_0
                         try clear hfz31_1
                         try clear hfz34_0
                         try clear hfz34_1
                         try clear hfz34_2
                         try clear hfz34_3
                         try clear hfz38_0
                         try clear hfz38_1
                         try clear hfz38_2
                         try clear hfz38_3
                         try clear hfz40_0
                         try clear hfz40_1
                         try clear hfz40_2
                         try clear hfz40_3
                         try clear hfz42_0
                         try clear hfz42_1
                         try clear hfz42_2
                         try clear hfz42_3
                         try clear hfz46_0
                         try clear hfz46_1
                         try clear hfz46_2
                         try clear hfz46_3
                         try clear hfz48_0
                         try clear hfz48_1
                         try clear hfz48_2
                         try clear hfz48_3
                         try clear hfz7_0
                         try clear hfz7_1
                         try clear hx16_0
                         try clear hx260_0
                         try clear hx260_1
                         try clear hx260_2
                         try clear hx260_3
                         try clear hx262_0
                         try clear hx263_0
                         try clear hx264_0
                         try clear hx265_0
                         try clear hx266_0
                         try clear hx267_0
                         try clear hx268_0
                         try clear p1
                         try clear p16
                         try clear p2
                         try clear p26
                         try clear p260
                         try clear p262
                         try clear p263
                         try clear p264
                         try clear p265
                         try clear p266
                         try clear p267
                         try clear p268
                         try clear p6
                         try clear q1
                         try clear q16
                         try clear q2
                         try clear q26
                         try clear q260
                         try clear q262
                         try clear q263
                         try clear q264
                         try clear q265
                         try clear q266
                         try clear q267
                         try clear q268
                         try clear q5
                         try clear q52
                         try clear q57
                         obtain ⟨kq, x19_61, rfl, HA, HJ61, HO_9, HO_10, BK251, BK261, HB⟩ := hcut
                         cases kq with
                         | zero => exact absurd HA.out (by simp [pinfoldref26_Held.j7])
                         | succ kj61 =>
                          have H := HA.out
                          clear HA
                          simp only [pinfoldref26_Held.j7] at H
                          have HC80 := Aside0.mk H
                          clear H
                          go_upto_region 24 with (fail)
                          go_cut [145] (fun v145 wc => ∃ (kq : Nat) (x145_79 : Bool), v145 = .bool x145_79 ∧ Aside0 (pinfoldref26_Held.j8 kq a1 a2 (l0_1.length : Int) x9_4 x10_4 x12_4 x44_3 x50_4 x18_48 x19_61 (l0_1.length : Int) x44_3 (l0_1.length : Int) x50_4 x145_79 a0_0 l0_1 = some (r1, r2)) ∧ Aside0 (kq ≤ kj61) ∧ Aside0 (Kd.R Kd.bool 4 wc w.heap.size (fun k_ => some k_ ≠ ((.slice Ao12 x10_4.length co12) : Value).ownBlock) v253 x9_4) ∧ Aside0 (Kd.R Kd.bool 4 wc w.heap.size (fun k_ => some k_ ≠ (v253 : Value).ownBlock) (.slice Ao12 x10_4.length co12) x10_4) ∧ Aside0 (wc.heap[gb251]? = some (.cells #[.int .i64 a0_0, (.slice (some ad260) l0_1.length c0_1)] 24 (0, 0))) ∧ Aside0 (wc.heap[gb261]? = some (.cells #[.int .i64 ((rd_T41 l0_1 x44_3).f0), .int .i64 ((rd_T41 l0_1 x44_3).f1), .int .i64 ((rd_T41 l0_1 x44_3).f2), .int .i32 ((rd_T41 l0_1 x44_3).f3)] 41 (0, 0))) ∧ Aside0 (Below w.heap.size w wc))
                          case first => as_aux_lemma =>
                           have H := HC80.out
                           clear HC80
                           by_cases c81 : x18_48 = true
                           ·subst c81
                            have H1 : (if 0 ≤ x50_4 then (if x50_4 < (x9_4.length : Int) then (if rdOf false x9_4 x50_4 = true then (if x19_61 = true then (if x50_4 < (x10_4.length : Int) then (pinfoldref26_Held.j8 kj61 a1 a2 (l0_1.length : Int) x9_4 x10_4 x12_4 x44_3 x50_4 true x19_61 (l0_1.length : Int) x44_3 (l0_1.length : Int) x50_4 (!(rdOf false x10_4 x50_4)) a0_0 l0_1) else (none)) else (pinfoldref26_Held.j8 kj61 a1 a2 (l0_1.length : Int) x9_4 x10_4 x12_4 x44_3 x50_4 true x19_61 (l0_1.length : Int) x44_3 (l0_1.length : Int) x50_4 false a0_0 l0_1)) else (pinfoldref26_Held.j8 kj61 a1 a2 (l0_1.length : Int) x9_4 x10_4 x12_4 x44_3 x50_4 true x19_61 (l0_1.length : Int) x44_3 (l0_1.length : Int) x50_4 true a0_0 l0_1)) else (none)) else (none)) = some (r1, r2) := by rw [if_pos rfl] at H;exact H
                            clear H
                            have H := H1
                            clear H1
                            by_cases c82 : 0 ≤ x50_4
                            ·rw [if_pos c82] at H
                             have c82b0 : decide (0 ≤ x50_4) = true := decide_eq_true c82
                             clear c82
                             (first|rw [c82b0]|(simp only [i64_w, i32_w];rw [c82b0])|skip)
                             by_cases c83 : x50_4 < (x9_4.length : Int)
                             ·rw [if_pos c83] at H
                              have c83b0 : decide (x50_4 < (x9_4.length : Int)) = true := decide_eq_true c83
                              have c83b9 := c83b0
                              (try simp only [hl10_1] at c83b9)
                              (try simp only [hl10_2] at c83b9)
                              (try simp only [hl10_3] at c83b9)
                              (try simp only [hl10_4] at c83b9)
                              clear c83
                              obtain ⟨bq84, hbq84⟩ : ∃ b_ : Bool, b_ = (rdOf false x9_4 x50_4) := ⟨_, rfl⟩
                              replace H : (if bq84 = true then (if x19_61 = true then (if x50_4 < (x10_4.length : Int) then (pinfoldref26_Held.j8 kj61 a1 a2 (l0_1.length : Int) x9_4 x10_4 x12_4 x44_3 x50_4 true x19_61 (l0_1.length : Int) x44_3 (l0_1.length : Int) x50_4 (!(rdOf false x10_4 x50_4)) a0_0 l0_1) else (none)) else (pinfoldref26_Held.j8 kj61 a1 a2 (l0_1.length : Int) x9_4 x10_4 x12_4 x44_3 x50_4 true x19_61 (l0_1.length : Int) x44_3 (l0_1.length : Int) x50_4 false a0_0 l0_1)) else (pinfoldref26_Held.j8 kj61 a1 a2 (l0_1.length : Int) x9_4 x10_4 x12_4 x44_3 x50_4 true x19_61 (l0_1.length : Int) x44_3 (l0_1.length : Int) x50_4 true a0_0 l0_1)) = some (r1, r2) := by rw [← hbq84] at H;exact H
                              have Nbq84 := Aside0.mk hbq84
                              (try rw [← Nbq84.out] at c75b0)
                              (try rw [← Nbq84.out] at c75b1)
                              (try rw [← Nbq84.out] at c75b2)
                              (try rw [← Nbq84.out] at c75b3)
                              (try rw [← Nbq84.out] at c82b0)
                              (try rw [← Nbq84.out] at c82b1)
                              (try rw [← Nbq84.out] at c82b2)
                              (try rw [← Nbq84.out] at c82b3)
                              (try rw [← Nbq84.out] at c83b0)
                              (try rw [← Nbq84.out] at c83b1)
                              (try rw [← Nbq84.out] at c83b2)
                              (try rw [← Nbq84.out] at c83b3)
                              clear hbq84
                              by_cases c85 : bq84 = true
                              ·subst c85
                               have H1 : (if x19_61 = true then (if x50_4 < (x10_4.length : Int) then (pinfoldref26_Held.j8 kj61 a1 a2 (l0_1.length : Int) x9_4 x10_4 x12_4 x44_3 x50_4 true x19_61 (l0_1.length : Int) x44_3 (l0_1.length : Int) x50_4 (!(rdOf false x10_4 x50_4)) a0_0 l0_1) else (none)) else (pinfoldref26_Held.j8 kj61 a1 a2 (l0_1.length : Int) x9_4 x10_4 x12_4 x44_3 x50_4 true x19_61 (l0_1.length : Int) x44_3 (l0_1.length : Int) x50_4 false a0_0 l0_1)) = some (r1, r2) := by rw [if_pos rfl] at H;exact H
                               clear H
                               have H := H1
                               clear H1
                               by_cases c86 : x19_61 = true
                               ·subst c86
                                have H1 : (if x50_4 < (x10_4.length : Int) then (pinfoldref26_Held.j8 kj61 a1 a2 (l0_1.length : Int) x9_4 x10_4 x12_4 x44_3 x50_4 true true (l0_1.length : Int) x44_3 (l0_1.length : Int) x50_4 (!(rdOf false x10_4 x50_4)) a0_0 l0_1) else (none)) = some (r1, r2) := by rw [if_pos rfl] at H;exact H
                                clear H
                                have H := H1
                                clear H1
                                by_cases c87 : x50_4 < (x10_4.length : Int)
                                ·rw [if_pos c87] at H
                                 have c87b0 : decide (x50_4 < (x10_4.length : Int)) = true := decide_eq_true c87
                                 have c87b9 := c87b0
                                 (try simp only [hl10_1] at c87b9)
                                 (try simp only [hl10_2] at c87b9)
                                 (try simp only [hl10_3] at c87b9)
                                 (try simp only [hl10_4] at c87b9)
                                 clear c87
                                 have H' := Aside0.mk H
                                 clear H
                                 obtain ⟨Ao88, co88, eo88⟩ := Kd.R_slice HO_9.out
                                 subst eo88
                                 have p269 : 0 ≤ (x50_4 : Int) := of_decide_eq_true (by assumption)
                                 have q269 : x50_4 < (x9_4.length : Int) := of_decide_eq_true (by assumption)
                                 obtain ⟨ad269, e269, hx269_0⟩ := Kd.at_bool (Kd.R_reads' HO_9.out).2.2 x50_4 p269 q269
                                 (try rw [← Nbq84.out] at hx269_0)
                                 cases e269
                                 replace p269 := eq_true p269
                                 replace q269 := eq_true q269
                                 have p270 : 0 ≤ (x50_4 : Int) := of_decide_eq_true (by assumption)
                                 have q270 : x50_4 < (x10_4.length : Int) := of_decide_eq_true (by assumption)
                                 obtain ⟨ad270, e270, hx270_0⟩ := Kd.at_bool (Kd.R_reads' HO_10.out).2.2 x50_4 p270 q270
                                 (try rw [← Nbq84.out] at hx270_0)
                                 cases e270
                                 replace p270 := eq_true p270
                                 replace q270 := eq_true q270
                                 go_wp2
                                 go_meet
                                 case rel => exact ⟨_, (!(rdOf false x10_4 x50_4)), (by first|rfl|(simp;done)|(simp [*];done)), H', ⟨by have := HK1.out;have := HK2.out;have := HK3.out;have := HK4.out;have := HJ27.out;have := HJ42.out;have := HJ48.out;have := HJ61.out;first|omega|exact Nat.le_refl _⟩, ⟨by (try simp only [hl10_1]);(try simp only [hl10_2]);(try simp only [hl10_3]);(try simp only [hl10_4]);(with_reducible repeat (first|apply Kd.R_alloc|apply Kd.R_drewN|apply Kd.R_drew));exact HO_9.out⟩, ⟨by (try simp only [hl10_1]);(try simp only [hl10_2]);(try simp only [hl10_3]);(try simp only [hl10_4]);(with_reducible repeat (first|apply Kd.R_alloc|apply Kd.R_drewN|apply Kd.R_drew));exact HO_10.out⟩, ⟨by (try simp only [hl10_1]);(try simp only [hl10_2]);(try simp only [hl10_3]);(try simp only [hl10_4]);(with_reducible repeat (first|apply blk_drewN|apply blk_drew|apply blk_alloc));exact BK251.out⟩, ⟨by (try simp only [hl10_1]);(try simp only [hl10_2]);(try simp only [hl10_3]);(try simp only [hl10_4]);(with_reducible repeat (first|apply blk_drewN|apply blk_drew|apply blk_alloc));exact BK261.out⟩, ⟨by repeat (first|(with_reducible first|exact HB.out|apply xa|apply xb|apply xc|refine below_set ?_ GE251.out|refine below_set ?_ GE261.out)|exact HB.out)⟩⟩
                                ·rw [if_neg c87] at H
                                 exact absurd H (by simp)
                               ·replace c86 := Bool.eq_false_iff.mpr c86
                                subst c86
                                have H1 : (pinfoldref26_Held.j8 kj61 a1 a2 (l0_1.length : Int) x9_4 x10_4 x12_4 x44_3 x50_4 true false (l0_1.length : Int) x44_3 (l0_1.length : Int) x50_4 false a0_0 l0_1) = some (r1, r2) := by rw [if_neg (show ¬ (false = true) by decide)] at H;exact H
                                clear H
                                have H := H1
                                clear H1
                                have H' := Aside0.mk H
                                clear H
                                obtain ⟨Ao89, co89, eo89⟩ := Kd.R_slice HO_9.out
                                subst eo89
                                have p269 : 0 ≤ (x50_4 : Int) := of_decide_eq_true (by assumption)
                                have q269 : x50_4 < (x9_4.length : Int) := of_decide_eq_true (by assumption)
                                obtain ⟨ad269, e269, hx269_0⟩ := Kd.at_bool (Kd.R_reads' HO_9.out).2.2 x50_4 p269 q269
                                (try rw [← Nbq84.out] at hx269_0)
                                cases e269
                                replace p269 := eq_true p269
                                replace q269 := eq_true q269
                                go_wp2
                                go_meet
                                case rel => exact ⟨_, (false), (by first|rfl|(simp;done)|(simp [*];done)), H', ⟨by have := HK1.out;have := HK2.out;have := HK3.out;have := HK4.out;have := HJ27.out;have := HJ42.out;have := HJ48.out;have := HJ61.out;first|omega|exact Nat.le_refl _⟩, ⟨by (try simp only [hl10_1]);(try simp only [hl10_2]);(try simp only [hl10_3]);(try simp only [hl10_4]);(with_reducible repeat (first|apply Kd.R_alloc|apply Kd.R_drewN|apply Kd.R_drew));exact HO_9.out⟩, ⟨by (try simp only [hl10_1]);(try simp only [hl10_2]);(try simp only [hl10_3]);(try simp only [hl10_4]);(with_reducible repeat (first|apply Kd.R_alloc|apply Kd.R_drewN|apply Kd.R_drew));exact HO_10.out⟩, ⟨by (try simp only [hl10_1]);(try simp only [hl10_2]);(try simp only [hl10_3]);(try simp only [hl10_4]);(with_reducible repeat (first|apply blk_drewN|apply blk_drew|apply blk_alloc));exact BK251.out⟩, ⟨by (try simp only [hl10_1]);(try simp only [hl10_2]);(try simp only [hl10_3]);(try simp only [hl10_4]);(with_reducible repeat (first|apply blk_drewN|apply blk_drew|apply blk_alloc));exact BK261.out⟩, ⟨by repeat (first|(with_reducible first|exact HB.out|apply xa|apply xb|apply xc|refine below_set ?_ GE251.out|refine below_set ?_ GE261.out)|exact HB.out)⟩⟩
                              ·replace c85 := Bool.eq_false_iff.mpr c85
                               subst c85
                               have H1 : (pinfoldref26_Held.j8 kj61 a1 a2 (l0_1.length : Int) x9_4 x10_4 x12_4 x44_3 x50_4 true x19_61 (l0_1.length : Int) x44_3 (l0_1.length : Int) x50_4 true a0_0 l0_1) = some (r1, r2) := by rw [if_neg (show ¬ (false = true) by decide)] at H;exact H
                               clear H
                               have H := H1
                               clear H1
                               have H' := Aside0.mk H
                               clear H
                               obtain ⟨Ao90, co90, eo90⟩ := Kd.R_slice HO_9.out
                               subst eo90
                               have p269 : 0 ≤ (x50_4 : Int) := of_decide_eq_true (by assumption)
                               have q269 : x50_4 < (x9_4.length : Int) := of_decide_eq_true (by assumption)
                               obtain ⟨ad269, e269, hx269_0⟩ := Kd.at_bool (Kd.R_reads' HO_9.out).2.2 x50_4 p269 q269
                               (try rw [← Nbq84.out] at hx269_0)
                               cases e269
                               replace p269 := eq_true p269
                               replace q269 := eq_true q269
                               go_wp2
                               go_meet
                               case rel => exact ⟨_, (true), (by first|rfl|(simp;done)|(simp [*];done)), H', ⟨by have := HK1.out;have := HK2.out;have := HK3.out;have := HK4.out;have := HJ27.out;have := HJ42.out;have := HJ48.out;have := HJ61.out;first|omega|exact Nat.le_refl _⟩, ⟨by (try simp only [hl10_1]);(try simp only [hl10_2]);(try simp only [hl10_3]);(try simp only [hl10_4]);(with_reducible repeat (first|apply Kd.R_alloc|apply Kd.R_drewN|apply Kd.R_drew));exact HO_9.out⟩, ⟨by (try simp only [hl10_1]);(try simp only [hl10_2]);(try simp only [hl10_3]);(try simp only [hl10_4]);(with_reducible repeat (first|apply Kd.R_alloc|apply Kd.R_drewN|apply Kd.R_drew));exact HO_10.out⟩, ⟨by (try simp only [hl10_1]);(try simp only [hl10_2]);(try simp only [hl10_3]);(try simp only [hl10_4]);(with_reducible repeat (first|apply blk_drewN|apply blk_drew|apply blk_alloc));exact BK251.out⟩, ⟨by (try simp only [hl10_1]);(try simp only [hl10_2]);(try simp only [hl10_3]);(try simp only [hl10_4]);(with_reducible repeat (first|apply blk_drewN|apply blk_drew|apply blk_alloc));exact BK261.out⟩, ⟨by repeat (first|(with_reducible first|exact HB.out|apply xa|apply xb|apply xc|refine below_set ?_ GE251.out|refine below_set ?_ GE261.out)|exact HB.out)⟩⟩
                             ·rw [if_neg c83] at H
                              exact absurd H (by simp)
                            ·rw [if_neg c82] at H
                             exact absurd H (by simp)
                           ·replace c81 := Bool.eq_false_iff.mpr c81
                            subst c81
                            have H1 : (if x19_61 = true then (if 0 ≤ x50_4 then (if x50_4 < (x10_4.length : Int) then (pinfoldref26_Held.j8 kj61 a1 a2 (l0_1.length : Int) x9_4 x10_4 x12_4 x44_3 x50_4 false x19_61 (l0_1.length : Int) x44_3 (l0_1.length : Int) x50_4 (!(rdOf false x10_4 x50_4)) a0_0 l0_1) else (none)) else (none)) else (pinfoldref26_Held.j8 kj61 a1 a2 (l0_1.length : Int) x9_4 x10_4 x12_4 x44_3 x50_4 false x19_61 (l0_1.length : Int) x44_3 (l0_1.length : Int) x50_4 false a0_0 l0_1)) = some (r1, r2) := by rw [if_neg (show ¬ (false = true) by decide)] at H;exact H
                            clear H
                            have H := H1
                            clear H1
                            by_cases c91 : x19_61 = true
                            ·subst c91
                             have H1 : (if 0 ≤ x50_4 then (if x50_4 < (x10_4.length : Int) then (pinfoldref26_Held.j8 kj61 a1 a2 (l0_1.length : Int) x9_4 x10_4 x12_4 x44_3 x50_4 false true (l0_1.length : Int) x44_3 (l0_1.length : Int) x50_4 (!(rdOf false x10_4 x50_4)) a0_0 l0_1) else (none)) else (none)) = some (r1, r2) := by rw [if_pos rfl] at H;exact H
                             clear H
                             have H := H1
                             clear H1
                             by_cases c92 : 0 ≤ x50_4
                             ·rw [if_pos c92] at H
                              have c92b0 : decide (0 ≤ x50_4) = true := decide_eq_true c92
                              clear c92
                              by_cases c93 : x50_4 < (x10_4.length : Int)
                              ·rw [if_pos c93] at H
                               have c93b0 : decide (x50_4 < (x10_4.length : Int)) = true := decide_eq_true c93
                               have c93b9 := c93b0
                               (try simp only [hl10_1] at c93b9)
                               (try simp only [hl10_2] at c93b9)
                               (try simp only [hl10_3] at c93b9)
                               (try simp only [hl10_4] at c93b9)
                               clear c93
                               have H' := Aside0.mk H
                               clear H
                               have p271 : 0 ≤ (x50_4 : Int) := of_decide_eq_true (by assumption)
                               have q271 : x50_4 < (x10_4.length : Int) := of_decide_eq_true (by assumption)
                               obtain ⟨ad271, e271, hx271_0⟩ := Kd.at_bool (Kd.R_reads' HO_10.out).2.2 x50_4 p271 q271
                               cases e271
                               replace p271 := eq_true p271
                               replace q271 := eq_true q271
                               go_wp2
                               go_meet
                               case rel => exact ⟨_, (!(rdOf false x10_4 x50_4)), (by first|rfl|(simp;done)|(simp [*];done)), H', ⟨by have := HK1.out;have := HK2.out;have := HK3.out;have := HK4.out;have := HJ27.out;have := HJ42.out;have := HJ48.out;have := HJ61.out;first|omega|exact Nat.le_refl _⟩, ⟨by (try simp only [hl10_1]);(try simp only [hl10_2]);(try simp only [hl10_3]);(try simp only [hl10_4]);(with_reducible repeat (first|apply Kd.R_alloc|apply Kd.R_drewN|apply Kd.R_drew));exact HO_9.out⟩, ⟨by (try simp only [hl10_1]);(try simp only [hl10_2]);(try simp only [hl10_3]);(try simp only [hl10_4]);(with_reducible repeat (first|apply Kd.R_alloc|apply Kd.R_drewN|apply Kd.R_drew));exact HO_10.out⟩, ⟨by (try simp only [hl10_1]);(try simp only [hl10_2]);(try simp only [hl10_3]);(try simp only [hl10_4]);(with_reducible repeat (first|apply blk_drewN|apply blk_drew|apply blk_alloc));exact BK251.out⟩, ⟨by (try simp only [hl10_1]);(try simp only [hl10_2]);(try simp only [hl10_3]);(try simp only [hl10_4]);(with_reducible repeat (first|apply blk_drewN|apply blk_drew|apply blk_alloc));exact BK261.out⟩, ⟨by repeat (first|(with_reducible first|exact HB.out|apply xa|apply xb|apply xc|refine below_set ?_ GE251.out|refine below_set ?_ GE261.out)|exact HB.out)⟩⟩
                              ·rw [if_neg c93] at H
                               exact absurd H (by simp)
                             ·rw [if_neg c92] at H
                              exact absurd H (by simp)
                            ·replace c91 := Bool.eq_false_iff.mpr c91
                             subst c91
                             have H1 : (pinfoldref26_Held.j8 kj61 a1 a2 (l0_1.length : Int) x9_4 x10_4 x12_4 x44_3 x50_4 false false (l0_1.length : Int) x44_3 (l0_1.length : Int) x50_4 false a0_0 l0_1) = some (r1, r2) := by rw [if_neg (show ¬ (false = true) by decide)] at H;exact H
                             clear H
                             have H := H1
                             clear H1
                             have H' := Aside0.mk H
                             clear H
                             go_wp2
                             go_meet
                             case rel => exact ⟨_, (false), (by first|rfl|(simp;done)|(simp [*];done)), H', ⟨by have := HK1.out;have := HK2.out;have := HK3.out;have := HK4.out;have := HJ27.out;have := HJ42.out;have := HJ48.out;have := HJ61.out;first|omega|exact Nat.le_refl _⟩, ⟨by (try simp only [hl10_1]);(try simp only [hl10_2]);(try simp only [hl10_3]);(try simp only [hl10_4]);(with_reducible repeat (first|apply Kd.R_alloc|apply Kd.R_drewN|apply Kd.R_drew));exact HO_9.out⟩, ⟨by (try simp only [hl10_1]);(try simp only [hl10_2]);(try simp only [hl10_3]);(try simp only [hl10_4]);(with_reducible repeat (first|apply Kd.R_alloc|apply Kd.R_drewN|apply Kd.R_drew));exact HO_10.out⟩, ⟨by (try simp only [hl10_1]);(try simp only [hl10_2]);(try simp only [hl10_3]);(try simp only [hl10_4]);(with_reducible repeat (first|apply blk_drewN|apply blk_drew|apply blk_alloc));exact BK251.out⟩, ⟨by (try simp only [hl10_1]);(try simp only [hl10_2]);(try simp only [hl10_3]);(try simp only [hl10_4]);(with_reducible repeat (first|apply blk_drewN|apply blk_drew|apply blk_alloc));exact BK261.out⟩, ⟨by repeat (first|(with_reducible first|exact HB.out|apply xa|apply xb|apply xc|refine below_set ?_ GE251.out|refine below_set ?_ GE261.out)|exact HB.out)⟩⟩
                          case rest => as_aux_lemma =>
                           clear HC80
                           try clear c1
                           try clear p1
                           try clear q1
                           try clear hx1
                           try clear c2
                           try clear p2
                           try clear q2
                           try clear hx2
                           try clear c3
                           try clear c4
                           try clear c4b0
                           try clear c4b1
                           try clear c5
                           try clear c5b0
                           try clear c5b1
                           try clear q5
                           try clear c6
                           try clear p6
                           try clear q6
                           try clear c7
                           try clear q7
                           try clear c8
                           try clear q8
                           try clear c9
                           try clear c13
                           try clear c13b0
                           try clear c14
                           try clear c14b0
                           try clear c15
                           try clear c15b0
                           try clear p16
                           try clear q16
                           try clear hx16
                           try clear hf16
                           try clear c17
                           try clear c19
                           try clear c21
                           try clear c21b0
                           try clear c23
                           try clear c23b0
                           try clear c25
                           try clear c26
                           try clear c26b0
                           try clear p26
                           try clear q26
                           try clear hx26
                           try clear c27
                           try clear c27b0
                           try clear p27
                           try clear q27
                           try clear hx27
                           try clear c33
                           try clear c35
                           try clear c35b0
                           try clear c35b1
                           try clear c36
                           try clear c36b0
                           try clear c36b1
                           try clear c37
                           try clear c39
                           try clear c41
                           try clear c44
                           try clear c44b0
                           try clear c44b1
                           try clear c45
                           try clear c47
                           try clear c50
                           try clear c50b0
                           try clear c51
                           try clear c51b0
                           try clear q52
                           try clear c53
                           try clear c55
                           try clear c56
                           try clear c56b0
                           try clear q57
                           try clear c58
                           try clear c63
                           try clear c63b0
                           try clear c64
                           try clear c64b0
                           try clear q65
                           try clear c66
                           try clear c67
                           try clear c68
                           try clear c69
                           try clear c69b0
                           try clear q70
                           try clear c71
                           try clear c74
                           try clear c75
                           try clear c75b0
                           try clear q76
                           try clear c77
                           try clear c81
                           try clear c82
                           try clear c82b0
                           try clear c83
                           try clear c83b0
                           try clear q84
                           try clear c85
                           try clear c86
                           try clear c87
                           try clear c87b0
                           try clear c91
                           try clear c92
                           try clear c92b0
                           try clear c93
                           try clear c93b0
                           try clear hcz20_0
                           try clear hcz20_1
                           try clear hcz22_0
                           try clear hcz22_1
                           try clear hcz29_0
                           try clear hcz29_1
                           try clear hcz31_0
                           try clear hcz31_1
                           try clear hcz34_0
                           try clear hcz34_1
                           try clear hcz34_2
                           try clear hcz34_3
                           try clear hcz38_0
                           try clear hcz38_1
                           try clear hcz38_2
                           try clear hcz38_3
                           try clear hcz40_0
                           try clear hcz40_1
                           try clear hcz40_2
                           try clear hcz40_3
                           try clear hcz42_0
                           try clear hcz42_1
                           try clear hcz42_2
                           try clear hcz42_3
                           try clear hcz46_0
                           try clear hcz46_1
                           try clear hcz46_2
                           try clear hcz46_3
                           try clear hcz48_0
                           try clear hcz48_1
                           try clear hcz48_2
                           try clear hcz48_3
                           try clear hcz7_0
                           try clear hcz7_1
                           try clear hfz20_0
                           try clear hfz20_1
                           try clear hfz22_0
                           try clear hfz22_1
                           try clear hfz29_0
                           try clear hfz29_1
                           try clear hfz31_0
                           try clear hfz31_1
                           try clear hfz34_0
                           try clear hfz34_1
                           try clear hfz34_2
                           try clear hfz34_3
                           try clear hfz38_0
                           try clear hfz38_1
                           try clear hfz38_2
                           try clear hfz38_3
                           try clear hfz40_0
                           try clear hfz40_1
                           try clear hfz40_2
                           try clear hfz40_3
                           try clear hfz42_0
                           try clear hfz42_1
                           try clear hfz42_2
                           try clear hfz42_3
                           try clear hfz46_0
                           try clear hfz46_1
                           try clear hfz46_2
                           try clear hfz46_3
                           try clear hfz48_0
                           try clear hfz48_1
                           try clear hfz48_2
                           try clear hfz48_3
                           try clear hfz7_0
                           try clear hfz7_1
                           try clear hx16_0
                           try clear hx260_0
                           try clear hx260_1
                           try clear hx260_2
                           try clear hx260_3
                           try clear hx262_0
                           try clear hx263_0
                           try clear hx264_0
                           try clear hx265_0
                           try clear hx266_0
                           try clear hx267_0
                           try clear hx268_0
                           try clear hx269_0
                           try clear hx270_0
                           try clear hx271_0
                           try clear p1
                           try clear p16
                           try clear p2
                           try clear p26
                           try clear p260
                           try clear p262
                           try clear p263
                           try clear p264
                           try clear p265
                           try clear p266
                           try clear p267
                           try clear p268
                           try clear p269
                           try clear p270
                           try clear p271
                           try clear p6
                           try clear q1
                           try clear q16
                           try clear q2
                           try clear q26
                           try clear q260
                           try clear q262
                           try clear q263
                           try clear q264
                           try clear q265
                           try clear q266
                           try clear q267
                           try clear q268
                           try clear q269
                           try clear q270
                           try clear q271
                           try clear q5
                           try clear q52
                           try clear q57
                           try clear q6
                           try clear q65
                           try clear q7
                           try clear q70
                           try clear q76
                           obtain ⟨kq, x145_79, rfl, HA, HJ79, HO_9, HO_10, BK251, BK261, HB⟩ := hcut
                           cases kq with
                           | zero => exact absurd HA.out (by simp [pinfoldref26_Held.j8])
                           | succ kj79 =>
                            have H := HA.out
                            clear HA
                            simp only [pinfoldref26_Held.j8] at H
                            by_cases c94 : x145_79 = true
                            ·subst c94
                             have H1 : (if 0 ≤ x50_4 then (if x50_4 < (x9_4.length : Int) then (if rdOf false x9_4 x50_4 = true then ((some (x9_4.set (x50_4 : Int).toNat true : List Bool)).bind fun y273 => (if x50_4 < (x10_4.length : Int) then (if rdOf false x10_4 x50_4 = true then (pinfoldref26_Held.l3 kj79 a1 a2 (l0_1.length : Int) y273 (x10_4.set (x50_4 : Int).toNat true) true x44_3 (l0_1.length : Int) x44_3 (l0_1.length : Int) (wrap64 (x50_4 + 1)) a0_0 l0_1) else (pinfoldref26_Held.l3 kj79 a1 a2 (l0_1.length : Int) y273 (x10_4.set (x50_4 : Int).toNat x19_61) true x44_3 (l0_1.length : Int) x44_3 (l0_1.length : Int) (wrap64 (x50_4 + 1)) a0_0 l0_1)) else (none))) else ((some (x9_4.set (x50_4 : Int).toNat x18_48 : List Bool)).bind fun y277 => (if x50_4 < (x10_4.length : Int) then (if rdOf false x10_4 x50_4 = true then (pinfoldref26_Held.l3 kj79 a1 a2 (l0_1.length : Int) y277 (x10_4.set (x50_4 : Int).toNat true) true x44_3 (l0_1.length : Int) x44_3 (l0_1.length : Int) (wrap64 (x50_4 + 1)) a0_0 l0_1) else (pinfoldref26_Held.l3 kj79 a1 a2 (l0_1.length : Int) y277 (x10_4.set (x50_4 : Int).toNat x19_61) true x44_3 (l0_1.length : Int) x44_3 (l0_1.length : Int) (wrap64 (x50_4 + 1)) a0_0 l0_1)) else (none)))) else (none)) else (none)) = some (r1, r2) := by rw [if_pos rfl] at H;exact H
                             clear H
                             have H := H1
                             clear H1
                             by_cases c95 : 0 ≤ x50_4
                             ·rw [if_pos c95] at H
                              have c95b0 : decide (0 ≤ x50_4) = true := decide_eq_true c95
                              clear c95
                              by_cases c96 : x50_4 < (x9_4.length : Int)
                              ·rw [if_pos c96] at H
                               have c96b0 : decide (x50_4 < (x9_4.length : Int)) = true := decide_eq_true c96
                               have c96b9 := c96b0
                               (try simp only [hl10_1] at c96b9)
                               (try simp only [hl10_2] at c96b9)
                               (try simp only [hl10_3] at c96b9)
                               (try simp only [hl10_4] at c96b9)
                               clear c96
                               obtain ⟨bq97, hbq97⟩ : ∃ b_ : Bool, b_ = (rdOf false x9_4 x50_4) := ⟨_, rfl⟩
                               replace H : (if bq97 = true then ((some (x9_4.set (x50_4 : Int).toNat true : List Bool)).bind fun y273 => (if x50_4 < (x10_4.length : Int) then (if rdOf false x10_4 x50_4 = true then (pinfoldref26_Held.l3 kj79 a1 a2 (l0_1.length : Int) y273 (x10_4.set (x50_4 : Int).toNat true) true x44_3 (l0_1.length : Int) x44_3 (l0_1.length : Int) (wrap64 (x50_4 + 1)) a0_0 l0_1) else (pinfoldref26_Held.l3 kj79 a1 a2 (l0_1.length : Int) y273 (x10_4.set (x50_4 : Int).toNat x19_61) true x44_3 (l0_1.length : Int) x44_3 (l0_1.length : Int) (wrap64 (x50_4 + 1)) a0_0 l0_1)) else (none))) else ((some (x9_4.set (x50_4 : Int).toNat x18_48 : List Bool)).bind fun y277 => (if x50_4 < (x10_4.length : Int) then (if rdOf false x10_4 x50_4 = true then (pinfoldref26_Held.l3 kj79 a1 a2 (l0_1.length : Int) y277 (x10_4.set (x50_4 : Int).toNat true) true x44_3 (l0_1.length : Int) x44_3 (l0_1.length : Int) (wrap64 (x50_4 + 1)) a0_0 l0_1) else (pinfoldref26_Held.l3 kj79 a1 a2 (l0_1.length : Int) y277 (x10_4.set (x50_4 : Int).toNat x19_61) true x44_3 (l0_1.length : Int) x44_3 (l0_1.length : Int) (wrap64 (x50_4 + 1)) a0_0 l0_1)) else (none)))) = some (r1, r2) := by rw [← hbq97] at H;exact H
                               have Nbq97 := Aside0.mk hbq97
                               (try rw [← Nbq97.out] at c93b0)
                               (try rw [← Nbq97.out] at c93b1)
                               (try rw [← Nbq97.out] at c93b2)
                               (try rw [← Nbq97.out] at c93b3)
                               (try rw [← Nbq97.out] at c95b0)
                               (try rw [← Nbq97.out] at c95b1)
                               (try rw [← Nbq97.out] at c95b2)
                               (try rw [← Nbq97.out] at c95b3)
                               (try rw [← Nbq97.out] at c96b0)
                               (try rw [← Nbq97.out] at c96b1)
                               (try rw [← Nbq97.out] at c96b2)
                               (try rw [← Nbq97.out] at c96b3)
                               clear hbq97
                               by_cases c98 : bq97 = true
                               ·subst c98
                                have H1 : ((some (x9_4.set (x50_4 : Int).toNat true : List Bool)).bind fun y273 => (if x50_4 < (x10_4.length : Int) then (if rdOf false x10_4 x50_4 = true then (pinfoldref26_Held.l3 kj79 a1 a2 (l0_1.length : Int) y273 (x10_4.set (x50_4 : Int).toNat true) true x44_3 (l0_1.length : Int) x44_3 (l0_1.length : Int) (wrap64 (x50_4 + 1)) a0_0 l0_1) else (pinfoldref26_Held.l3 kj79 a1 a2 (l0_1.length : Int) y273 (x10_4.set (x50_4 : Int).toNat x19_61) true x44_3 (l0_1.length : Int) x44_3 (l0_1.length : Int) (wrap64 (x50_4 + 1)) a0_0 l0_1)) else (none))) = some (r1, r2) := by rw [if_pos rfl] at H;exact H
                                clear H
                                have H := H1
                                clear H1
                                obtain ⟨y273, hy273⟩ : ∃ y_ : List Bool, y_ = (x9_4.set (x50_4 : Int).toNat true) := ⟨_, rfl⟩
                                replace H : (if x50_4 < (x10_4.length : Int) then (if rdOf false x10_4 x50_4 = true then (pinfoldref26_Held.l3 kj79 a1 a2 (l0_1.length : Int) y273 (x10_4.set (x50_4 : Int).toNat true) true x44_3 (l0_1.length : Int) x44_3 (l0_1.length : Int) (wrap64 (x50_4 + 1)) a0_0 l0_1) else (pinfoldref26_Held.l3 kj79 a1 a2 (l0_1.length : Int) y273 (x10_4.set (x50_4 : Int).toNat x19_61) true x44_3 (l0_1.length : Int) x44_3 (l0_1.length : Int) (wrap64 (x50_4 + 1)) a0_0 l0_1)) else (none)) = some (r1, r2) := by first|(rw [hy273];with_reducible exact H)|(have H2_ := (Option.bind_some _ _).symm.trans H;rw [hy273];with_reducible exact H2_)|(have H2_ := (Option.bind_some _ _).symm.trans H;with_reducible exact H2_)|with_reducible exact H|(rw [hy273];exact H)|exact H
                                have Ny273 := Aside0.mk hy273
                                clear hy273
                                by_cases c100 : x50_4 < (x10_4.length : Int)
                                ·rw [if_pos c100] at H
                                 have c100b0 : decide (x50_4 < (x10_4.length : Int)) = true := decide_eq_true c100
                                 have c100b9 := c100b0
                                 (try simp only [hl10_1] at c100b9)
                                 (try simp only [hl10_2] at c100b9)
                                 (try simp only [hl10_3] at c100b9)
                                 (try simp only [hl10_4] at c100b9)
                                 clear c100
                                 obtain ⟨bq101, hbq101⟩ : ∃ b_ : Bool, b_ = (rdOf false x10_4 x50_4) := ⟨_, rfl⟩
                                 replace H : (if bq101 = true then (pinfoldref26_Held.l3 kj79 a1 a2 (l0_1.length : Int) y273 (x10_4.set (x50_4 : Int).toNat true) true x44_3 (l0_1.length : Int) x44_3 (l0_1.length : Int) (wrap64 (x50_4 + 1)) a0_0 l0_1) else (pinfoldref26_Held.l3 kj79 a1 a2 (l0_1.length : Int) y273 (x10_4.set (x50_4 : Int).toNat x19_61) true x44_3 (l0_1.length : Int) x44_3 (l0_1.length : Int) (wrap64 (x50_4 + 1)) a0_0 l0_1)) = some (r1, r2) := by rw [← hbq101] at H;exact H
                                 have Nbq101 := Aside0.mk hbq101
                                 (try rw [← Nbq101.out] at c95b0)
                                 (try rw [← Nbq101.out] at c95b1)
                                 (try rw [← Nbq101.out] at c95b2)
                                 (try rw [← Nbq101.out] at c95b3)
                                 (try rw [← Nbq101.out] at c96b0)
                                 (try rw [← Nbq101.out] at c96b1)
                                 (try rw [← Nbq101.out] at c96b2)
                                 (try rw [← Nbq101.out] at c96b3)
                                 (try rw [← Nbq101.out] at c100b0)
                                 (try rw [← Nbq101.out] at c100b1)
                                 (try rw [← Nbq101.out] at c100b2)
                                 (try rw [← Nbq101.out] at c100b3)
                                 clear hbq101
                                 by_cases c102 : bq101 = true
                                 ·subst c102
                                  have H1 : (pinfoldref26_Held.l3 kj79 a1 a2 (l0_1.length : Int) y273 (x10_4.set (x50_4 : Int).toNat true) true x44_3 (l0_1.length : Int) x44_3 (l0_1.length : Int) (wrap64 (x50_4 + 1)) a0_0 l0_1) = some (r1, r2) := by rw [if_pos rfl] at H;exact H
                                  clear H
                                  have H := H1
                                  clear H1
                                  obtain ⟨y275, hy275⟩ : ∃ y_ : List Bool, y_ = (x10_4.set (x50_4 : Int).toNat true) := ⟨_, rfl⟩
                                  replace H : (pinfoldref26_Held.l3 kj79 a1 a2 (l0_1.length : Int) y273 y275 true x44_3 (l0_1.length : Int) x44_3 (l0_1.length : Int) (wrap64 (x50_4 + 1)) a0_0 l0_1) = some (r1, r2) := by first|(rw [hy275];with_reducible exact H)|(have H2_ := (Option.bind_some _ _).symm.trans H;rw [hy275];with_reducible exact H2_)|(have H2_ := (Option.bind_some _ _).symm.trans H;with_reducible exact H2_)|with_reducible exact H|(rw [hy275];exact H)|exact H
                                  have Ny275 := Aside0.mk hy275
                                  clear hy275
                                  have H' := Aside0.mk H
                                  clear H
                                  obtain ⟨Ao104, co104, eo104⟩ := Kd.R_slice HO_9.out
                                  subst eo104
                                  have p272 : 0 ≤ (x50_4 : Int) := of_decide_eq_true (by assumption)
                                  have q272 : x50_4 < (x9_4.length : Int) := of_decide_eq_true (by assumption)
                                  obtain ⟨ad272, e272, hx272_0⟩ := Kd.at_bool (Kd.R_reads' HO_9.out).2.2 x50_4 p272 q272
                                  (try rw [← Nbq97.out] at hx272_0)
                                  (try rw [← Nbq101.out] at hx272_0)
                                  cases e272
                                  replace p272 := eq_true p272
                                  replace q272 := eq_true q272
                                  have p99 : 0 ≤ (x50_4 : Int) := of_decide_eq_true (by assumption)
                                  have q99 : (x50_4 : Int) < ((x9_4.length : Int) : Int) := of_decide_eq_true (by assumption)
                                  obtain ⟨go99, co99, eo99, gb99, gl99, cl99, HG99⟩ := Kd.R_form HO_9.out (by omega)
                                  (first|cases eo99|(injection eo99 with ea_ en_ ec_;(first|subst ea_|(injection ea_ with ea_;subst ea_));subst ec_;clear en_))
                                  have GB99 := Aside0.mk gb99
                                  have GG99 := Aside0.mk HG99
                                  clear gb99 gl99 HG99
                                  (first|simp only [add_plain] at hx272_0|skip)
                                  obtain ⟨hx99_0, hf99_0⟩ := Kd.R_celln false HO_9.out (x50_4 : Int) p99 q99
                                  replace p99 := eq_true p99
                                  replace q99 := eq_true q99
                                  have HP105 := Kd.R_putg HO_9.out (x50_4 : Int) true
                                  go_wp2_with (first|((with_reducible refine gate_store (t := 4) (p := 155) rfl ?_);refine store_event (t := 4) (p := 155) (v := ?vo_w106) (w1 := (wc.setCell ⟨go99, (x50_4 : Int).toNat, none⟩ (.bool true))) ?hg ?ho ?hn ?hr ?_;(case ho => rfl);(case hg => rfl);(case hn => rfl);(case hr => first|(go_simp;done)|(go_simp;rfl));intro w106 hw;have hg : wc.grownBy w106 (some go99) := (by rw [hw];exact HP105.2);have hp_ : Kd.R Kd.bool 4 w106 w.heap.size (fun k_ => some k_ ≠ (.slice Ao12 x10_4.length co12 : Value).ownBlock) (.slice (some ⟨go99, 0, none⟩) x9_4.length co104) y273 := (by rw [hw, Ny273.out];exact HP105.1);clear HP105;have n0_ := Aside0.mk (hp_);have n1_ := Aside0.mk (Kd.R_after (v := (.slice (some ⟨go99, 0, none⟩) x9_4.length co104)) (v1 := (.slice (some ⟨go99, 0, none⟩) x9_4.length co104)) (ok := (fun _ => True)) (by (with_reducible repeat (first|apply Kd.R_alloc|apply Kd.R_drewN|apply Kd.R_drew));exact Kd.R_mono HO_10.out (fun _ hk => ⟨trivial, hk⟩)) hg (.inl rfl));have n2_ := Aside0.mk (blk_grown (g := gb251) (o := .cells #[.int .i64 a0_0, .slice (some ad260) l0_1.length c0_1] 24 (0, 0)) (by (with_reducible repeat (first|apply blk_drewN|apply blk_drew|apply blk_alloc));exact BK251.out) hg (Kd.R_ne HO_9.out BK251.out (by decide)));have n3_ := Aside0.mk (blk_grown (g := gb261) (o := .cells #[.int .i64 ((rd_T41 l0_1 x44_3).f0), .int .i64 ((rd_T41 l0_1 x44_3).f1), .int .i64 ((rd_T41 l0_1 x44_3).f2), .int .i32 ((rd_T41 l0_1 x44_3).f3)] 41 (0, 0)) (by (with_reducible repeat (first|apply blk_drewN|apply blk_drew|apply blk_alloc));exact BK261.out) hg (Kd.R_ne HO_9.out BK261.out (by decide)));have n4_ := Aside0.mk ((by rw [hw];exact below_set (HB.out) GB99.out : Below w.heap.size w w106));clear HO_9;clear HO_10;clear BK251;clear BK261;clear HB;have HO_9 := n0_;have HO_10 := n1_;have BK251 := n2_;have BK261 := n3_;have HB := n4_;clear n0_ n1_ n2_ n3_ n4_;clear hg hw hp_;have p274 : 0 ≤ (x50_4 : Int) := of_decide_eq_true (by assumption);have q274 : x50_4 < (x10_4.length : Int) := of_decide_eq_true (by assumption);obtain ⟨ad274, e274, hx274_0⟩ := Kd.at_bool (Kd.R_reads' HO_10.out).2.2 x50_4 p274 q274;(try rw [← Nbq97.out] at hx274_0);(try rw [← Nbq101.out] at hx274_0);cases e274;replace p274 := eq_true p274;replace q274 := eq_true q274;have p103 : 0 ≤ (x50_4 : Int) := of_decide_eq_true (by assumption);have q103 : (x50_4 : Int) < ((x10_4.length : Int) : Int) := of_decide_eq_true (by assumption);obtain ⟨go103, co103, eo103, gb103, gl103, cl103, HG103⟩ := Kd.R_form HO_10.out (by omega);(first|cases eo103|(injection eo103 with ea_ en_ ec_;(first|subst ea_|(injection ea_ with ea_;subst ea_));subst ec_;clear en_));have GB103 := Aside0.mk gb103;have GG103 := Aside0.mk HG103;clear gb103 gl103 HG103;(first|simp only [add_plain] at hx274_0|skip);obtain ⟨hx103_0, hf103_0⟩ := Kd.R_celln false HO_10.out (x50_4 : Int) p103 q103;replace p103 := eq_true p103;replace q103 := eq_true q103;have n_ := Aside0.mk (Kd.R_mono (ok' := (fun k_ => some k_ ≠ (.slice (some ⟨go99, 0, none⟩) x9_4.length co104 : Value).ownBlock)) HO_10.out (fun k_ hk => hk.2));clear HO_10;have HO_10 := n_;clear n_;obtain ⟨hy107_, hz107_⟩ := Kd.R_celln false HO_10.out (x50_4 : Int) (of_decide_eq_true (by assumption)) (of_decide_eq_true (by assumption));have HP107 := Kd.R_putg HO_10.out (x50_4 : Int) true)|((with_reducible refine gate_store (t := 4) (p := 165) rfl ?_);refine store_event (t := 4) (p := 165) (v := ?vo_w108) (w1 := (w106.setCell ⟨go103, (x50_4 : Int).toNat, none⟩ (.bool true))) ?hg ?ho ?hn ?hr ?_;(case ho => rfl);(case hg => rfl);(case hn => rfl);(case hr => first|(go_simp;done)|(go_simp;rfl));intro w108 hw;have hg : w106.grownBy w108 (some go103) := (by rw [hw];exact HP107.2);have hp_ : Kd.R Kd.bool 4 w108 w.heap.size (fun k_ => some k_ ≠ (.slice (some ⟨go99, 0, none⟩) x9_4.length co104 : Value).ownBlock) (.slice (some ⟨go103, 0, none⟩) x10_4.length co12) y275 := (by rw [hw, Ny275.out];exact HP107.1);clear HP107;have n0_ := Aside0.mk (Kd.R_after (v := (.slice (some ⟨go103, 0, none⟩) x10_4.length co12)) (v1 := (.slice (some ⟨go103, 0, none⟩) x10_4.length co12)) (ok := (fun _ => True)) (by (with_reducible repeat (first|apply Kd.R_alloc|apply Kd.R_drewN|apply Kd.R_drew));exact Kd.R_mono HO_9.out (fun _ hk => ⟨trivial, hk⟩)) hg (.inl rfl));have n1_ := Aside0.mk (hp_);have n2_ := Aside0.mk (blk_grown (g := gb251) (o := .cells #[.int .i64 a0_0, .slice (some ad260) l0_1.length c0_1] 24 (0, 0)) (by (with_reducible repeat (first|apply blk_drewN|apply blk_drew|apply blk_alloc));exact BK251.out) hg (Kd.R_ne HO_10.out BK251.out (by decide)));have n3_ := Aside0.mk (blk_grown (g := gb261) (o := .cells #[.int .i64 ((rd_T41 l0_1 x44_3).f0), .int .i64 ((rd_T41 l0_1 x44_3).f1), .int .i64 ((rd_T41 l0_1 x44_3).f2), .int .i32 ((rd_T41 l0_1 x44_3).f3)] 41 (0, 0)) (by (with_reducible repeat (first|apply blk_drewN|apply blk_drew|apply blk_alloc));exact BK261.out) hg (Kd.R_ne HO_10.out BK261.out (by decide)));have n4_ := Aside0.mk ((by rw [hw];exact below_set (HB.out) GB103.out : Below w.heap.size w w108));clear HO_9;clear HO_10;clear BK251;clear BK261;clear HB;have HO_9 := n0_;have HO_10 := n1_;have BK251 := n2_;have BK261 := n3_;have HB := n4_;clear n0_ n1_ n2_ n3_ n4_;clear hg hw hp_))
                                  (try simp only [← hl10_4])
                                  go_roundg kj79
                                  case measure => have := HK1.out;have := HK2.out;have := HK3.out;have := HK4.out;have := HJ27.out;have := HJ42.out;have := HJ48.out;have := HJ61.out;have := HJ79.out;omega
                                  case rel => exact ⟨(y273), (y275), (true), (wrap64 (x50_4 + 1)), (by first|rfl|(simp;done)|(simp [*];done)), (by first|rfl|(simp;done)|(simp [*];done)), H', ⟨by have := HK1.out;have := HK2.out;have := HK3.out;have := HK4.out;have := HJ27.out;have := HJ42.out;have := HJ48.out;have := HJ61.out;have := HJ79.out;omega⟩, ⟨by (try simp only [hl10_1]);(try simp only [hl10_2]);(try simp only [hl10_3]);(try simp only [hl10_4]);(with_reducible repeat (first|apply Kd.R_alloc|apply Kd.R_drewN|apply Kd.R_drew));exact Kd.R_mono HO_9.out (fun _ hk => hk.2)⟩, ⟨by (try simp only [hl10_1]);(try simp only [hl10_2]);(try simp only [hl10_3]);(try simp only [hl10_4]);(with_reducible repeat (first|apply Kd.R_alloc|apply Kd.R_drewN|apply Kd.R_drew));exact HO_10.out⟩, ⟨by (try simp only [hl10_1]);(try simp only [hl10_2]);(try simp only [hl10_3]);(try simp only [hl10_4]);(with_reducible repeat (first|apply blk_drewN|apply blk_drew|apply blk_alloc));exact BK251.out⟩, ⟨by repeat (first|(with_reducible first|exact HB.out|apply xa|apply xb|apply xc|refine below_set ?_ GE251.out|refine below_set ?_ GE261.out)|exact HB.out)⟩⟩
                                 ·replace c102 := Bool.eq_false_iff.mpr c102
                                  subst c102
                                  have H1 : (pinfoldref26_Held.l3 kj79 a1 a2 (l0_1.length : Int) y273 (x10_4.set (x50_4 : Int).toNat x19_61) true x44_3 (l0_1.length : Int) x44_3 (l0_1.length : Int) (wrap64 (x50_4 + 1)) a0_0 l0_1) = some (r1, r2) := by rw [if_neg (show ¬ (false = true) by decide)] at H;exact H
                                  clear H
                                  have H := H1
                                  clear H1
                                  obtain ⟨y276, hy276⟩ : ∃ y_ : List Bool, y_ = (x10_4.set (x50_4 : Int).toNat x19_61) := ⟨_, rfl⟩
                                  replace H : (pinfoldref26_Held.l3 kj79 a1 a2 (l0_1.length : Int) y273 y276 true x44_3 (l0_1.length : Int) x44_3 (l0_1.length : Int) (wrap64 (x50_4 + 1)) a0_0 l0_1) = some (r1, r2) := by first|(rw [hy276];with_reducible exact H)|(have H2_ := (Option.bind_some _ _).symm.trans H;rw [hy276];with_reducible exact H2_)|(have H2_ := (Option.bind_some _ _).symm.trans H;with_reducible exact H2_)|with_reducible exact H|(rw [hy276];exact H)|exact H
                                  have Ny276 := Aside0.mk hy276
                                  clear hy276
                                  have H' := Aside0.mk H
                                  clear H
                                  obtain ⟨Ao110, co110, eo110⟩ := Kd.R_slice HO_9.out
                                  subst eo110
                                  have p272 : 0 ≤ (x50_4 : Int) := of_decide_eq_true (by assumption)
                                  have q272 : x50_4 < (x9_4.length : Int) := of_decide_eq_true (by assumption)
                                  obtain ⟨ad272, e272, hx272_0⟩ := Kd.at_bool (Kd.R_reads' HO_9.out).2.2 x50_4 p272 q272
                                  (try rw [← Nbq97.out] at hx272_0)
                                  (try rw [← Nbq101.out] at hx272_0)
                                  cases e272
                                  replace p272 := eq_true p272
                                  replace q272 := eq_true q272
                                  have p99 : 0 ≤ (x50_4 : Int) := of_decide_eq_true (by assumption)
                                  have q99 : (x50_4 : Int) < ((x9_4.length : Int) : Int) := of_decide_eq_true (by assumption)
                                  obtain ⟨go99, co99, eo99, gb99, gl99, cl99, HG99⟩ := Kd.R_form HO_9.out (by omega)
                                  (first|cases eo99|(injection eo99 with ea_ en_ ec_;(first|subst ea_|(injection ea_ with ea_;subst ea_));subst ec_;clear en_))
                                  have GB99 := Aside0.mk gb99
                                  have GG99 := Aside0.mk HG99
                                  clear gb99 gl99 HG99
                                  (first|simp only [add_plain] at hx272_0|skip)
                                  obtain ⟨hx99_0, hf99_0⟩ := Kd.R_celln false HO_9.out (x50_4 : Int) p99 q99
                                  replace p99 := eq_true p99
                                  replace q99 := eq_true q99
                                  have HP111 := Kd.R_putg HO_9.out (x50_4 : Int) true
                                  go_wp2_with (first|((with_reducible refine gate_store (t := 4) (p := 155) rfl ?_);refine store_event (t := 4) (p := 155) (v := ?vo_w112) (w1 := (wc.setCell ⟨go99, (x50_4 : Int).toNat, none⟩ (.bool true))) ?hg ?ho ?hn ?hr ?_;(case ho => rfl);(case hg => rfl);(case hn => rfl);(case hr => first|(go_simp;done)|(go_simp;rfl));intro w112 hw;have hg : wc.grownBy w112 (some go99) := (by rw [hw];exact HP111.2);have hp_ : Kd.R Kd.bool 4 w112 w.heap.size (fun k_ => some k_ ≠ (.slice Ao12 x10_4.length co12 : Value).ownBlock) (.slice (some ⟨go99, 0, none⟩) x9_4.length co110) y273 := (by rw [hw, Ny273.out];exact HP111.1);clear HP111;have n0_ := Aside0.mk (hp_);have n1_ := Aside0.mk (Kd.R_after (v := (.slice (some ⟨go99, 0, none⟩) x9_4.length co110)) (v1 := (.slice (some ⟨go99, 0, none⟩) x9_4.length co110)) (ok := (fun _ => True)) (by (with_reducible repeat (first|apply Kd.R_alloc|apply Kd.R_drewN|apply Kd.R_drew));exact Kd.R_mono HO_10.out (fun _ hk => ⟨trivial, hk⟩)) hg (.inl rfl));have n2_ := Aside0.mk (blk_grown (g := gb251) (o := .cells #[.int .i64 a0_0, .slice (some ad260) l0_1.length c0_1] 24 (0, 0)) (by (with_reducible repeat (first|apply blk_drewN|apply blk_drew|apply blk_alloc));exact BK251.out) hg (Kd.R_ne HO_9.out BK251.out (by decide)));have n3_ := Aside0.mk (blk_grown (g := gb261) (o := .cells #[.int .i64 ((rd_T41 l0_1 x44_3).f0), .int .i64 ((rd_T41 l0_1 x44_3).f1), .int .i64 ((rd_T41 l0_1 x44_3).f2), .int .i32 ((rd_T41 l0_1 x44_3).f3)] 41 (0, 0)) (by (with_reducible repeat (first|apply blk_drewN|apply blk_drew|apply blk_alloc));exact BK261.out) hg (Kd.R_ne HO_9.out BK261.out (by decide)));have n4_ := Aside0.mk ((by rw [hw];exact below_set (HB.out) GB99.out : Below w.heap.size w w112));clear HO_9;clear HO_10;clear BK251;clear BK261;clear HB;have HO_9 := n0_;have HO_10 := n1_;have BK251 := n2_;have BK261 := n3_;have HB := n4_;clear n0_ n1_ n2_ n3_ n4_;clear hg hw hp_;have p274 : 0 ≤ (x50_4 : Int) := of_decide_eq_true (by assumption);have q274 : x50_4 < (x10_4.length : Int) := of_decide_eq_true (by assumption);obtain ⟨ad274, e274, hx274_0⟩ := Kd.at_bool (Kd.R_reads' HO_10.out).2.2 x50_4 p274 q274;(try rw [← Nbq97.out] at hx274_0);(try rw [← Nbq101.out] at hx274_0);cases e274;replace p274 := eq_true p274;replace q274 := eq_true q274;have p109 : 0 ≤ (x50_4 : Int) := of_decide_eq_true (by assumption);have q109 : (x50_4 : Int) < ((x10_4.length : Int) : Int) := of_decide_eq_true (by assumption);obtain ⟨go109, co109, eo109, gb109, gl109, cl109, HG109⟩ := Kd.R_form HO_10.out (by omega);(first|cases eo109|(injection eo109 with ea_ en_ ec_;(first|subst ea_|(injection ea_ with ea_;subst ea_));subst ec_;clear en_));have GB109 := Aside0.mk gb109;have GG109 := Aside0.mk HG109;clear gb109 gl109 HG109;(first|simp only [add_plain] at hx274_0|skip);obtain ⟨hx109_0, hf109_0⟩ := Kd.R_celln false HO_10.out (x50_4 : Int) p109 q109;replace p109 := eq_true p109;replace q109 := eq_true q109;have n_ := Aside0.mk (Kd.R_mono (ok' := (fun k_ => some k_ ≠ (.slice (some ⟨go99, 0, none⟩) x9_4.length co110 : Value).ownBlock)) HO_10.out (fun k_ hk => hk.2));clear HO_10;have HO_10 := n_;clear n_;obtain ⟨hy113_, hz113_⟩ := Kd.R_celln false HO_10.out (x50_4 : Int) (of_decide_eq_true (by assumption)) (of_decide_eq_true (by assumption));have HP113 := Kd.R_putg HO_10.out (x50_4 : Int) x19_61)|((with_reducible refine gate_store (t := 4) (p := 165) rfl ?_);refine store_event (t := 4) (p := 165) (v := ?vo_w114) (w1 := (w112.setCell ⟨go109, (x50_4 : Int).toNat, none⟩ (.bool x19_61))) ?hg ?ho ?hn ?hr ?_;(case ho => rfl);(case hg => rfl);(case hn => rfl);(case hr => first|(go_simp;done)|(go_simp;rfl));intro w114 hw;have hg : w112.grownBy w114 (some go109) := (by rw [hw];exact HP113.2);have hp_ : Kd.R Kd.bool 4 w114 w.heap.size (fun k_ => some k_ ≠ (.slice (some ⟨go99, 0, none⟩) x9_4.length co110 : Value).ownBlock) (.slice (some ⟨go109, 0, none⟩) x10_4.length co12) y276 := (by rw [hw, Ny276.out];exact HP113.1);clear HP113;have n0_ := Aside0.mk (Kd.R_after (v := (.slice (some ⟨go109, 0, none⟩) x10_4.length co12)) (v1 := (.slice (some ⟨go109, 0, none⟩) x10_4.length co12)) (ok := (fun _ => True)) (by (with_reducible repeat (first|apply Kd.R_alloc|apply Kd.R_drewN|apply Kd.R_drew));exact Kd.R_mono HO_9.out (fun _ hk => ⟨trivial, hk⟩)) hg (.inl rfl));have n1_ := Aside0.mk (hp_);have n2_ := Aside0.mk (blk_grown (g := gb251) (o := .cells #[.int .i64 a0_0, .slice (some ad260) l0_1.length c0_1] 24 (0, 0)) (by (with_reducible repeat (first|apply blk_drewN|apply blk_drew|apply blk_alloc));exact BK251.out) hg (Kd.R_ne HO_10.out BK251.out (by decide)));have n3_ := Aside0.mk (blk_grown (g := gb261) (o := .cells #[.int .i64 ((rd_T41 l0_1 x44_3).f0), .int .i64 ((rd_T41 l0_1 x44_3).f1), .int .i64 ((rd_T41 l0_1 x44_3).f2), .int .i32 ((rd_T41 l0_1 x44_3).f3)] 41 (0, 0)) (by (with_reducible repeat (first|apply blk_drewN|apply blk_drew|apply blk_alloc));exact BK261.out) hg (Kd.R_ne HO_10.out BK261.out (by decide)));have n4_ := Aside0.mk ((by rw [hw];exact below_set (HB.out) GB109.out : Below w.heap.size w w114));clear HO_9;clear HO_10;clear BK251;clear BK261;clear HB;have HO_9 := n0_;have HO_10 := n1_;have BK251 := n2_;have BK261 := n3_;have HB := n4_;clear n0_ n1_ n2_ n3_ n4_;clear hg hw hp_))
                                  (try simp only [← hl10_4])
                                  go_roundg kj79
                                  case measure => have := HK1.out;have := HK2.out;have := HK3.out;have := HK4.out;have := HJ27.out;have := HJ42.out;have := HJ48.out;have := HJ61.out;have := HJ79.out;omega
                                  case rel => exact ⟨(y273), (y276), (true), (wrap64 (x50_4 + 1)), (by first|rfl|(simp;done)|(simp [*];done)), (by first|rfl|(simp;done)|(simp [*];done)), H', ⟨by have := HK1.out;have := HK2.out;have := HK3.out;have := HK4.out;have := HJ27.out;have := HJ42.out;have := HJ48.out;have := HJ61.out;have := HJ79.out;omega⟩, ⟨by (try simp only [hl10_1]);(try simp only [hl10_2]);(try simp only [hl10_3]);(try simp only [hl10_4]);(with_reducible repeat (first|apply Kd.R_alloc|apply Kd.R_drewN|apply Kd.R_drew));exact Kd.R_mono HO_9.out (fun _ hk => hk.2)⟩, ⟨by (try simp only [hl10_1]);(try simp only [hl10_2]);(try simp only [hl10_3]);(try simp only [hl10_4]);(with_reducible repeat (first|apply Kd.R_alloc|apply Kd.R_drewN|apply Kd.R_drew));exact HO_10.out⟩, ⟨by (try simp only [hl10_1]);(try simp only [hl10_2]);(try simp only [hl10_3]);(try simp only [hl10_4]);(with_reducible repeat (first|apply blk_drewN|apply blk_drew|apply blk_alloc));exact BK251.out⟩, ⟨by repeat (first|(with_reducible first|exact HB.out|apply xa|apply xb|apply xc|refine below_set ?_ GE251.out|refine below_set ?_ GE261.out)|exact HB.out)⟩⟩
                                ·rw [if_neg c100] at H
                                 exact absurd H (by simp)
                               ·replace c98 := Bool.eq_false_iff.mpr c98
                                subst c98
                                have H1 : ((some (x9_4.set (x50_4 : Int).toNat x18_48 : List Bool)).bind fun y277 => (if x50_4 < (x10_4.length : Int) then (if rdOf false x10_4 x50_4 = true then (pinfoldref26_Held.l3 kj79 a1 a2 (l0_1.length : Int) y277 (x10_4.set (x50_4 : Int).toNat true) true x44_3 (l0_1.length : Int) x44_3 (l0_1.length : Int) (wrap64 (x50_4 + 1)) a0_0 l0_1) else (pinfoldref26_Held.l3 kj79 a1 a2 (l0_1.length : Int) y277 (x10_4.set (x50_4 : Int).toNat x19_61) true x44_3 (l0_1.length : Int) x44_3 (l0_1.length : Int) (wrap64 (x50_4 + 1)) a0_0 l0_1)) else (none))) = some (r1, r2) := by rw [if_neg (show ¬ (false = true) by decide)] at H;exact H
                                clear H
                                have H := H1
                                clear H1
                                obtain ⟨y277, hy277⟩ : ∃ y_ : List Bool, y_ = (x9_4.set (x50_4 : Int).toNat x18_48) := ⟨_, rfl⟩
                                replace H : (if x50_4 < (x10_4.length : Int) then (if rdOf false x10_4 x50_4 = true then (pinfoldref26_Held.l3 kj79 a1 a2 (l0_1.length : Int) y277 (x10_4.set (x50_4 : Int).toNat true) true x44_3 (l0_1.length : Int) x44_3 (l0_1.length : Int) (wrap64 (x50_4 + 1)) a0_0 l0_1) else (pinfoldref26_Held.l3 kj79 a1 a2 (l0_1.length : Int) y277 (x10_4.set (x50_4 : Int).toNat x19_61) true x44_3 (l0_1.length : Int) x44_3 (l0_1.length : Int) (wrap64 (x50_4 + 1)) a0_0 l0_1)) else (none)) = some (r1, r2) := by first|(rw [hy277];with_reducible exact H)|(have H2_ := (Option.bind_some _ _).symm.trans H;rw [hy277];with_reducible exact H2_)|(have H2_ := (Option.bind_some _ _).symm.trans H;with_reducible exact H2_)|with_reducible exact H|(rw [hy277];exact H)|exact H
                                have Ny277 := Aside0.mk hy277
                                clear hy277
                                by_cases c116 : x50_4 < (x10_4.length : Int)
                                ·rw [if_pos c116] at H
                                 have c116b0 : decide (x50_4 < (x10_4.length : Int)) = true := decide_eq_true c116
                                 have c116b9 := c116b0
                                 (try simp only [hl10_1] at c116b9)
                                 (try simp only [hl10_2] at c116b9)
                                 (try simp only [hl10_3] at c116b9)
                                 (try simp only [hl10_4] at c116b9)
                                 clear c116
                                 obtain ⟨bq117, hbq117⟩ : ∃ b_ : Bool, b_ = (rdOf false x10_4 x50_4) := ⟨_, rfl⟩
                                 replace H : (if bq117 = true then (pinfoldref26_Held.l3 kj79 a1 a2 (l0_1.length : Int) y277 (x10_4.set (x50_4 : Int).toNat true) true x44_3 (l0_1.length : Int) x44_3 (l0_1.length : Int) (wrap64 (x50_4 + 1)) a0_0 l0_1) else (pinfoldref26_Held.l3 kj79 a1 a2 (l0_1.length : Int) y277 (x10_4.set (x50_4 : Int).toNat x19_61) true x44_3 (l0_1.length : Int) x44_3 (l0_1.length : Int) (wrap64 (x50_4 + 1)) a0_0 l0_1)) = some (r1, r2) := by rw [← hbq117] at H;exact H
                                 have Nbq117 := Aside0.mk hbq117
                                 (try rw [← Nbq117.out] at c96b0)
                                 (try rw [← Nbq117.out] at c96b1)
                                 (try rw [← Nbq117.out] at c96b2)
                                 (try rw [← Nbq117.out] at c96b3)
                                 (try rw [← Nbq117.out] at c100b0)
                                 (try rw [← Nbq117.out] at c100b1)
                                 (try rw [← Nbq117.out] at c100b2)
                                 (try rw [← Nbq117.out] at c100b3)
                                 (try rw [← Nbq117.out] at c116b0)
                                 (try rw [← Nbq117.out] at c116b1)
                                 (try rw [← Nbq117.out] at c116b2)
                                 (try rw [← Nbq117.out] at c116b3)
                                 clear hbq117
                                 by_cases c118 : bq117 = true
                                 ·subst c118
                                  have H1 : (pinfoldref26_Held.l3 kj79 a1 a2 (l0_1.length : Int) y277 (x10_4.set (x50_4 : Int).toNat true) true x44_3 (l0_1.length : Int) x44_3 (l0_1.length : Int) (wrap64 (x50_4 + 1)) a0_0 l0_1) = some (r1, r2) := by rw [if_pos rfl] at H;exact H
                                  clear H
                                  have H := H1
                                  clear H1
                                  obtain ⟨y279, hy279⟩ : ∃ y_ : List Bool, y_ = (x10_4.set (x50_4 : Int).toNat true) := ⟨_, rfl⟩
                                  replace H : (pinfoldref26_Held.l3 kj79 a1 a2 (l0_1.length : Int) y277 y279 true x44_3 (l0_1.length : Int) x44_3 (l0_1.length : Int) (wrap64 (x50_4 + 1)) a0_0 l0_1) = some (r1, r2) := by first|(rw [hy279];with_reducible exact H)|(have H2_ := (Option.bind_some _ _).symm.trans H;rw [hy279];with_reducible exact H2_)|(have H2_ := (Option.bind_some _ _).symm.trans H;with_reducible exact H2_)|with_reducible exact H|(rw [hy279];exact H)|exact H
                                  have Ny279 := Aside0.mk hy279
                                  clear hy279
                                  have H' := Aside0.mk H
                                  clear H
                                  obtain ⟨Ao120, co120, eo120⟩ := Kd.R_slice HO_9.out
                                  subst eo120
                                  have p272 : 0 ≤ (x50_4 : Int) := of_decide_eq_true (by assumption)
                                  have q272 : x50_4 < (x9_4.length : Int) := of_decide_eq_true (by assumption)
                                  obtain ⟨ad272, e272, hx272_0⟩ := Kd.at_bool (Kd.R_reads' HO_9.out).2.2 x50_4 p272 q272
                                  (try rw [← Nbq97.out] at hx272_0)
                                  (try rw [← Nbq117.out] at hx272_0)
                                  cases e272
                                  replace p272 := eq_true p272
                                  replace q272 := eq_true q272
                                  have p115 : 0 ≤ (x50_4 : Int) := of_decide_eq_true (by assumption)
                                  have q115 : (x50_4 : Int) < ((x9_4.length : Int) : Int) := of_decide_eq_true (by assumption)
                                  obtain ⟨go115, co115, eo115, gb115, gl115, cl115, HG115⟩ := Kd.R_form HO_9.out (by omega)
                                  (first|cases eo115|(injection eo115 with ea_ en_ ec_;(first|subst ea_|(injection ea_ with ea_;subst ea_));subst ec_;clear en_))
                                  have GB115 := Aside0.mk gb115
                                  have GG115 := Aside0.mk HG115
                                  clear gb115 gl115 HG115
                                  (first|simp only [add_plain] at hx272_0|skip)
                                  obtain ⟨hx115_0, hf115_0⟩ := Kd.R_celln false HO_9.out (x50_4 : Int) p115 q115
                                  replace p115 := eq_true p115
                                  replace q115 := eq_true q115
                                  have HP121 := Kd.R_putg HO_9.out (x50_4 : Int) x18_48
                                  go_wp2_with (first|((with_reducible refine gate_store (t := 4) (p := 155) rfl ?_);refine store_event (t := 4) (p := 155) (v := ?vo_w122) (w1 := (wc.setCell ⟨go115, (x50_4 : Int).toNat, none⟩ (.bool x18_48))) ?hg ?ho ?hn ?hr ?_;(case ho => rfl);(case hg => rfl);(case hn => rfl);(case hr => first|(go_simp;done)|(go_simp;rfl));intro w122 hw;have hg : wc.grownBy w122 (some go115) := (by rw [hw];exact HP121.2);have hp_ : Kd.R Kd.bool 4 w122 w.heap.size (fun k_ => some k_ ≠ (.slice Ao12 x10_4.length co12 : Value).ownBlock) (.slice (some ⟨go115, 0, none⟩) x9_4.length co120) y277 := (by rw [hw, Ny277.out];exact HP121.1);clear HP121;have n0_ := Aside0.mk (hp_);have n1_ := Aside0.mk (Kd.R_after (v := (.slice (some ⟨go115, 0, none⟩) x9_4.length co120)) (v1 := (.slice (some ⟨go115, 0, none⟩) x9_4.length co120)) (ok := (fun _ => True)) (by (with_reducible repeat (first|apply Kd.R_alloc|apply Kd.R_drewN|apply Kd.R_drew));exact Kd.R_mono HO_10.out (fun _ hk => ⟨trivial, hk⟩)) hg (.inl rfl));have n2_ := Aside0.mk (blk_grown (g := gb251) (o := .cells #[.int .i64 a0_0, .slice (some ad260) l0_1.length c0_1] 24 (0, 0)) (by (with_reducible repeat (first|apply blk_drewN|apply blk_drew|apply blk_alloc));exact BK251.out) hg (Kd.R_ne HO_9.out BK251.out (by decide)));have n3_ := Aside0.mk (blk_grown (g := gb261) (o := .cells #[.int .i64 ((rd_T41 l0_1 x44_3).f0), .int .i64 ((rd_T41 l0_1 x44_3).f1), .int .i64 ((rd_T41 l0_1 x44_3).f2), .int .i32 ((rd_T41 l0_1 x44_3).f3)] 41 (0, 0)) (by (with_reducible repeat (first|apply blk_drewN|apply blk_drew|apply blk_alloc));exact BK261.out) hg (Kd.R_ne HO_9.out BK261.out (by decide)));have n4_ := Aside0.mk ((by rw [hw];exact below_set (HB.out) GB115.out : Below w.heap.size w w122));clear HO_9;clear HO_10;clear BK251;clear BK261;clear HB;have HO_9 := n0_;have HO_10 := n1_;have BK251 := n2_;have BK261 := n3_;have HB := n4_;clear n0_ n1_ n2_ n3_ n4_;clear hg hw hp_;have p278 : 0 ≤ (x50_4 : Int) := of_decide_eq_true (by assumption);have q278 : x50_4 < (x10_4.length : Int) := of_decide_eq_true (by assumption);obtain ⟨ad278, e278, hx278_0⟩ := Kd.at_bool (Kd.R_reads' HO_10.out).2.2 x50_4 p278 q278;(try rw [← Nbq97.out] at hx278_0);(try rw [← Nbq117.out] at hx278_0);cases e278;replace p278 := eq_true p278;replace q278 := eq_true q278;have p119 : 0 ≤ (x50_4 : Int) := of_decide_eq_true (by assumption);have q119 : (x50_4 : Int) < ((x10_4.length : Int) : Int) := of_decide_eq_true (by assumption);obtain ⟨go119, co119, eo119, gb119, gl119, cl119, HG119⟩ := Kd.R_form HO_10.out (by omega);(first|cases eo119|(injection eo119 with ea_ en_ ec_;(first|subst ea_|(injection ea_ with ea_;subst ea_));subst ec_;clear en_));have GB119 := Aside0.mk gb119;have GG119 := Aside0.mk HG119;clear gb119 gl119 HG119;(first|simp only [add_plain] at hx278_0|skip);obtain ⟨hx119_0, hf119_0⟩ := Kd.R_celln false HO_10.out (x50_4 : Int) p119 q119;replace p119 := eq_true p119;replace q119 := eq_true q119;have n_ := Aside0.mk (Kd.R_mono (ok' := (fun k_ => some k_ ≠ (.slice (some ⟨go115, 0, none⟩) x9_4.length co120 : Value).ownBlock)) HO_10.out (fun k_ hk => hk.2));clear HO_10;have HO_10 := n_;clear n_;obtain ⟨hy123_, hz123_⟩ := Kd.R_celln false HO_10.out (x50_4 : Int) (of_decide_eq_true (by assumption)) (of_decide_eq_true (by assumption));have HP123 := Kd.R_putg HO_10.out (x50_4 : Int) true)|((with_reducible refine gate_store (t := 4) (p := 165) rfl ?_);refine store_event (t := 4) (p := 165) (v := ?vo_w124) (w1 := (w122.setCell ⟨go119, (x50_4 : Int).toNat, none⟩ (.bool true))) ?hg ?ho ?hn ?hr ?_;(case ho => rfl);(case hg => rfl);(case hn => rfl);(case hr => first|(go_simp;done)|(go_simp;rfl));intro w124 hw;have hg : w122.grownBy w124 (some go119) := (by rw [hw];exact HP123.2);have hp_ : Kd.R Kd.bool 4 w124 w.heap.size (fun k_ => some k_ ≠ (.slice (some ⟨go115, 0, none⟩) x9_4.length co120 : Value).ownBlock) (.slice (some ⟨go119, 0, none⟩) x10_4.length co12) y279 := (by rw [hw, Ny279.out];exact HP123.1);clear HP123;have n0_ := Aside0.mk (Kd.R_after (v := (.slice (some ⟨go119, 0, none⟩) x10_4.length co12)) (v1 := (.slice (some ⟨go119, 0, none⟩) x10_4.length co12)) (ok := (fun _ => True)) (by (with_reducible repeat (first|apply Kd.R_alloc|apply Kd.R_drewN|apply Kd.R_drew));exact Kd.R_mono HO_9.out (fun _ hk => ⟨trivial, hk⟩)) hg (.inl rfl));have n1_ := Aside0.mk (hp_);have n2_ := Aside0.mk (blk_grown (g := gb251) (o := .cells #[.int .i64 a0_0, .slice (some ad260) l0_1.length c0_1] 24 (0, 0)) (by (with_reducible repeat (first|apply blk_drewN|apply blk_drew|apply blk_alloc));exact BK251.out) hg (Kd.R_ne HO_10.out BK251.out (by decide)));have n3_ := Aside0.mk (blk_grown (g := gb261) (o := .cells #[.int .i64 ((rd_T41 l0_1 x44_3).f0), .int .i64 ((rd_T41 l0_1 x44_3).f1), .int .i64 ((rd_T41 l0_1 x44_3).f2), .int .i32 ((rd_T41 l0_1 x44_3).f3)] 41 (0, 0)) (by (with_reducible repeat (first|apply blk_drewN|apply blk_drew|apply blk_alloc));exact BK261.out) hg (Kd.R_ne HO_10.out BK261.out (by decide)));have n4_ := Aside0.mk ((by rw [hw];exact below_set (HB.out) GB119.out : Below w.heap.size w w124));clear HO_9;clear HO_10;clear BK251;clear BK261;clear HB;have HO_9 := n0_;have HO_10 := n1_;have BK251 := n2_;have BK261 := n3_;have HB := n4_;clear n0_ n1_ n2_ n3_ n4_;clear hg hw hp_))
                                  (try simp only [← hl10_4])
                                  go_roundg kj79
                                  case measure => have := HK1.out;have := HK2.out;have := HK3.out;have := HK4.out;have := HJ27.out;have := HJ42.out;have := HJ48.out;have := HJ61.out;have := HJ79.out;omega
                                  case rel => exact ⟨(y277), (y279), (true), (wrap64 (x50_4 + 1)), (by first|rfl|(simp;done)|(simp [*];done)), (by first|rfl|(simp;done)|(simp [*];done)), H', ⟨by have := HK1.out;have := HK2.out;have := HK3.out;have := HK4.out;have := HJ27.out;have := HJ42.out;have := HJ48.out;have := HJ61.out;have := HJ79.out;omega⟩, ⟨by (try simp only [hl10_1]);(try simp only [hl10_2]);(try simp only [hl10_3]);(try simp only [hl10_4]);(with_reducible repeat (first|apply Kd.R_alloc|apply Kd.R_drewN|apply Kd.R_drew));exact Kd.R_mono HO_9.out (fun _ hk => hk.2)⟩, ⟨by (try simp only [hl10_1]);(try simp only [hl10_2]);(try simp only [hl10_3]);(try simp only [hl10_4]);(with_reducible repeat (first|apply Kd.R_alloc|apply Kd.R_drewN|apply Kd.R_drew));exact HO_10.out⟩, ⟨by (try simp only [hl10_1]);(try simp only [hl10_2]);(try simp only [hl10_3]);(try simp only [hl10_4]);(with_reducible repeat (first|apply blk_drewN|apply blk_drew|apply blk_alloc));exact BK251.out⟩, ⟨by repeat (first|(with_reducible first|exact HB.out|apply xa|apply xb|apply xc|refine below_set ?_ GE251.out|refine below_set ?_ GE261.out)|exact HB.out)⟩⟩
                                 ·replace c118 := Bool.eq_false_iff.mpr c118
                                  subst c118
                                  have H1 : (pinfoldref26_Held.l3 kj79 a1 a2 (l0_1.length : Int) y277 (x10_4.set (x50_4 : Int).toNat x19_61) true x44_3 (l0_1.length : Int) x44_3 (l0_1.length : Int) (wrap64 (x50_4 + 1)) a0_0 l0_1) = some (r1, r2) := by rw [if_neg (show ¬ (false = true) by decide)] at H;exact H
                                  clear H
                                  have H := H1
                                  clear H1
                                  obtain ⟨y280, hy280⟩ : ∃ y_ : List Bool, y_ = (x10_4.set (x50_4 : Int).toNat x19_61) := ⟨_, rfl⟩
                                  replace H : (pinfoldref26_Held.l3 kj79 a1 a2 (l0_1.length : Int) y277 y280 true x44_3 (l0_1.length : Int) x44_3 (l0_1.length : Int) (wrap64 (x50_4 + 1)) a0_0 l0_1) = some (r1, r2) := by first|(rw [hy280];with_reducible exact H)|(have H2_ := (Option.bind_some _ _).symm.trans H;rw [hy280];with_reducible exact H2_)|(have H2_ := (Option.bind_some _ _).symm.trans H;with_reducible exact H2_)|with_reducible exact H|(rw [hy280];exact H)|exact H
                                  have Ny280 := Aside0.mk hy280
                                  clear hy280
                                  have H' := Aside0.mk H
                                  clear H
                                  obtain ⟨Ao126, co126, eo126⟩ := Kd.R_slice HO_9.out
                                  subst eo126
                                  have p272 : 0 ≤ (x50_4 : Int) := of_decide_eq_true (by assumption)
                                  have q272 : x50_4 < (x9_4.length : Int) := of_decide_eq_true (by assumption)
                                  obtain ⟨ad272, e272, hx272_0⟩ := Kd.at_bool (Kd.R_reads' HO_9.out).2.2 x50_4 p272 q272
                                  (try rw [← Nbq97.out] at hx272_0)
                                  (try rw [← Nbq117.out] at hx272_0)
                                  cases e272
                                  replace p272 := eq_true p272
                                  replace q272 := eq_true q272
                                  have p115 : 0 ≤ (x50_4 : Int) := of_decide_eq_true (by assumption)
                                  have q115 : (x50_4 : Int) < ((x9_4.length : Int) : Int) := of_decide_eq_true (by assumption)
                                  obtain ⟨go115, co115, eo115, gb115, gl115, cl115, HG115⟩ := Kd.R_form HO_9.out (by omega)
                                  (first|cases eo115|(injection eo115 with ea_ en_ ec_;(first|subst ea_|(injection ea_ with ea_;subst ea_));subst ec_;clear en_))
                                  have GB115 := Aside0.mk gb115
                                  have GG115 := Aside0.mk HG115
                                  clear gb115 gl115 HG115
                                  (first|simp only [add_plain] at hx272_0|skip)
                                  obtain ⟨hx115_0, hf115_0⟩ := Kd.R_celln false HO_9.out (x50_4 : Int) p115 q115
                                  replace p115 := eq_true p115
                                  replace q115 := eq_true q115
                                  have HP127 := Kd.R_putg HO_9.out (x50_4 : Int) x18_48
                                  go_wp2_with (first|((with_reducible refine gate_store (t := 4) (p := 155) rfl ?_);refine store_event (t := 4) (p := 155) (v := ?vo_w128) (w1 := (wc.setCell ⟨go115, (x50_4 : Int).toNat, none⟩ (.bool x18_48))) ?hg ?ho ?hn ?hr ?_;(case ho => rfl);(case hg => rfl);(case hn => rfl);(case hr => first|(go_simp;done)|(go_simp;rfl));intro w128 hw;have hg : wc.grownBy w128 (some go115) := (by rw [hw];exact HP127.2);have hp_ : Kd.R Kd.bool 4 w128 w.heap.size (fun k_ => some k_ ≠ (.slice Ao12 x10_4.length co12 : Value).ownBlock) (.slice (some ⟨go115, 0, none⟩) x9_4.length co126) y277 := (by rw [hw, Ny277.out];exact HP127.1);clear HP127;have n0_ := Aside0.mk (hp_);have n1_ := Aside0.mk (Kd.R_after (v := (.slice (some ⟨go115, 0, none⟩) x9_4.length co126)) (v1 := (.slice (some ⟨go115, 0, none⟩) x9_4.length co126)) (ok := (fun _ => True)) (by (with_reducible repeat (first|apply Kd.R_alloc|apply Kd.R_drewN|apply Kd.R_drew));exact Kd.R_mono HO_10.out (fun _ hk => ⟨trivial, hk⟩)) hg (.inl rfl));have n2_ := Aside0.mk (blk_grown (g := gb251) (o := .cells #[.int .i64 a0_0, .slice (some ad260) l0_1.length c0_1] 24 (0, 0)) (by (with_reducible repeat (first|apply blk_drewN|apply blk_drew|apply blk_alloc));exact BK251.out) hg (Kd.R_ne HO_9.out BK251.out (by decide)));have n3_ := Aside0.mk (blk_grown (g := gb261) (o := .cells #[.int .i64 ((rd_T41 l0_1 x44_3).f0), .int .i64 ((rd_T41 l0_1 x44_3).f1), .int .i64 ((rd_T41 l0_1 x44_3).f2), .int .i32 ((rd_T41 l0_1 x44_3).f3)] 41 (0, 0)) (by (with_reducible repeat (first|apply blk_drewN|apply blk_drew|apply blk_alloc));exact BK261.out) hg (Kd.R_ne HO_9.out BK261.out (by decide)));have n4_ := Aside0.mk ((by rw [hw];exact below_set (HB.out) GB115.out : Below w.heap.size w w128));clear HO_9;clear HO_10;clear BK251;clear BK261;clear HB;have HO_9 := n0_;have HO_10 := n1_;have BK251 := n2_;have BK261 := n3_;have HB := n4_;clear n0_ n1_ n2_ n3_ n4_;clear hg hw hp_;have p278 : 0 ≤ (x50_4 : Int) := of_decide_eq_true (by assumption);have q278 : x50_4 < (x10_4.length : Int) := of_decide_eq_true (by assumption);obtain ⟨ad278, e278, hx278_0⟩ := Kd.at_bool (Kd.R_reads' HO_10.out).2.2 x50_4 p278 q278;(try rw [← Nbq97.out] at hx278_0);(try rw [← Nbq117.out] at hx278_0);cases e278;replace p278 := eq_true p278;replace q278 := eq_true q278;have p125 : 0 ≤ (x50_4 : Int) := of_decide_eq_true (by assumption);have q125 : (x50_4 : Int) < ((x10_4.length : Int) : Int) := of_decide_eq_true (by assumption);obtain ⟨go125, co125, eo125, gb125, gl125, cl125, HG125⟩ := Kd.R_form HO_10.out (by omega);(first|cases eo125|(injection eo125 with ea_ en_ ec_;(first|subst ea_|(injection ea_ with ea_;subst ea_));subst ec_;clear en_));have GB125 := Aside0.mk gb125;have GG125 := Aside0.mk HG125;clear gb125 gl125 HG125;(first|simp only [add_plain] at hx278_0|skip);obtain ⟨hx125_0, hf125_0⟩ := Kd.R_celln false HO_10.out (x50_4 : Int) p125 q125;replace p125 := eq_true p125;replace q125 := eq_true q125;have n_ := Aside0.mk (Kd.R_mono (ok' := (fun k_ => some k_ ≠ (.slice (some ⟨go115, 0, none⟩) x9_4.length co126 : Value).ownBlock)) HO_10.out (fun k_ hk => hk.2));clear HO_10;have HO_10 := n_;clear n_;obtain ⟨hy129_, hz129_⟩ := Kd.R_celln false HO_10.out (x50_4 : Int) (of_decide_eq_true (by assumption)) (of_decide_eq_true (by assumption));have HP129 := Kd.R_putg HO_10.out (x50_4 : Int) x19_61)|((with_reducible refine gate_store (t := 4) (p := 165) rfl ?_);refine store_event (t := 4) (p := 165) (v := ?vo_w130) (w1 := (w128.setCell ⟨go125, (x50_4 : Int).toNat, none⟩ (.bool x19_61))) ?hg ?ho ?hn ?hr ?_;(case ho => rfl);(case hg => rfl);(case hn => rfl);(case hr => first|(go_simp;done)|(go_simp;rfl));intro w130 hw;have hg : w128.grownBy w130 (some go125) := (by rw [hw];exact HP129.2);have hp_ : Kd.R Kd.bool 4 w130 w.heap.size (fun k_ => some k_ ≠ (.slice (some ⟨go115, 0, none⟩) x9_4.length co126 : Value).ownBlock) (.slice (some ⟨go125, 0, none⟩) x10_4.length co12) y280 := (by rw [hw, Ny280.out];exact HP129.1);clear HP129;have n0_ := Aside0.mk (Kd.R_after (v := (.slice (some ⟨go125, 0, none⟩) x10_4.length co12)) (v1 := (.slice (some ⟨go125, 0, none⟩) x10_4.length co12)) (ok := (fun _ => True)) (by (with_reducible repeat (first|apply Kd.R_alloc|apply Kd.R_drewN|apply Kd.R_drew));exact Kd.R_mono HO_9.out (fun _ hk => ⟨trivial, hk⟩)) hg (.inl rfl));have n1_ := Aside0.mk (hp_);have n2_ := Aside0.mk (blk_grown (g := gb251) (o := .cells #[.int .i64 a0_0, .slice (some ad260) l0_1.length c0_1] 24 (0, 0)) (by (with_reducible repeat (first|apply blk_drewN|apply blk_drew|apply blk_alloc));exact BK251.out) hg (Kd.R_ne HO_10.out BK251.out (by decide)));have n3_ := Aside0.mk (blk_grown (g := gb261) (o := .cells #[.int .i64 ((rd_T41 l0_1 x44_3).f0), .int .i64 ((rd_T41 l0_1 x44_3).f1), .int .i64 ((rd_T41 l0_1 x44_3).f2), .int .i32 ((rd_T41 l0_1 x44_3).f3)] 41 (0, 0)) (by (with_reducible repeat (first|apply blk_drewN|apply blk_drew|apply blk_alloc));exact BK261.out) hg (Kd.R_ne HO_10.out BK261.out (by decide)));have n4_ := Aside0.mk ((by rw [hw];exact below_set (HB.out) GB125.out : Below w.heap.size w w130));clear HO_9;clear HO_10;clear BK251;clear BK261;clear HB;have HO_9 := n0_;have HO_10 := n1_;have BK251 := n2_;have BK261 := n3_;have HB := n4_;clear n0_ n1_ n2_ n3_ n4_;clear hg hw hp_))
                                  (try simp only [← hl10_4])
                                  go_roundg kj79
                                  case measure => have := HK1.out;have := HK2.out;have := HK3.out;have := HK4.out;have := HJ27.out;have := HJ42.out;have := HJ48.out;have := HJ61.out;have := HJ79.out;omega
                                  case rel => exact ⟨(y277), (y280), (true), (wrap64 (x50_4 + 1)), (by first|rfl|(simp;done)|(simp [*];done)), (by first|rfl|(simp;done)|(simp [*];done)), H', ⟨by have := HK1.out;have := HK2.out;have := HK3.out;have := HK4.out;have := HJ27.out;have := HJ42.out;have := HJ48.out;have := HJ61.out;have := HJ79.out;omega⟩, ⟨by (try simp only [hl10_1]);(try simp only [hl10_2]);(try simp only [hl10_3]);(try simp only [hl10_4]);(with_reducible repeat (first|apply Kd.R_alloc|apply Kd.R_drewN|apply Kd.R_drew));exact Kd.R_mono HO_9.out (fun _ hk => hk.2)⟩, ⟨by (try simp only [hl10_1]);(try simp only [hl10_2]);(try simp only [hl10_3]);(try simp only [hl10_4]);(with_reducible repeat (first|apply Kd.R_alloc|apply Kd.R_drewN|apply Kd.R_drew));exact HO_10.out⟩, ⟨by (try simp only [hl10_1]);(try simp only [hl10_2]);(try simp only [hl10_3]);(try simp only [hl10_4]);(with_reducible repeat (first|apply blk_drewN|apply blk_drew|apply blk_alloc));exact BK251.out⟩, ⟨by repeat (first|(with_reducible first|exact HB.out|apply xa|apply xb|apply xc|refine below_set ?_ GE251.out|refine below_set ?_ GE261.out)|exact HB.out)⟩⟩
                                ·rw [if_neg c116] at H
                                 exact absurd H (by simp)
                              ·rw [if_neg c96] at H
                               exact absurd H (by simp)
                             ·rw [if_neg c95] at H
                              exact absurd H (by simp)
                            ·replace c94 := Bool.eq_false_iff.mpr c94
                             subst c94
                             have H1 : (pinfoldref26_Held.l3 kj79 a1 a2 (l0_1.length : Int) x9_4 x10_4 x12_4 x44_3 (l0_1.length : Int) x44_3 (l0_1.length : Int) (wrap64 (x50_4 + 1)) a0_0 l0_1) = some (r1, r2) := by rw [if_neg (show ¬ (false = true) by decide)] at H;exact H
                             clear H
                             have H := H1
                             clear H1
                             have H' := Aside0.mk H
                             clear H
                             go_wp2
                             (try simp only [← hl10_4])
                             go_roundg kj79
                             case measure => have := HK1.out;have := HK2.out;have := HK3.out;have := HK4.out;have := HJ27.out;have := HJ42.out;have := HJ48.out;have := HJ61.out;have := HJ79.out;omega
                             case rel => exact ⟨(x9_4), (x10_4), (x12_4), (wrap64 (x50_4 + 1)), (by first|rfl|(simp;done)|(simp [*];done)), (by first|rfl|(simp;done)|(simp [*];done)), H', ⟨by have := HK1.out;have := HK2.out;have := HK3.out;have := HK4.out;have := HJ27.out;have := HJ42.out;have := HJ48.out;have := HJ61.out;have := HJ79.out;omega⟩, ⟨by (try simp only [hl10_1]);(try simp only [hl10_2]);(try simp only [hl10_3]);(try simp only [hl10_4]);(with_reducible repeat (first|apply Kd.R_alloc|apply Kd.R_drewN|apply Kd.R_drew));exact HO_9.out⟩, ⟨by (try simp only [hl10_1]);(try simp only [hl10_2]);(try simp only [hl10_3]);(try simp only [hl10_4]);(with_reducible repeat (first|apply Kd.R_alloc|apply Kd.R_drewN|apply Kd.R_drew));exact HO_10.out⟩, ⟨by (try simp only [hl10_1]);(try simp only [hl10_2]);(try simp only [hl10_3]);(try simp only [hl10_4]);(with_reducible repeat (first|apply blk_drewN|apply blk_drew|apply blk_alloc));exact BK251.out⟩, ⟨by repeat (first|(with_reducible first|exact HB.out|apply xa|apply xb|apply xc|refine below_set ?_ GE251.out|refine below_set ?_ GE261.out)|exact HB.out)⟩⟩
                 ·rw [if_neg c27] at H
                  exact absurd H (by simp)
                ·rw [if_neg c26] at H
                 exact absurd H (by simp)
               ·replace c25 := Bool.eq_false_iff.mpr c25
                subst c25
                have H1 : (pinfoldref26_Held.l3 k4 a1 a2 (l0_1.length : Int) x9_4 x10_4 x12_4 x44_3 (l0_1.length : Int) x44_3 (l0_1.length : Int) (wrap64 (x50_4 + 1)) a0_0 l0_1) = some (r1, r2) := by rw [if_neg (show ¬ (false = true) by decide)] at H;exact H
                clear H
                have H := H1
                clear H1
                have H' := Aside0.mk H
                clear H
                have hcz131_0 : wr.cell? ⟨gb251, 0, none⟩ = some (.int .i64 a0_0) := (blk_cell BK251.out 0).trans rfl
                have hcz131_1 : wr.cell? ⟨gb251, 1, none⟩ = some (.slice A0_1 l0_1.length c0_1) := (blk_cell BK251.out 1).trans rfl
                have hfz131_0 := blk_frozen BK251.out 0
                have hfz131_1 := blk_frozen BK251.out 1
                go_wp2_with (first|((with_reducible refine gate_callee (f := 17) rfl ?_);refine goesL_ (some 56) rfl rfl Try.func17 (by kernel_rfl) rfl #[.agg #[.int .i64 a0_0, .slice A0_1 l0_1.length c0_1], .int .i64 x44_3, .int .i64 x50_4] rfl (by (try simp only [List.map_toArray, List.map_cons, List.map_nil]);first|done|rfl|(simp only [List.length_drop, List.length_take];rfl)) ?_;(with_reducible refine (pinfoldref26_Goes.calls a0_0 _ _ l0_1 x44_3 x50_4 false _ ?side1 ?side2 A24.out).mono ?_);(case side1 => repeat (first|exact (Kd.C_below HR0_1.out HB.out)|(with_reducible refine Kd.C_alloc ?_ _)|(with_reducible refine Kd.C_drewN ?_ _)|(with_reducible refine Kd.C_drew ?_)));(case side2 => exact HC0_1.out);rintro e w132 ⟨rfl, hb⟩;refine ⟨_, rfl, ?_⟩;have n0_ := Aside0.mk (Kd.R_below (by (with_reducible repeat (first|apply Kd.R_alloc|apply Kd.R_drewN|apply Kd.R_drew));exact HO_9.out) hb);have n1_ := Aside0.mk (Kd.R_below (by (with_reducible repeat (first|apply Kd.R_alloc|apply Kd.R_drewN|apply Kd.R_drew));exact HO_10.out) hb);have n2_ := Aside0.mk (blk_below (g := gb251) (o := .cells #[.int .i64 a0_0, .slice A0_1 l0_1.length c0_1] 24 (0, 0)) (by (with_reducible repeat (first|apply blk_drewN|apply blk_drew|apply blk_alloc));exact BK251.out) hb);have n3_ := Aside0.mk (below_step (by repeat (first|(with_reducible first|exact HB.out|apply xa|apply xb|apply xc|refine below_set ?_ GE251.out)|exact HB.out)) hb);clear HO_9;clear HO_10;clear BK251;clear HB;have HO_9 := n0_;have HO_10 := n1_;have BK251 := n2_;have HB := n3_;clear n0_ n1_ n2_ n3_;(try clear hb);(try clear hb2);(try clear hk);(try clear hi)))
                (try simp only [← hl10_4])
                (try simp only [px_add0] at *)
                go_roundg k4
                case measure => have := HK1.out;have := HK2.out;have := HK3.out;have := HK4.out;omega
                case rel => exact ⟨(x9_4), (x10_4), (x12_4), (wrap64 (x50_4 + 1)), (by first|rfl|(simp;done)|(simp [*];done)), (by first|rfl|(simp;done)|(simp [*];done)), H', ⟨by have := HK1.out;have := HK2.out;have := HK3.out;have := HK4.out;omega⟩, ⟨by (try simp only [hl10_1]);(try simp only [hl10_2]);(try simp only [hl10_3]);(try simp only [hl10_4]);(with_reducible repeat (first|apply Kd.R_alloc|apply Kd.R_drewN|apply Kd.R_drew));exact HO_9.out⟩, ⟨by (try simp only [hl10_1]);(try simp only [hl10_2]);(try simp only [hl10_3]);(try simp only [hl10_4]);(with_reducible repeat (first|apply Kd.R_alloc|apply Kd.R_drewN|apply Kd.R_drew));exact HO_10.out⟩, ⟨by (try simp only [hl10_1]);(try simp only [hl10_2]);(try simp only [hl10_3]);(try simp only [hl10_4]);(with_reducible repeat (first|apply blk_drewN|apply blk_drew|apply blk_alloc));exact BK251.out⟩, ⟨by repeat (first|(with_reducible first|exact HB.out|apply xa|apply xb|apply xc|refine below_set ?_ GE251.out)|exact HB.out)⟩⟩
              ·rw [if_neg c23] at H
               have c23b0 : decide (x50_4 < (l0_1.length : Int)) = false := decide_eq_false c23
               clear c23
               have H' := Aside0.mk H
               clear H
               go_wp2
               (try simp only [← hl10_3, ← hl10_4])
               (try simp only [px_add0] at *)
               go_roundg k4
               case measure => have := HK1.out;have := HK2.out;have := HK3.out;have := HK4.out;omega
               case rel => exact ⟨(x9_4), (x10_4), (x12_4), (wrap64 (x44_3 + 1)), (by first|rfl|(simp;done)|(simp [*];done)), (by first|rfl|(simp;done)|(simp [*];done)), H', ⟨by have := HK1.out;have := HK2.out;have := HK3.out;have := HK4.out;omega⟩, ⟨by (try simp only [hl10_1]);(try simp only [hl10_2]);(try simp only [hl10_3]);(try simp only [hl10_4]);(with_reducible repeat (first|apply Kd.R_alloc|apply Kd.R_drewN|apply Kd.R_drew));exact HO_9.out⟩, ⟨by (try simp only [hl10_1]);(try simp only [hl10_2]);(try simp only [hl10_3]);(try simp only [hl10_4]);(with_reducible repeat (first|apply Kd.R_alloc|apply Kd.R_drewN|apply Kd.R_drew));exact HO_10.out⟩, ⟨by (try simp only [hl10_1]);(try simp only [hl10_2]);(try simp only [hl10_3]);(try simp only [hl10_4]);(with_reducible repeat (first|apply blk_drewN|apply blk_drew|apply blk_alloc));exact BK251.out⟩, ⟨by repeat (first|(with_reducible first|exact HB.out|apply xa|apply xb|apply xc|refine below_set ?_ GE251.out)|exact HB.out)⟩⟩
           ·rw [if_neg c21] at H
            have c21b0 : decide (x44_3 < (l0_1.length : Int)) = false := decide_eq_false c21
            clear c21
            have H' := Aside0.mk H
            clear H
            go_wp2
            (try simp only [← hl10_2, ← hl10_3])
            (try simp only [px_add0] at *)
            go_roundg k3
            case measure => have := HK1.out;have := HK2.out;have := HK3.out;omega
            case rel => exact ⟨(x9_3), (x10_3), (x12_3), (by first|rfl|(simp;done)|(simp [*];done)), H', ⟨by have := HK1.out;have := HK2.out;have := HK3.out;omega⟩, ⟨by (try simp only [hl10_1]);(try simp only [hl10_2]);(try simp only [hl10_3]);(with_reducible repeat (first|apply Kd.R_alloc|apply Kd.R_drewN|apply Kd.R_drew));exact HO_9.out⟩, ⟨by (try simp only [hl10_1]);(try simp only [hl10_2]);(try simp only [hl10_3]);(with_reducible repeat (first|apply Kd.R_alloc|apply Kd.R_drewN|apply Kd.R_drew));exact HO_10.out⟩, ⟨by (try simp only [hl10_1]);(try simp only [hl10_2]);(try simp only [hl10_3]);(with_reducible repeat (first|apply blk_drewN|apply blk_drew|apply blk_alloc));exact BK251.out⟩, ⟨by repeat (first|(with_reducible first|exact HB.out|apply xa|apply xb|apply xc|refine below_set ?_ GE251.out)|exact HB.out)⟩⟩
        ·replace c19 := Bool.eq_false_iff.mpr c19
         subst c19
         have H1 : (if 0 ≤ (l0_1.length : Int) then (if ((l0_1.length : Int) : Int).toNat ≤ 281474976710656 then ((some (List.replicate ((l0_1.length : Int) : Int).toNat false : List Bool)).bind fun y281 => (pinfoldref26_Held.l4 k2 x9_2 x10_2 y281 (y281.length : Int) 0)) else (none)) else (none)) = some (r1, r2) := by rw [if_neg (show ¬ (false = true) by decide)] at H;exact H
         clear H
         have H := H1
         clear H1
         by_cases c133 : 0 ≤ (l0_1.length : Int)
         ·rw [if_pos c133] at H
          have c133b0 := eq_true c133
          have c133b1 : decide (0 ≤ (l0_1.length : Int)) = true := decide_eq_true c133
          clear c133
          by_cases c134 : ((l0_1.length : Int) : Int).toNat ≤ 281474976710656
          ·rw [if_pos c134] at H
           have c134b0 := eq_true c134
           have c134b1 : decide (((l0_1.length : Int) : Int).toNat ≤ 281474976710656) = true := decide_eq_true c134
           clear c134
           obtain ⟨y281, hy281⟩ : ∃ y_ : List Bool, y_ = (List.replicate ((l0_1.length : Int) : Int).toNat false) := ⟨_, rfl⟩
           replace H : (pinfoldref26_Held.l4 k2 x9_2 x10_2 y281 (y281.length : Int) 0) = some (r1, r2) := by first|(rw [hy281];with_reducible exact H)|(have H2_ := (Option.bind_some _ _).symm.trans H;rw [hy281];with_reducible exact H2_)|(have H2_ := (Option.bind_some _ _).symm.trans H;with_reducible exact H2_)|with_reducible exact H|(rw [hy281];exact H)|exact H
           have Ny281 := Aside0.mk hy281
           clear hy281
           have H' := Aside0.mk H
           clear H
           go_wp2_with (first|((with_reducible refine gate_dst (N := 169) rfl ?_);refine Kd.R_make Kd.bool _ 4 rfl (N := 169) rfl 29 _ _ rfl (l0_1.length : Int) rfl rfl Try.underlying29 (.bool false) 1 info4 rfl (by decide) (by omega) false (ok := fun _ => True) (okp := fun _ => True) rfl (fun _ hk => hk) trivial (of_decide_eq_true (by assumption)) (Nat.le_trans (Nat.mul_le_mul_right _ (of_decide_eq_true (by assumption) : (l0_1.length : Int).toNat ≤ 281474976710656)) (by omega)) (Below.refl _ _) (Nat.le_refl _) ?_;intro v282 w135 ho136 hb hg_ hnew_;clear hg_ hnew_;(first|rw [← Ny281.out] at ho136|(simp only [Int.reduceToNat] at ho136;rw [← Ny281.out] at ho136));have n0_ := Aside0.mk (Kd.R_elder' (by (with_reducible repeat (first|apply Kd.R_alloc|apply Kd.R_drewN|apply Kd.R_drew));exact HO_9.out) (Kd.R_base ho136) hb);have n1_ := Aside0.mk (Kd.R_elder' (by (with_reducible repeat (first|apply Kd.R_alloc|apply Kd.R_drewN|apply Kd.R_drew));exact HO_10.out) (Kd.R_base ho136) hb);have n2_ := Aside0.mk (Kd.R_lower (Kd.R_new' (Kd.R_new' ho136 (Kd.R_lt (by (with_reducible repeat (first|apply Kd.R_alloc|apply Kd.R_drewN|apply Kd.R_drew));exact HO_9.out))) (Kd.R_lt (by (with_reducible repeat (first|apply Kd.R_alloc|apply Kd.R_drewN|apply Kd.R_drew));exact HO_10.out))) (below_size (by repeat (first|(with_reducible first|exact HB.out|apply xa|apply xb|apply xc|refine below_set ?_ GE251.out)|exact HB.out))));have n3_ := Aside0.mk (blk_below (g := gb251) (o := .cells #[.int .i64 a0_0, .slice A0_1 l0_1.length c0_1] 24 (0, 0)) (by (with_reducible repeat (first|apply blk_drewN|apply blk_drew|apply blk_alloc));exact BK251.out) hb);have n4_ := Aside0.mk (below_step (by repeat (first|(with_reducible first|exact HB.out|apply xa|apply xb|apply xc|refine below_set ?_ GE251.out)|exact HB.out)) hb);clear HO_9;clear HO_10;clear BK251;clear HB;have HO_9 := n0_;have HO_10 := n1_;have HO283 := n2_;have BK251 := n3_;have HB := n4_;clear n0_ n1_ n2_ n3_ n4_;clear hb ho136;obtain ⟨Ao137, co137, eo137⟩ := Kd.R_slice HO283.out;subst eo137))
           go_loopg [172] k2 (fun kq v172 w' => ∃ (x20_3 : List Bool) (x172_3 : Int), v172 = .int .i64 x172_3 ∧ Aside0 (pinfoldref26_Held.l4 kq x9_2 x10_2 x20_3 (y281.length : Int) x172_3 = some (r1, r2)) ∧ Aside0 (kq ≤ k2) ∧ Aside0 (Kd.R Kd.bool 4 w' w.heap.size (fun k_ => some k_ ≠ ((.slice Ao12 x10_2.length co12) : Value).ownBlock ∧ some k_ ≠ ((.slice Ao137 y281.length co137) : Value).ownBlock) v253 x9_2) ∧ Aside0 (Kd.R Kd.bool 4 w' w.heap.size (fun k_ => some k_ ≠ (v253 : Value).ownBlock ∧ some k_ ≠ ((.slice Ao137 y281.length co137) : Value).ownBlock) (.slice Ao12 x10_2.length co12) x10_2) ∧ Aside0 (Kd.R Kd.bool 4 w' w.heap.size (fun k_ => some k_ ≠ (v253 : Value).ownBlock ∧ some k_ ≠ ((.slice Ao12 x10_2.length co12) : Value).ownBlock) (.slice Ao137 y281.length co137) x20_3) ∧ Aside0 (w'.heap[gb251]? = some (.cells #[.int .i64 a0_0, (.slice A0_1 l0_1.length c0_1)] 24 (0, 0))) ∧ Aside0 (Below w.heap.size w w'))
           case atStart => exact ⟨(y281), (0), (by first|rfl|(simp;done)|(simp [*];done)), H', ⟨Nat.le_refl _⟩, ⟨by (try simp only [hl10_1]);(try simp only [hl10_2]);(with_reducible repeat (first|apply Kd.R_alloc|apply Kd.R_drewN|apply Kd.R_drew));exact HO_9.out⟩, ⟨by (try simp only [hl10_1]);(try simp only [hl10_2]);(with_reducible repeat (first|apply Kd.R_alloc|apply Kd.R_drewN|apply Kd.R_drew));exact HO_10.out⟩, ⟨by (try simp only [hl10_1]);(try simp only [hl10_2]);(with_reducible repeat (first|apply Kd.R_alloc|apply Kd.R_drewN|apply Kd.R_drew));exact Kd.R_mono HO283.out (fun _ hk => ⟨hk.1.2, hk.2⟩)⟩, ⟨by (try simp only [hl10_1]);(try simp only [hl10_2]);(with_reducible repeat (first|apply blk_drewN|apply blk_drew|apply blk_alloc));exact BK251.out⟩, ⟨by repeat (first|(with_reducible first|exact HB.out|apply xa|apply xb|apply xc|refine below_set ?_ GE251.out)|exact HB.out)⟩⟩
           case round => as_aux_lemma =>
            clear H'
            try clear c1
            try clear p1
            try clear q1
            try clear hx1
            try clear c2
            try clear p2
            try clear q2
            try clear hx2
            try clear c3
            try clear c4
            try clear c4b0
            try clear c4b1
            try clear c5
            try clear c5b0
            try clear c5b1
            try clear q5
            try clear c6
            try clear p6
            try clear q6
            try clear c7
            try clear q7
            try clear c8
            try clear q8
            try clear c9
            try clear p9
            try clear q9
            try clear hx9
            try clear hf9
            try clear c10
            try clear p10
            try clear q10
            try clear hx10
            try clear hf10
            try clear c11
            try clear p11
            try clear q11
            try clear hx11
            try clear hf11
            try clear p12
            try clear q12
            try clear hx12
            try clear hf12
            try clear c13
            try clear c13b0
            try clear c14
            try clear c14b0
            try clear c15
            try clear c15b0
            try clear p16
            try clear q16
            try clear hx16
            try clear hf16
            try clear c17
            try clear c19
            try clear c21
            try clear c21b0
            try clear c23
            try clear c23b0
            try clear c25
            try clear c26
            try clear c26b0
            try clear p26
            try clear q26
            try clear hx26
            try clear c27
            try clear c27b0
            try clear p27
            try clear q27
            try clear hx27
            try clear c33
            try clear c35
            try clear c35b0
            try clear c35b1
            try clear c36
            try clear c36b0
            try clear c36b1
            try clear c37
            try clear c39
            try clear c41
            try clear c44
            try clear c44b0
            try clear c44b1
            try clear c45
            try clear c47
            try clear c50
            try clear c50b0
            try clear c51
            try clear c51b0
            try clear q52
            try clear c53
            try clear c55
            try clear c56
            try clear c56b0
            try clear q57
            try clear c58
            try clear c63
            try clear c63b0
            try clear c64
            try clear c64b0
            try clear p64
            try clear q65
            try clear c66
            try clear c67
            try clear c68
            try clear c69
            try clear c69b0
            try clear q70
            try clear c71
            try clear c74
            try clear c75
            try clear c75b0
            try clear q76
            try clear c77
            try clear c81
            try clear c82
            try clear c82b0
            try clear c83
            try clear c83b0
            try clear q84
            try clear c85
            try clear c86
            try clear c87
            try clear c87b0
            try clear c91
            try clear c92
            try clear c92b0
            try clear c93
            try clear c93b0
            try clear c94
            try clear c95
            try clear c95b0
            try clear c96
            try clear c96b0
            try clear q97
            try clear c98
            try clear p99
            try clear q99
            try clear hx99
            try clear hf99
            try clear c100
            try clear c100b0
            try clear q101
            try clear c102
            try clear p103
            try clear q103
            try clear hx103
            try clear hf103
            try clear p109
            try clear q109
            try clear hx109
            try clear hf109
            try clear p115
            try clear q115
            try clear hx115
            try clear hf115
            try clear c116
            try clear c116b0
            try clear q117
            try clear c118
            try clear p119
            try clear q119
            try clear hx119
            try clear hf119
            try clear p125
            try clear q125
            try clear hx125
            try clear hf125
            try clear c133
            try clear c133b0
            try clear c133b1
            try clear c134
            try clear c134b0
            try clear c134b1
            try clear hcz131_0
            try clear hcz131_1
            try clear hcz20_0
            try clear hcz20_1
            try clear hcz22_0
            try clear hcz22_1
            try clear hcz29_0
            try clear hcz29_1
            try clear hcz31_0
            try clear hcz31_1
            try clear hcz34_0
            try clear hcz34_1
            try clear hcz34_2
            try clear hcz34_3
            try clear hcz38_0
            try clear hcz38_1
            try clear hcz38_2
            try clear hcz38_3
            try clear hcz40_0
            try clear hcz40_1
            try clear hcz40_2
            try clear hcz40_3
            try clear hcz42_0
            try clear hcz42_1
            try clear hcz42_2
            try clear hcz42_3
            try clear hcz46_0
            try clear hcz46_1
            try clear hcz46_2
            try clear hcz46_3
            try clear hcz48_0
            try clear hcz48_1
            try clear hcz48_2
            try clear hcz48_3
            try clear hcz7_0
            try clear hcz7_1
            try clear hfz131_0
            try clear hfz131_1
            try clear hfz20_0
            try clear hfz20_1
            try clear hfz22_0
            try clear hfz22_1
            try clear hfz29_0
            try clear hfz29_1
            try clear hfz31_0
            try clear hfz31_1
            try clear hfz34_0
            try clear hfz34_1
            try clear hfz34_2
            try clear hfz34_3
            try clear hfz38_0
            try clear hfz38_1
            try clear hfz38_2
            try clear hfz38_3
            try clear hfz40_0
            try clear hfz40_1
            try clear hfz40_2
            try clear hfz40_3
            try clear hfz42_0
            try clear hfz42_1
            try clear hfz42_2
            try clear hfz42_3
            try clear hfz46_0
            try clear hfz46_1
            try clear hfz46_2
            try clear hfz46_3
            try clear hfz48_0
            try clear hfz48_1
            try clear hfz48_2
            try clear hfz48_3
            try clear hfz7_0
            try clear hfz7_1
            try clear hx103_0
            try clear hx109_0
            try clear hx115_0
            try clear hx119_0
            try clear hx125_0
            try clear hx16_0
            try clear hx260_0
            try clear hx260_1
            try clear hx260_2
            try clear hx260_3
            try clear hx262_0
            try clear hx263_0
            try clear hx264_0
            try clear hx265_0
            try clear hx266_0
            try clear hx267_0
            try clear hx268_0
            try clear hx269_0
            try clear hx270_0
            try clear hx271_0
            try clear hx272_0
            try clear hx274_0
            try clear hx278_0
            try clear hx99_0
            try clear p1
            try clear p103
            try clear p109
            try clear p115
            try clear p119
            try clear p125
            try clear p16
            try clear p2
            try clear p26
            try clear p260
            try clear p262
            try clear p263
            try clear p264
            try clear p265
            try clear p266
            try clear p267
            try clear p268
            try clear p269
            try clear p27
            try clear p270
            try clear p271
            try clear p272
            try clear p274
            try clear p278
            try clear p6
            try clear p99
            try clear q1
            try clear q103
            try clear q109
            try clear q115
            try clear q119
            try clear q125
            try clear q16
            try clear q2
            try clear q26
            try clear q260
            try clear q262
            try clear q263
            try clear q264
            try clear q265
            try clear q266
            try clear q267
            try clear q268
            try clear q269
            try clear q27
            try clear q270
            try clear q271
            try clear q272
            try clear q274
            try clear q278
            try clear q5
            try clear q52
            try clear q57
            try clear q6
            try clear q65
            try clear q7
            try clear q70
            try clear q76
            try clear q8
            try clear q84
            try clear q99
            obtain ⟨x20_3, x172_3, rfl, HA, HK3, HO_9, HO_10, HO_20, BK251, HB⟩ := hrel
            have hl20_3 := (Kd.R_reads' HO_20.out).1
            rw [hl20_3] at HO_20
            (try simp only [hl20_3])
            (try simp only [hl20_3] at BK251)
            (try simp only [hl20_3] at HO_9)
            (try simp only [hl20_3] at HO_10)
            cases gk with
            | zero => exact absurd HA.out (by simp [pinfoldref26_Held.l4])
            | succ k3 =>
             have H := HA.out
             clear HA
             simp only [pinfoldref26_Held.l4] at H
             by_cases c138 : x172_3 < (y281.length : Int)
             ·rw [if_pos c138] at H
              have c138b0 : decide (x172_3 < (y281.length : Int)) = true := decide_eq_true c138
              have c138b9 := c138b0
              (try simp only [hl10_1] at c138b9)
              (try simp only [hl10_2] at c138b9)
              (try simp only [hl20_3] at c138b9)
              clear c138
              by_cases c139 : 0 ≤ x172_3
              ·rw [if_pos c139] at H
               have c139b0 : decide (0 ≤ x172_3) = true := decide_eq_true c139
               clear c139
               by_cases c140 : x172_3 < (x9_2.length : Int)
               ·rw [if_pos c140] at H
                have c140b0 : decide (x172_3 < (x9_2.length : Int)) = true := decide_eq_true c140
                have c140b9 := c140b0
                (try simp only [hl10_1] at c140b9)
                (try simp only [hl10_2] at c140b9)
                (try simp only [hl20_3] at c140b9)
                clear c140
                obtain ⟨bq141, hbq141⟩ : ∃ b_ : Bool, b_ = (rdOf false x9_2 x172_3) := ⟨_, rfl⟩
                replace H : (if bq141 = true then (if x172_3 < (x10_2.length : Int) then (if x172_3 < (x20_3.length : Int) then (pinfoldref26_Held.l4 k3 x9_2 x10_2 (x20_3.set (x172_3 : Int).toNat (!(rdOf false x10_2 x172_3))) (y281.length : Int) (wrap64 (x172_3 + 1))) else (none)) else (none)) else (if x172_3 < (x20_3.length : Int) then (pinfoldref26_Held.l4 k3 x9_2 x10_2 (x20_3.set (x172_3 : Int).toNat false) (y281.length : Int) (wrap64 (x172_3 + 1))) else (none))) = some (r1, r2) := by rw [← hbq141] at H;exact H
                have Nbq141 := Aside0.mk hbq141
                (try rw [← Nbq141.out] at c138b0)
                (try rw [← Nbq141.out] at c138b1)
                (try rw [← Nbq141.out] at c138b2)
                (try rw [← Nbq141.out] at c138b3)
                (try rw [← Nbq141.out] at c139b0)
                (try rw [← Nbq141.out] at c139b1)
                (try rw [← Nbq141.out] at c139b2)
                (try rw [← Nbq141.out] at c139b3)
                (try rw [← Nbq141.out] at c140b0)
                (try rw [← Nbq141.out] at c140b1)
                (try rw [← Nbq141.out] at c140b2)
                (try rw [← Nbq141.out] at c140b3)
                clear hbq141
                by_cases c142 : bq141 = true
                ·subst c142
                 have H1 : (if x172_3 < (x10_2.length : Int) then (if x172_3 < (x20_3.length : Int) then (pinfoldref26_Held.l4 k3 x9_2 x10_2 (x20_3.set (x172_3 : Int).toNat (!(rdOf false x10_2 x172_3))) (y281.length : Int) (wrap64 (x172_3 + 1))) else (none)) else (none)) = some (r1, r2) := by rw [if_pos rfl] at H;exact H
                 clear H
                 have H := H1
                 clear H1
                 by_cases c143 : x172_3 < (x10_2.length : Int)
                 ·rw [if_pos c143] at H
                  have c143b0 : decide (x172_3 < (x10_2.length : Int)) = true := decide_eq_true c143
                  have c143b9 := c143b0
                  (try simp only [hl10_1] at c143b9)
                  (try simp only [hl10_2] at c143b9)
                  (try simp only [hl20_3] at c143b9)
                  clear c143
                  by_cases c144 : x172_3 < (x20_3.length : Int)
                  ·rw [if_pos c144] at H
                   have c144b0 : decide (x172_3 < (x20_3.length : Int)) = true := decide_eq_true c144
                   have c144b9 := c144b0
                   (try simp only [hl10_1] at c144b9)
                   (try simp only [hl10_2] at c144b9)
                   (try simp only [hl20_3] at c144b9)
                   clear c144
                   obtain ⟨y286, hy286⟩ : ∃ y_ : List Bool, y_ = (x20_3.set (x172_3 : Int).toNat (!(rdOf false x10_2 x172_3))) := ⟨_, rfl⟩
                   replace H : (pinfoldref26_Held.l4 k3 x9_2 x10_2 y286 (y281.length : Int) (wrap64 (x172_3 + 1))) = some (r1, r2) := by first|(rw [hy286];with_reducible exact H)|(have H2_ := (Option.bind_some _ _).symm.trans H;rw [hy286];with_reducible exact H2_)|(have H2_ := (Option.bind_some _ _).symm.trans H;with_reducible exact H2_)|with_reducible exact H|(rw [hy286];exact H)|exact H
                   have Ny286 := Aside0.mk hy286
                   clear hy286
                   have H' := Aside0.mk H
                   clear H
                   obtain ⟨Ao146, co146, eo146⟩ := Kd.R_slice HO_9.out
                   subst eo146
                   have p284 : 0 ≤ (x172_3 : Int) := of_decide_eq_true (by assumption)
                   have q284 : x172_3 < (x9_2.length : Int) := of_decide_eq_true (by assumption)
                   obtain ⟨ad284, e284, hx284_0⟩ := Kd.at_bool (Kd.R_reads' HO_9.out).2.2 x172_3 p284 q284
                   (try rw [← Nbq141.out] at hx284_0)
                   cases e284
                   replace p284 := eq_true p284
                   replace q284 := eq_true q284
                   have p285 : 0 ≤ (x172_3 : Int) := of_decide_eq_true (by assumption)
                   have q285 : x172_3 < (x10_2.length : Int) := of_decide_eq_true (by assumption)
                   obtain ⟨ad285, e285, hx285_0⟩ := Kd.at_bool (Kd.R_reads' HO_10.out).2.2 x172_3 p285 q285
                   (try rw [← Nbq141.out] at hx285_0)
                   cases e285
                   replace p285 := eq_true p285
                   replace q285 := eq_true q285
                   have p145 : 0 ≤ (x172_3 : Int) := of_decide_eq_true (by assumption)
                   have q145 : (x172_3 : Int) < ((x20_3.length : Int) : Int) := of_decide_eq_true (by assumption)
                   obtain ⟨go145, co145, eo145, gb145, gl145, cl145, HG145⟩ := Kd.R_form HO_20.out (by omega)
                   (first|cases eo145|(injection eo145 with ea_ en_ ec_;(first|subst ea_|(injection ea_ with ea_;subst ea_));subst ec_;clear en_))
                   have GB145 := Aside0.mk gb145
                   have GG145 := Aside0.mk HG145
                   clear gb145 gl145 HG145
                   obtain ⟨hx145_0, hf145_0⟩ := Kd.R_celln false HO_20.out (x172_3 : Int) p145 q145
                   replace p145 := eq_true p145
                   replace q145 := eq_true q145
                   have HP147 := Kd.R_putg HO_20.out (x172_3 : Int) (!(rdOf false x10_2 x172_3))
                   go_wp2_with (first|((with_reducible refine gate_store (t := 4) (p := 188) rfl ?_);refine store_event (t := 4) (p := 188) (v := ?vo_w148) (w1 := (wr.setCell ⟨go145, (x172_3 : Int).toNat, none⟩ (.bool (!(rdOf false x10_2 x172_3))))) ?hg ?ho ?hn ?hr ?_;(case ho => rfl);(case hg => rfl);(case hn => rfl);(case hr => first|(go_simp;done)|(go_simp;rfl));intro w148 hw;have hg : wr.grownBy w148 (some go145) := (by rw [hw];exact HP147.2);have hp_ : Kd.R Kd.bool 4 w148 w.heap.size (fun k_ => some k_ ≠ (.slice (some ad284) x9_2.length co146 : Value).ownBlock ∧ some k_ ≠ (.slice (some ad285) x10_2.length co12 : Value).ownBlock) (.slice (some ⟨go145, 0, none⟩) x20_3.length co137) y286 := (by rw [hw, Ny286.out];exact HP147.1);clear HP147;have n0_ := Aside0.mk (Kd.R_after (v := (.slice (some ⟨go145, 0, none⟩) x20_3.length co137)) (v1 := (.slice (some ⟨go145, 0, none⟩) x20_3.length co137)) (ok := (fun k_ => some k_ ≠ (.slice (some ad285) x10_2.length co12 : Value).ownBlock)) (by (with_reducible repeat (first|apply Kd.R_alloc|apply Kd.R_drewN|apply Kd.R_drew));exact HO_9.out) hg (.inl rfl));have n1_ := Aside0.mk (Kd.R_after (v := (.slice (some ⟨go145, 0, none⟩) x20_3.length co137)) (v1 := (.slice (some ⟨go145, 0, none⟩) x20_3.length co137)) (ok := (fun k_ => some k_ ≠ (.slice (some ad284) x9_2.length co146 : Value).ownBlock)) (by (with_reducible repeat (first|apply Kd.R_alloc|apply Kd.R_drewN|apply Kd.R_drew));exact HO_10.out) hg (.inl rfl));have n2_ := Aside0.mk (hp_);have n3_ := Aside0.mk (blk_grown (g := gb251) (o := .cells #[.int .i64 a0_0, .slice A0_1 l0_1.length c0_1] 24 (0, 0)) (by (with_reducible repeat (first|apply blk_drewN|apply blk_drew|apply blk_alloc));exact BK251.out) hg (Kd.R_ne HO_20.out BK251.out (by decide)));have n4_ := Aside0.mk ((by rw [hw];exact below_set (HB.out) GB145.out : Below w.heap.size w w148));clear HO_9;clear HO_10;clear HO_20;clear BK251;clear HB;have HO_9 := n0_;have HO_10 := n1_;have HO_20 := n2_;have BK251 := n3_;have HB := n4_;clear n0_ n1_ n2_ n3_ n4_;clear hg hw hp_))
                   (try simp only [← hl20_3])
                   (try simp only [px_add0] at *)
                   go_roundg k3
                   case measure => have := HK1.out;have := HK2.out;have := HK3.out;omega
                   case rel => exact ⟨(y286), (wrap64 (x172_3 + 1)), (by first|rfl|(simp;done)|(simp [*];done)), H', ⟨by have := HK1.out;have := HK2.out;have := HK3.out;omega⟩, ⟨by (try simp only [hl10_1]);(try simp only [hl10_2]);(try simp only [hl20_3]);(with_reducible repeat (first|apply Kd.R_alloc|apply Kd.R_drewN|apply Kd.R_drew));exact HO_9.out⟩, ⟨by (try simp only [hl10_1]);(try simp only [hl10_2]);(try simp only [hl20_3]);(with_reducible repeat (first|apply Kd.R_alloc|apply Kd.R_drewN|apply Kd.R_drew));exact HO_10.out⟩, ⟨by (try simp only [hl10_1]);(try simp only [hl10_2]);(try simp only [hl20_3]);(with_reducible repeat (first|apply Kd.R_alloc|apply Kd.R_drewN|apply Kd.R_drew));exact HO_20.out⟩, ⟨by (try simp only [hl10_1]);(try simp only [hl10_2]);(try simp only [hl20_3]);(with_reducible repeat (first|apply blk_drewN|apply blk_drew|apply blk_alloc));exact BK251.out⟩, ⟨by repeat (first|(with_reducible first|exact HB.out|apply xa|apply xb|apply xc|refine below_set ?_ GE251.out)|exact HB.out)⟩⟩
                  ·rw [if_neg c144] at H
                   exact absurd H (by simp)
                 ·rw [if_neg c143] at H
                  exact absurd H (by simp)
                ·replace c142 := Bool.eq_false_iff.mpr c142
                 subst c142
                 have H1 : (if x172_3 < (x20_3.length : Int) then (pinfoldref26_Held.l4 k3 x9_2 x10_2 (x20_3.set (x172_3 : Int).toNat false) (y281.length : Int) (wrap64 (x172_3 + 1))) else (none)) = some (r1, r2) := by rw [if_neg (show ¬ (false = true) by decide)] at H;exact H
                 clear H
                 have H := H1
                 clear H1
                 by_cases c149 : x172_3 < (x20_3.length : Int)
                 ·rw [if_pos c149] at H
                  have c149b0 : decide (x172_3 < (x20_3.length : Int)) = true := decide_eq_true c149
                  have c149b9 := c149b0
                  (try simp only [hl10_1] at c149b9)
                  (try simp only [hl10_2] at c149b9)
                  (try simp only [hl20_3] at c149b9)
                  clear c149
                  obtain ⟨y287, hy287⟩ : ∃ y_ : List Bool, y_ = (x20_3.set (x172_3 : Int).toNat false) := ⟨_, rfl⟩
                  replace H : (pinfoldref26_Held.l4 k3 x9_2 x10_2 y287 (y281.length : Int) (wrap64 (x172_3 + 1))) = some (r1, r2) := by first|(rw [hy287];with_reducible exact H)|(have H2_ := (Option.bind_some _ _).symm.trans H;rw [hy287];with_reducible exact H2_)|(have H2_ := (Option.bind_some _ _).symm.trans H;with_reducible exact H2_)|with_reducible exact H|(rw [hy287];exact H)|exact H
                  have Ny287 := Aside0.mk hy287
                  clear hy287
                  have H' := Aside0.mk H
                  clear H
                  obtain ⟨Ao151, co151, eo151⟩ := Kd.R_slice HO_9.out
                  subst eo151
                  have p284 : 0 ≤ (x172_3 : Int) := of_decide_eq_true (by assumption)
                  have q284 : x172_3 < (x9_2.length : Int) := of_decide_eq_true (by assumption)
                  obtain ⟨ad284, e284, hx284_0⟩ := Kd.at_bool (Kd.R_reads' HO_9.out).2.2 x172_3 p284 q284
                  (try rw [← Nbq141.out] at hx284_0)
                  cases e284
                  replace p284 := eq_true p284
                  replace q284 := eq_true q284
                  have p150 : 0 ≤ (x172_3 : Int) := of_decide_eq_true (by assumption)
                  have q150 : (x172_3 : Int) < ((x20_3.length : Int) : Int) := of_decide_eq_true (by assumption)
                  obtain ⟨go150, co150, eo150, gb150, gl150, cl150, HG150⟩ := Kd.R_form HO_20.out (by omega)
                  (first|cases eo150|(injection eo150 with ea_ en_ ec_;(first|subst ea_|(injection ea_ with ea_;subst ea_));subst ec_;clear en_))
                  have GB150 := Aside0.mk gb150
                  have GG150 := Aside0.mk HG150
                  clear gb150 gl150 HG150
                  obtain ⟨hx150_0, hf150_0⟩ := Kd.R_celln false HO_20.out (x172_3 : Int) p150 q150
                  replace p150 := eq_true p150
                  replace q150 := eq_true q150
                  have HP152 := Kd.R_putg HO_20.out (x172_3 : Int) false
                  go_wp2_with (first|((with_reducible refine gate_store (t := 4) (p := 188) rfl ?_);refine store_event (t := 4) (p := 188) (v := ?vo_w153) (w1 := (wr.setCell ⟨go150, (x172_3 : Int).toNat, none⟩ (.bool false))) ?hg ?ho ?hn ?hr ?_;(case ho => rfl);(case hg => rfl);(case hn => rfl);(case hr => first|(go_simp;done)|(go_simp;rfl));intro w153 hw;have hg : wr.grownBy w153 (some go150) := (by rw [hw];exact HP152.2);have hp_ : Kd.R Kd.bool 4 w153 w.heap.size (fun k_ => some k_ ≠ (.slice (some ad284) x9_2.length co151 : Value).ownBlock ∧ some k_ ≠ (.slice Ao12 x10_2.length co12 : Value).ownBlock) (.slice (some ⟨go150, 0, none⟩) x20_3.length co137) y287 := (by rw [hw, Ny287.out];exact HP152.1);clear HP152;have n0_ := Aside0.mk (Kd.R_after (v := (.slice (some ⟨go150, 0, none⟩) x20_3.length co137)) (v1 := (.slice (some ⟨go150, 0, none⟩) x20_3.length co137)) (ok := (fun k_ => some k_ ≠ (.slice Ao12 x10_2.length co12 : Value).ownBlock)) (by (with_reducible repeat (first|apply Kd.R_alloc|apply Kd.R_drewN|apply Kd.R_drew));exact HO_9.out) hg (.inl rfl));have n1_ := Aside0.mk (Kd.R_after (v := (.slice (some ⟨go150, 0, none⟩) x20_3.length co137)) (v1 := (.slice (some ⟨go150, 0, none⟩) x20_3.length co137)) (ok := (fun k_ => some k_ ≠ (.slice (some ad284) x9_2.length co151 : Value).ownBlock)) (by (with_reducible repeat (first|apply Kd.R_alloc|apply Kd.R_drewN|apply Kd.R_drew));exact HO_10.out) hg (.inl rfl));have n2_ := Aside0.mk (hp_);have n3_ := Aside0.mk (blk_grown (g := gb251) (o := .cells #[.int .i64 a0_0, .slice A0_1 l0_1.length c0_1] 24 (0, 0)) (by (with_reducible repeat (first|apply blk_drewN|apply blk_drew|apply blk_alloc));exact BK251.out) hg (Kd.R_ne HO_20.out BK251.out (by decide)));have n4_ := Aside0.mk ((by rw [hw];exact below_set (HB.out) GB150.out : Below w.heap.size w w153));clear HO_9;clear HO_10;clear HO_20;clear BK251;clear HB;have HO_9 := n0_;have HO_10 := n1_;have HO_20 := n2_;have BK251 := n3_;have HB := n4_;clear n0_ n1_ n2_ n3_ n4_;clear hg hw hp_))
                  (try simp only [← hl20_3])
                  (try simp only [px_add0] at *)
                  go_roundg k3
                  case measure => have := HK1.out;have := HK2.out;have := HK3.out;omega
                  case rel => exact ⟨(y287), (wrap64 (x172_3 + 1)), (by first|rfl|(simp;done)|(simp [*];done)), H', ⟨by have := HK1.out;have := HK2.out;have := HK3.out;omega⟩, ⟨by (try simp only [hl10_1]);(try simp only [hl10_2]);(try simp only [hl20_3]);(with_reducible repeat (first|apply Kd.R_alloc|apply Kd.R_drewN|apply Kd.R_drew));exact HO_9.out⟩, ⟨by (try simp only [hl10_1]);(try simp only [hl10_2]);(try simp only [hl20_3]);(with_reducible repeat (first|apply Kd.R_alloc|apply Kd.R_drewN|apply Kd.R_drew));exact HO_10.out⟩, ⟨by (try simp only [hl10_1]);(try simp only [hl10_2]);(try simp only [hl20_3]);(with_reducible repeat (first|apply Kd.R_alloc|apply Kd.R_drewN|apply Kd.R_drew));exact HO_20.out⟩, ⟨by (try simp only [hl10_1]);(try simp only [hl10_2]);(try simp only [hl20_3]);(with_reducible repeat (first|apply blk_drewN|apply blk_drew|apply blk_alloc));exact BK251.out⟩, ⟨by repeat (first|(with_reducible first|exact HB.out|apply xa|apply xb|apply xc|refine below_set ?_ GE251.out)|exact HB.out)⟩⟩
                 ·rw [if_neg c149] at H
                  exact absurd H (by simp)
               ·rw [if_neg c140] at H
                exact absurd H (by simp)
              ·rw [if_neg c139] at H
               exact absurd H (by simp)
             ·rw [if_neg c138] at H
              have c138b0 : decide (x172_3 < (y281.length : Int)) = false := decide_eq_false c138
              have c138b9 := c138b0
              (try simp only [hl10_1] at c138b9)
              (try simp only [hl10_2] at c138b9)
              (try simp only [hl20_3] at c138b9)
              clear c138
              simp only [Option.some.injEq, Prod.mk.injEq] at H
              obtain ⟨rfl, rfl⟩ := H
              go_wp2
              go_ret2
              exact ⟨_, _, by first|rfl|(simp [errW_none, errW_some] <;> rfl)|(simp [*, errW_none, errW_some] <;> rfl), by (with_reducible repeat (first|apply Kd.R_alloc|apply Kd.R_drewN|apply Kd.R_drew));exact Kd.R_mono HO_9.out (fun _ hk => hk.2), by (with_reducible repeat (first|apply Kd.R_alloc|apply Kd.R_drewN|apply Kd.R_drew));exact Kd.R_mono HO_20.out (fun _ hk => hk.1), by repeat (first|(with_reducible first|exact HB.out|apply xa|apply xb|apply xc|refine below_set ?_ GE251.out)|exact HB.out)⟩
          ·rw [if_neg c134] at H
           exact absurd H (by simp)
         ·rw [if_neg c133] at H
          exact absurd H (by simp)
  ·rw [if_neg c5] at H
   exact absurd H (by simp)
 ·rw [if_neg c4] at H
  exact absurd H (by simp)

end Go.Proofs.Ytgiimdoabkcoaaa.PLint
