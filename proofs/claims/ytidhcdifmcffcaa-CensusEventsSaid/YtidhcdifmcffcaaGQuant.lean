/-
census.Quantile in the printed contracts' form.
-/
import Derived.Test.YtidhcdifmcffcaaValues
namespace Go.Proofs.Ytidhcdifmcffcaa.PCen
set_option linter.unusedVariables false
set_option linter.unusedSimpArgs false
open Go.RowKit Go.Proofs.YtidhcdifmcffcaaW.PrintWords Go.Proofs.YtidhcdifmcffcaaW.PrintLast Go.Proofs.YtidhcdifmcffcaaW.PrintMore
def quantAt (l : List Int) (p : Int) : Int := ((max 0 (min p 100)) * ((l.length : Int) - 1)).tdiv 100
def census_Quantile.f (l0 : List Int) (a1 : Int) : Option (Int × Bool) := if l0.length = 0 then some (0, false) else if l0.length * 8 ≤ 140737488351232 then some (rd (l0.mergeSort fun x y => decide (x ≤ y)) (quantAt l0 a1), true) else none

theorem quant_range (l : List Int) (p : Int) (h : 0 < l.length) : 0 ≤ quantAt l p ∧ quantAt l p < l.length := by
  unfold quantAt
  generalize hq : max 0 (min p 100) = q
  have hq0 : 0 ≤ q := by omega
  have hq1 : q ≤ 100 := by omega
  have hn : 0 ≤ (l.length : Int) - 1 := by omega
  have h0 : 0 ≤ q * ((l.length : Int) - 1) := Int.mul_nonneg hq0 hn
  have h1 : q * ((l.length : Int) - 1) ≤ 100 * ((l.length : Int) - 1) := Int.mul_le_mul_of_nonneg_right hq1 hn
  rw [Int.tdiv_eq_ediv_of_nonneg h0]
  omega
theorem sorted_cell {W : World} {gb : Nat} {cur : Array Value} {l : List Int} {n cap : Nat} (hgb : W.heap[gb]? = some (.cells cur 3 (0, 0))) (hl : l.length = n) (r3 : cur.size = cap * 1) (hc : n ≤ cap) (r4 : cur.toList.take (n * 1) = l.map encZ) {q : Int} (h0 : 0 ≤ q) (h1 : q < n) :
    W.cell? ⟨gb, q.toNat, none⟩ = some (.int .i64 (rd l q)) := by
  obtain ⟨i, rfl⟩ := Int.eq_ofNat_of_zero_le h0
  have hi : i < l.length := by omega
  rw [rd_at hi, Int.toNat_natCast]
  have hci : i < cur.size := by omega
  have : cur[i]? = some (.int .i64 l[i]) := by
    have h2 : (cur.toList.take (n * 1))[i]? = (l.map encZ)[i]? := by rw [r4]
    rw [List.getElem?_take_of_lt (by omega), List.getElem?_map, List.getElem?_eq_getElem hi] at h2
    simpa [encZ] using h2
  simp [World.cell?, hgb, this]
set_option maxRecDepth 100000 in
set_option maxHeartbeats 2000000 in
theorem census_Quantile.calls (A0 : Option Addr) (c0 : Nat) (l0 : List Int) (a1 : Int) (r1 : Int) (r2 : Bool) (w : World) (hr0 : Kd.C (Kd.int .i64) w A0 l0.length l0) (hc0 : l0.length ≤ c0) (h : census_Quantile.f l0 a1 = some (r1, r2)) :
    Calls Try.prog 37 #[.slice A0 l0.length c0, .int .i64 a1] w fun e w' => e = .returned (.tuple #[.int .i64 r1, .bool r2]) ∧ Below w.heap.size w w' := by
  unfold census_Quantile.f at h
  by_cases hz : l0.length = 0
  · rw [if_pos hz] at h
    simp only [Option.some.injEq, Prod.mk.injEq] at h
    obtain ⟨rfl, rfl⟩ := h
    go_enter Try.func37, Try.ntmps37
    go_wp2
    go_ret2
    exact ⟨rfl, Below.refl _ _⟩
  · rw [if_neg hz] at h
    by_cases hb : l0.length * 8 ≤ 140737488351232
    · rw [if_pos hb] at h
      simp only [Option.some.injEq, Prod.mk.injEq] at h
      obtain ⟨rfl, rfl⟩ := h
      have hd : ((l0.length : Int) == 0) = false := by simpa using hz
      have hr1 : Kd.C (Kd.int .i64) (w.alloc (.cells #[.slice A0 l0.length c0] 29)) A0 l0.length l0 := Kd.C_alloc hr0 _
      have HS := Lib.hid (sorted_values (w.alloc (.cells #[.slice A0 l0.length c0] 29)) w.heap.size A0 c0 l0 (by simp) hr1 (by omega) (by omega))
      obtain ⟨q0, q1⟩ := quant_range l0 a1 (by omega)
      have hq0 := q0
      have hq1 := q1
      unfold quantAt at hq0 hq1
      go_enter Try.func37, Try.ntmps37
      have e1 : wrap64 ((l0.length : Int) - 1) = (l0.length : Int) - 1 := wrap_nat (by omega) (by omega)
      have hm0 : 0 ≤ max 0 (min a1 100) := by omega
      have hm1 : max 0 (min a1 100) ≤ 100 := by omega
      have hp0 : 0 ≤ max 0 (min a1 100) * ((l0.length : Int) - 1) := Int.mul_nonneg hm0 (by omega)
      have hp1 : max 0 (min a1 100) * ((l0.length : Int) - 1) ≤ 100 * ((l0.length : Int) - 1) := Int.mul_le_mul_of_nonneg_right hm1 (by omega)
      have e2 : wrap64 (max 0 (min a1 100) * ((l0.length : Int) - 1)) = max 0 (min a1 100) * ((l0.length : Int) - 1) := wrap_nat (by omega) (by omega)
      have e3 : wrap64 ((max 0 (min a1 100) * ((l0.length : Int) - 1)).tdiv 100) = (max 0 (min a1 100) * ((l0.length : Int) - 1)).tdiv 100 := wrap_nat (by omega) (by omega)
      obtain ⟨q, hq⟩ : ∃ q, (max 0 (min a1 100) * ((l0.length : Int) - 1)).tdiv 100 = q := ⟨_, rfl⟩
      have hqq : quantAt l0 a1 = q := hq
      rw [hq] at hq0 hq1 e3
      rw [hqq]
      clear q0 q1 hqq hp0 hp1 hm0 hm1
      go_wp2_with (first
        | (go_at_call 70; refine (HS.out).mono ?_; rintro e W ⟨v, rfl, hrow, hbw⟩;
           obtain ⟨gb, cap, cur, rfl, hbase, hgb, r1, r2, r3, r4⟩ := hrow.2.resolve_left (fun h => hz h.2);
           have hx := sorted_cell hgb (by simp) r3 r1 r4 hq0 hq1)
        | (go_at_call 71; go_enter Try.func71, Try.ntmps71; go_wp2_with fail))
      go_ret2
      exact ⟨rfl, ((Below.refl _ w).alloc (Nat.le_refl _) _).trans (hbw.mono (by simp))⟩
    · rw [if_neg hb] at h; cases h
end Go.Proofs.Ytidhcdifmcffcaa.PCen
