/-
heap.Heap[int]'s up, walked.
-/
import Derived.Test.YtkegdcnnankokaaHiSetW
import Derived.Test.YtkegdcnnankokaaPureKit
import Derived.Test.YtkegdcnnankokaaPHpax1
namespace Go.Proofs.Ytkegdcnnankokaa.Hpi
set_option linter.unusedVariables false
set_option linter.unusedSimpArgs false
open Go.Maps Go.RowKit Go.Proofs.YtkegdcnnankokaaW.PrintWords Go.Proofs.YtkegdcnnankokaaW.PrintLast Go.Proofs.YtkegdcnnankokaaW.PrintMore Hp
def cmpP (a b : Int) : Int := if a < b then -1 else if a > b then 1 else 0
theorem compare_f (a b : Int) : PHpa.cmp_Compare_int.f a b = some (cmpP a b) := by
  unfold PHpa.cmp_Compare_int.f PHpa.cmp_isNaN_int.f cmpP
  by_cases h : a < b
  · simp [h]
  · by_cases h2 : a > b
    · simp [h, h2]
    · simp [h, h2]
theorem cmpP_3 (a b : Int) : cmpP a b = -1 ∨ cmpP a b = 0 ∨ cmpP a b = 1 := by
  unfold cmpP
  split
  · simp
  · split <;> simp
theorem or_f {p q : Int} (hp : p = -1 ∨ p = 0 ∨ p = 1) (hq : q = -1 ∨ q = 0 ∨ q = 1) : PHpa.cmp_Or_int.f 4 [p, q] = some (if p = 0 then q else p) := by
  rcases hp with rfl | rfl | rfl <;> rcases hq with rfl | rfl | rfl <;> decide +kernel
theorem ahead_f (a b : It Int) : PHpa.heap_ahead_int.f 4 a.f0 a.f1 a.f2 b.f0 b.f1 b.f2 = some (aheadP a b) := by
  unfold PHpa.heap_ahead_int.f
  rw [compare_f, compare_f]
  simp only [Option.bind_some]
  rw [or_f (cmpP_3 _ _) (cmpP_3 _ _)]
  simp only [Option.bind_some]
  congr 1
  unfold aheadP cmpP lt
  by_cases h1 : a.f0 < b.f0
  · simp [h1]
  · by_cases h2 : a.f0 > b.f0
    · simp [h1, h2]
      omega
    · have h3 : a.f0 = b.f0 := by omega
      by_cases h4 : a.f1 < b.f1
      · simp [h3, h4]
      · by_cases h5 : a.f1 > b.f1
        · simp [h3, h4, h5]
        · simp [h3, h4, h5]
theorem ahead_any (a b : It Int) (w : World) : Calls Try.prog 76 #[.agg #[.int .i64 a.f0, .int .i64 a.f1, .int .i64 a.f2], .agg #[.int .i64 b.f0, .int .i64 b.f1, .int .i64 b.f2]] w fun e w' => e = .returned (.int .i64 (aheadP a b)) ∧ Below w.heap.size w w' :=
  PHpa.heap_ahead_int.calls 4 a.f0 a.f1 a.f2 b.f0 b.f1 b.f2 (aheadP a b) w (ahead_f a b)
theorem ahead_lt {a b : It Int} (h : lt a b) : decide (aheadP a b < 0) = true := by unfold aheadP; rw [if_pos h]; rfl
theorem ahead_nlt {a b : It Int} (h : ¬ lt a b) : decide (aheadP a b < 0) = false := by unfold aheadP; rw [if_neg h]; split <;> rfl
/-- an item's cells. -/
theorem Raw.at3 {w : World} {h mb n q cap m : Nat} {seq : Int} {its : List (It Int)} {g : Int → Option Int} (R : Raw w h (.slice (some ⟨q, 0, none⟩) m cap) mb n seq its g) {i : Nat} (hi : i < its.length) :
    w.cell? ⟨q, i * 3, none⟩ = some (.int .i64 (gd its i).f0) ∧ w.cell? ⟨q, i * 3 + 1, none⟩ = some (.int .i64 (gd its i).f1) ∧ w.cell? ⟨q, i * 3 + 2, none⟩ = some (.int .i64 (gd its i).f2) := by
  have hm := (Kd.R_reads' R.row).1
  obtain ⟨c, _, hM, hcc, _⟩ := Kd.R_elem R.row zI (i : Int) (by omega) (by omega)
  obtain rfl := kI_openM hM
  rw [Int.toNat_natCast] at hcc
  exact ⟨hcc 0 _ rfl, hcc 1 _ rfl, hcc 2 _ rfl⟩
theorem par_num {j p : Nat} (h0 : 0 < j) (hl : j ≤ 1000000) (hp : (j - 1) / 2 = p) : ∃ jm : Int, wrap64 ((j : Int) - 1) = jm ∧ wrap64 (Int.tdiv jm 2) = (p : Int) ∧ IntKind.i64.wrap ((j : Int) - 1) = jm ∧ IntKind.i64.wrap (Int.tdiv jm 2) = (p : Int) := by
  have m1 : wrap64 ((j : Int) - 1) = ((j - 1 : Nat) : Int) := by rw [wrap_nat (by omega) (by omega)]; omega
  have m2 : wrap64 (Int.tdiv ((j - 1 : Nat) : Int) 2) = (p : Int) := by
    have : Int.tdiv ((j - 1 : Nat) : Int) 2 = (((j - 1) / 2 : Nat) : Int) := rfl
    rw [this, hp]; exact wrap_nat (by omega) (by omega)
  exact ⟨_, m1, m2, (i64_w _).trans m1, (i64_w _).trans m2⟩
theorem le_a {n m i j : Nat} (h : n + m + 1 ≤ 1000000) (hi : i < m) (hj : j ≤ i) : j ≤ 1000000 := by omega
theorem le_b {n n' m i j : Nat} (h : n + m + 1 ≤ 1000000) (hi : i < m) (hj : n' + j ≤ n + i) : n' ≤ 1000000 := by omega
theorem le_c {n m : Nat} (h : n + m + 1 ≤ 1000000) : m ≤ 1000000 := by omega
set_option maxRecDepth 100000 in
set_option maxHeartbeats 8000000 in
theorem up_any {w : World} {h mb n : Nat} {v : Value} {seq : Int} {its : List (It Int)} {g : Int → Option Int} (R : Raw w h v mb n seq its g) {i : Nat} (hi : i < its.length) (hA : Apart its) (hG : AtBut g its (gd its i).f2) (hwf : ∀ j, j < its.length → wfk (gd its j).f2) (hn : n + its.length + 1 ≤ 1000000) :
    Calls Try.prog 64 #[.pointer (some ⟨h, 0, none⟩), .int .i64 (i : Int)] w fun e w' => e = .returned (.tuple #[]) ∧ ∃ n' g', n' ≤ n + its.length + 1 ∧ Raw w' h v mb n' seq (upP its i) g' ∧ AtFull g' (upP its i) ∧ Fr (foot h v mb) w w' := by
  obtain ⟨q, cap, rfl, _, hql, cells, hqc⟩ := Kd.R_form R.row (by omega)
  have hq := R.row.1 q (by simp [Value.ownBlock])
  obtain ⟨x, hx⟩ : ∃ x, gd its i = x := ⟨_, rfl⟩
  obtain ⟨a0, a1, a2⟩ := R.at3 hi
  rw [hx] at a0 a1 a2 hG
  have hn0 : (0 : Int) ≤ (i : Int) ∧ (i : Int) < (its.length : Int) := by omega
  have hn0b := eq_true hn0
  have h0 : w.cell? ⟨h, 0, none⟩ = some (.slice (some ⟨q, 0, none⟩) its.length cap) := cell_of_heap R.hd rfl
  have HWF := Aside0.mk hwf
  have HN := Aside0.mk hn
  clear hwf hn
  go_enter Try.func64, Try.ntmps64
  go_wp2
  obtain ⟨W, hW⟩ : ∃ W, w.alloc (.cells #[.int .i64 x.f0, .int .i64 x.f1, .int .i64 x.f2] 117) = W := ⟨_, rfl⟩
  obtain ⟨bx, hbx⟩ : ∃ bx, w.heap.size = bx := ⟨_, rfl⟩
  have FW : Fr (fun _ => False) w W := hW ▸ Fr.of_below _ ((Below.refl w.heap.size w).alloc (Nat.le_refl _) _)
  have RW := R.kept FW (fun _ _ q => q)
  have hxb : W.heap[bx]? = some (.cells #[.int .i64 x.f0, .int .i64 x.f1, .int .i64 x.f2] 117 (0, 0)) := by rw [← hW, ← hbx]; exact Array.getElem?_push_size
  have hfx : ¬ foot h (.slice (some ⟨q, 0, none⟩) its.length cap) mb bx := fun hf => by have := R.lt bx hf; omega
  rw [hW, hbx]
  clear hW a0 a1 a2 h0 hn0 hn0b
  have HG := Aside0.mk hG
  have HA := Aside0.mk hA
  clear hG hA
  go_loopw [1] (fun v1 wr => ∃ (j : Nat) (L r : List (It Int)) (g' : Int → Option Int) (n' : Nat), v1 = .int .i64 (j : Int) ∧ j ≤ i ∧ Raw wr h (.slice (some ⟨q, 0, none⟩) its.length cap) mb n' seq r g' ∧ r.set j x = L ∧ gd L j = x ∧ L.length = its.length ∧ Apart L ∧ AtBut g' L x.f2 ∧ upP L j = upP its i ∧ (∀ a, a < L.length → wfk (gd L a).f2) ∧ n' + j ≤ n + i ∧ Fr (foot h (.slice (some ⟨q, 0, none⟩) its.length cap) mb) W wr) (fun v1 _ => match v1 with | .int _ z => z.toNat | _ => 0)
  case atStart => exact ⟨i, its, its, g, n, rfl, Nat.le_refl _, RW, by rw [← hx, gd_at hi, List.set_getElem_self], hx, rfl, HA.out, HG.out, rfl, HWF.out, Nat.le_refl _, Fr.refl _ _⟩
  case round =>
    obtain ⟨j, L, r, g', n', rfl, hj, hR, hrL, hLx, hLl, hLA, hLG, hLU, hLW, hnn, hF⟩ := hrel
    have hrl : r.length = its.length := by rw [← hLl, ← hrL, List.length_set]
    have d0 : wr.cell? ⟨h, 0, none⟩ = some (.slice (some ⟨q, 0, none⟩) its.length cap) := cell_of_heap hR.hd rfl
    have hxr := hF.heap hxb hfx
    have b0 : wr.cell? ⟨bx, 0, none⟩ = some (.int .i64 x.f0) := cell_of_heap hxr rfl
    have b1 : wr.cell? ⟨bx, 1, none⟩ = some (.int .i64 x.f1) := cell_of_heap hxr rfl
    have b2 : wr.cell? ⟨bx, 2, none⟩ = some (.int .i64 x.f2) := cell_of_heap hxr rfl
    by_cases hj0 : 0 < j
    · have t1 : decide ((0 : Int) < (j : Int)) = true := by simpa using hj0
      obtain ⟨p, hp⟩ : ∃ p, (j - 1) / 2 = p := ⟨_, rfl⟩
      have hpj : p < j := by omega
      obtain ⟨hpr, hst⟩ := hole_step (r := r) (l := L) (i := j) (p := p) (by omega) (by omega) (by omega) (by rw [hLx]; exact hrL)
      obtain ⟨y, hy⟩ : ∃ y, gd L p = y := ⟨_, rfl⟩
      obtain ⟨c0, c1, c2⟩ := hR.at3 (i := p) (by omega)
      rw [hpr, hy] at c0 c1 c2 hst
      have hpl : p < its.length := by omega
      have hjL : j < L.length := by omega
      have hpL : p < L.length := by omega
      have hjp : j ≠ p := by omega
      have hjr : j < r.length := by omega
      have hpr2 : p < r.length := by omega
      have hpi : p ≤ i := by omega
      have hnn2 : n' + 1 + p ≤ n + i := by omega
      have hnn3 : n' + 1 ≤ n + its.length + 1 := by omega
      have hyw : wfk y.f2 := hy ▸ hLW p hpL
      have hxw : wfk x.f2 := hLx ▸ hLW j hjL
      obtain ⟨jm, m1, m2, m3, m4⟩ := par_num hj0 (le_a HN.out hi hj) hp
      by_cases hlt : lt x y
      · have hdl := ahead_lt hlt
        go_wp2
        refine region_tail 13 (by kernel_rfl) (by kernel_rfl) _ rfl ?_
        simp only [List.take_succ_cons, List.take_zero, List.drop_succ_cons, List.drop_zero]
        repeat still_step
        refine wpStill_nil ?_
        have hSX := fun (w1 : World) (R1 : Raw w1 h (.slice (some ⟨q, 0, none⟩) its.length cap) mb n' seq r g') => Aside0.mk (set_any R1 (i := j) hjr y hyw (le_b HN.out hi hnn) (by rw [hrl]; exact le_c HN.out))
        go_wp2_with (first
          | (go_at_call 76; refine (ahead_any x y _).mono ?_; rintro e w1 ⟨rfl, hb1⟩; have R1 := hR.drew.behind hb1; have e0 : w1.cell? ⟨h, 0, none⟩ = some (.slice (some ⟨q, 0, none⟩) its.length cap) := cell_of_heap R1.hd rfl; obtain ⟨f0, f1, f2⟩ := R1.at3 (i := p) hpr2; rw [hpr, hy] at f0 f1 f2)
          | (go_at_call 83; refine ((hSX _ R1).out).mono ?_; rintro e w2 ⟨rfl, R2, F2⟩)
          | fail)
        go_roundw
        case rel =>
          refine ⟨p, sw L j p, r.set j y, gset g' y.f2 (some (j : Int)), n' + 1, rfl, hpi, R2, by rw [← hLx]; exact hst, ?_, by rw [sw_len]; exact hLl, apart_sw hjL hpL hLA, ?_, ?_, fun a ha => ?_, hnn2, ?_⟩
          · rw [gd_sw hjL hpL, if_pos rfl]; exact hLx
          · have := hole_at (i := j) (p := p) hjL hpL hjp hLA (by rw [hLx]; exact hLG)
            rw [hy, hLx] at this
            exact this
          · rw [← hLU, upP_go hj0 (by rw [hp, hLx, hy]; exact hlt), hp]
          · rw [sw_len] at ha
            rw [gd_sw hjL hpL]
            split
            · exact hLW j hjL
            · split
              · exact hLW p hpL
              · exact hLW a ha
          · exact ((hF.drew.trans (Fr.of_below (fun _ => False) hb1) (fun _ _ q => q.elim)).trans F2 (fun _ _ q => q))
        case measure => exact (show p < j from hpj)
      · have hdl := ahead_nlt hlt
        have hstop := upP_stop (l := L) (i := j) (fun q => hlt (by have := q.2; rw [hp, hLx, hy] at this; exact this))
        go_wp2
        refine region_tail 13 (by kernel_rfl) (by kernel_rfl) _ rfl ?_
        simp only [List.take_succ_cons, List.take_zero, List.drop_succ_cons, List.drop_zero]
        repeat still_step
        refine wpStill_nil ?_
        have hSX := fun (w1 : World) (R1 : Raw w1 h (.slice (some ⟨q, 0, none⟩) its.length cap) mb n' seq r g') => Aside0.mk (set_any R1 (i := j) hjr x hxw (le_b HN.out hi hnn) (by rw [hrl]; exact le_c HN.out))
        go_wp2_with (first
          | (go_at_call 76; refine (ahead_any x y _).mono ?_; rintro e w1 ⟨rfl, hb1⟩; have R1 := hR.drew.behind hb1; have e0 : w1.cell? ⟨h, 0, none⟩ = some (.slice (some ⟨q, 0, none⟩) its.length cap) := cell_of_heap R1.hd rfl; have G1 := (Fr.refl (fun _ => False) wr).drew.trans (Fr.of_below (fun _ => False) hb1) (fun _ _ q => q); have f0 := G1.cell b0 (fun q => q); have f1 := G1.cell b1 (fun q => q); have f2 := G1.cell b2 (fun q => q))
          | (go_at_call 83; refine ((hSX _ R1).out).mono ?_; rintro e w2 ⟨rfl, R2, F2⟩)
          | fail)
        go_end0
        refine ⟨rfl, n' + 1, gset g' x.f2 (some (j : Int)), hnn3, ?_, ?_, ?_⟩
        · rw [← hLU, hstop, ← hrL]; exact R2
        · rw [← hLU, hstop, ← hLx]
          exact hole_end hjL hLA (by rw [hLx]; exact hLG)
        · exact (((FW.mono (fun _ _ q => q.elim)).trans hF (fun _ _ q => q)).trans G1 (fun _ _ q => q.elim)).trans F2 (fun _ _ q => q)
    · obtain rfl : j = 0 := by omega
      have hstop := upP_stop (l := L) (i := 0) (fun q => absurd q.1 (Nat.lt_irrefl 0))
      have hjL : 0 < L.length := by omega
      have hjr : 0 < r.length := by omega
      have hnn3 : n' + 1 ≤ n + its.length + 1 := by omega
      have hxw : wfk x.f2 := hLx ▸ hLW 0 hjL
      have hSX := Aside0.mk (set_any hR.drew (i := 0) hjr x hxw (le_b HN.out hi hnn) (by rw [hrl]; exact le_c HN.out))
      clear hj hi hj0
      go_wp2
      go_region
      go_wp2_with (first
        | (go_at_call 83; refine (hSX.out).mono ?_; rintro e w2 ⟨rfl, R2, F2⟩)
        | fail)
      go_end0
      refine ⟨rfl, n' + 1, gset g' x.f2 (some ((0 : Nat) : Int)), hnn3, ?_, ?_, ?_⟩
      · rw [← hLU, hstop, ← hrL]; exact R2
      · rw [← hLU, hstop, ← hLx]
        exact hole_end hjL hLA (by rw [hLx]; exact hLG)
      · exact ((FW.mono (fun _ _ q => q.elim)).trans hF.drew (fun _ _ q => q)).trans F2 (fun _ _ q => q)
end Go.Proofs.Ytkegdcnnankokaa.Hpi
