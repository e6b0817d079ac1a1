/-
heap.Heap[int]'s down, walked.
-/
import Derived.Test.YtkegdcnnankokaaHiUp
import Derived.Deep.DeepCutAuto
namespace Go.Proofs.Ytkegdcnnankokaa.Hpi
set_option linter.unusedVariables false
set_option linter.unusedSimpArgs false
open Go.Maps Go.RowKit Go.Proofs.YtkegdcnnankokaaW.PrintWords Go.Proofs.YtkegdcnnankokaaW.PrintLast Go.Proofs.YtkegdcnnankokaaW.PrintMore Hp
theorem le_g {n m j k : Nat} (h : n + m + 1 ≤ 1000000) (hi : j < m) (hk : 2 * j + 1 = k) : k ≤ 2000001 := by omega
theorem kid_num {j k0 k1 : Nat} (hl : k0 ≤ 2000001) (h0 : 2 * j + 1 = k0) (h1 : k0 + 1 = k1) : ∃ z : Int, wrap64 (2 * (j : Int)) = z ∧ wrap64 (z + 1) = (k0 : Int) ∧ wrap64 ((k0 : Int) + 1) = (k1 : Int) ∧ IntKind.i64.wrap (2 * (j : Int)) = z ∧ IntKind.i64.wrap (z + 1) = (k0 : Int) ∧ IntKind.i64.wrap ((k0 : Int) + 1) = (k1 : Int) := by
  have m1 : wrap64 (2 * (j : Int)) = 2 * (j : Int) := wrap_nat (by omega) (by omega)
  have m2 : wrap64 (2 * (j : Int) + 1) = (k0 : Int) := by rw [wrap_nat (by omega) (by omega)]; omega
  have m3 : wrap64 ((k0 : Int) + 1) = (k1 : Int) := by rw [wrap_nat (by omega) (by omega)]; omega
  exact ⟨_, m1, m2, m3, (i64_w _).trans m1, (i64_w _).trans m2, (i64_w _).trans m3⟩
theorem le_d {n m k : Nat} (h : n + m + 1 ≤ 1000000) (hi : k < m) : k ≤ 2000001 := by omega
theorem le_e {n n' m i j : Nat} (h : n + m + 1 ≤ 1000000) (hi : j < m) (hj : n' + i ≤ n + j) : n' ≤ 1000000 := by omega
theorem le_f {n n' m i j : Nat} (hi : j < m) (hj : n' + i ≤ n + j) : n' + 1 ≤ n + m + 1 := by omega
set_option maxRecDepth 100000 in
set_option maxHeartbeats 8000000 in
theorem down_any {w : World} {h mb n : Nat} {v : Value} {seq : Int} {its : List (It Int)} {g : Int → Option Int} (R : Raw w h v mb n seq its g) {i : Nat} (hi : i < its.length) (hA : Apart its) (hG : AtBut g its (gd its i).f2) (hwf : ∀ j, j < its.length → wfk (gd its j).f2) (hn : n + its.length + 1 ≤ 1000000) :
    Calls Try.prog 84 #[.pointer (some ⟨h, 0, none⟩), .int .i64 (i : Int)] w fun e w' => e = .returned (.tuple #[]) ∧ ∃ n' g', n' ≤ n + its.length + 1 ∧ Raw w' h v mb n' seq (downP its i) g' ∧ AtFull g' (downP its i) ∧ Fr (foot h v mb) w w' := by
  obtain ⟨q, cap, rfl, _, hql, cells, hqc⟩ := Kd.R_form R.row (by omega)
  have hq := R.row.1 q (by simp [Value.ownBlock])
  obtain ⟨x, hx⟩ : ∃ x, gd its i = x := ⟨_, rfl⟩
  obtain ⟨a0, a1, a2⟩ := R.at3 hi
  rw [hx] at a0 a1 a2 hG
  have hn0 : (0 : Int) ≤ (i : Int) ∧ (i : Int) < (its.length : Int) := by omega
  have hn0b := eq_true hn0
  have h0 : w.cell? ⟨h, 0, none⟩ = some (.slice (some ⟨q, 0, none⟩) its.length cap) := cell_of_heap R.hd rfl
  have HWF := Aside0.mk hwf
  have HN := Aside0.mk hn
  clear hwf hn
  go_enter Try.func84, Try.ntmps84
  go_wp2
  obtain ⟨W, hW⟩ : ∃ W, w.alloc (.cells #[.int .i64 x.f0, .int .i64 x.f1, .int .i64 x.f2] 117) = W := ⟨_, rfl⟩
  obtain ⟨bx, hbx⟩ : ∃ bx, w.heap.size = bx := ⟨_, rfl⟩
  have FW : Fr (fun _ => False) w W := hW ▸ Fr.of_below _ ((Below.refl w.heap.size w).alloc (Nat.le_refl _) _)
  have RW := R.kept FW (fun _ _ q => q)
  have hxb : W.heap[bx]? = some (.cells #[.int .i64 x.f0, .int .i64 x.f1, .int .i64 x.f2] 117 (0, 0)) := by rw [← hW, ← hbx]; exact Array.getElem?_push_size
  have hfx : ¬ foot h (.slice (some ⟨q, 0, none⟩) its.length cap) mb bx := fun hf => by have := R.lt bx hf; omega
  rw [hW, hbx]
  clear hW a0 a1 a2 h0 hn0 hn0b
  have HG := Aside0.mk hG
  have HA := Aside0.mk hA
  clear hG hA
  go_loopw [1] (fun v1 wr => ∃ (j : Nat) (L r : List (It Int)) (g' : Int → Option Int) (n' : Nat), v1 = .int .i64 (j : Int) ∧ j < its.length ∧ Raw wr h (.slice (some ⟨q, 0, none⟩) its.length cap) mb n' seq r g' ∧ r.set j x = L ∧ gd L j = x ∧ L.length = its.length ∧ Apart L ∧ AtBut g' L x.f2 ∧ downP L j = downP its i ∧ (∀ a, a < L.length → wfk (gd L a).f2) ∧ n' + i ≤ n + j ∧ Fr (foot h (.slice (some ⟨q, 0, none⟩) its.length cap) mb) W wr) (fun v1 _ => match v1 with | .int _ z => its.length - z.toNat | _ => 0)
  case atStart => exact ⟨i, its, its, g, n, rfl, hi, RW, by rw [← hx, gd_at hi, List.set_getElem_self], hx, rfl, HA.out, HG.out, rfl, HWF.out, Nat.le_refl _, Fr.refl _ _⟩
  case round =>
    obtain ⟨j, L, r, g', n', rfl, hj, hR, hrL, hLx, hLl, hLA, hLG, hLU, hLW, hnn, hF⟩ := hrel
    have hrl : r.length = its.length := by rw [← hLl, ← hrL, List.length_set]
    have d0 : wr.cell? ⟨h, 0, none⟩ = some (.slice (some ⟨q, 0, none⟩) its.length cap) := cell_of_heap hR.hd rfl
    have hxr := hF.heap hxb hfx
    have b0 : wr.cell? ⟨bx, 0, none⟩ = some (.int .i64 x.f0) := cell_of_heap hxr rfl
    have b1 : wr.cell? ⟨bx, 1, none⟩ = some (.int .i64 x.f1) := cell_of_heap hxr rfl
    have b2 : wr.cell? ⟨bx, 2, none⟩ = some (.int .i64 x.f2) := cell_of_heap hxr rfl
    obtain ⟨k0, hk0⟩ : ∃ k0, 2 * j + 1 = k0 := ⟨_, rfl⟩
    obtain ⟨k1, hk1⟩ : ∃ k1, k0 + 1 = k1 := ⟨_, rfl⟩
    have hjL : j < L.length := by omega
    have hjr : j < r.length := by omega
    have hjk : j ≠ k0 := by omega
    have hjk1 : j ≠ k1 := by omega
    have hxw : wfk x.f2 := hLx ▸ hLW j hjL
    have hnn3 : n' + 1 ≤ n + its.length + 1 := le_f hj hnn
    by_cases hk : k0 < its.length
    · have hk0L : k0 < L.length := by omega
      have hk0r : k0 < r.length := by omega
      obtain ⟨y0, hy0⟩ : ∃ y0, gd L k0 = y0 := ⟨_, rfl⟩
      obtain ⟨y1, hy1⟩ : ∃ y1, gd L k1 = y1 := ⟨_, rfl⟩
      have hp0 := (hole_step (r := r) (l := L) (i := j) (p := k0) hjL hk0L hjk (by rw [hLx]; exact hrL)).1
      have hkid : kid L j = if k1 < its.length ∧ lt y1 y0 then k1 else k0 := by
        unfold kid
        have e2 : 2 * j + 2 = k1 := by omega
        rw [e2, hk0, hLl, hy0, hy1]
      have hkb := kid_b L j (by omega)
      rw [hLl] at hkb
      obtain ⟨z, m1, m2, m3, m4, m5, m6⟩ := kid_num (j := j) (le_d HN.out hk) hk0 hk1
      obtain ⟨B, hB⟩ : ∃ B, decide (k1 < its.length ∧ lt y1 y0) = B := ⟨_, rfl⟩
      go_upto_region 3 with (fail)
      go_cut [51] (fun v51 wc => v51 = .bool B ∧ Fr (fun _ => False) wr wc)
      case first =>
        by_cases hkk : k1 < its.length
        · have hk1r : k1 < r.length := by omega
          have hk1L : k1 < L.length := by omega
          have hp1 := (hole_step (r := r) (l := L) (i := j) (p := k1) hjL hk1L hjk1 (by rw [hLx]; exact hrL)).1
          obtain ⟨c0, c1, c2⟩ := hR.at3 hk0r
          rw [hp0, hy0] at c0 c1 c2
          obtain ⟨f0, f1, f2⟩ := hR.at3 hk1r
          rw [hp1, hy1] at f0 f1 f2
          have hdB : decide (aheadP y1 y0 < 0) = B := by
            rw [← hB]
            by_cases hlt : lt y1 y0
            · rw [ahead_lt hlt]; simp [hkk, hlt]
            · rw [ahead_nlt hlt]; simp [hlt]
          go_wp2
          refine region_tail 24 (by kernel_rfl) (by kernel_rfl) _ rfl ?_
          simp only [List.take_succ_cons, List.take_zero, List.drop_succ_cons, List.drop_zero]
          repeat still_step
          refine wpStill_nil ?_
          go_wp2_with (first
            | (go_at_call 76; refine (ahead_any y1 y0 _).mono ?_; rintro e w1 ⟨rfl, hb1⟩)
            | fail)
          go_meet
          case rel => exact ⟨rfl, (Fr.refl (fun _ => False) wr).drew.trans (Fr.of_below (fun _ => False) hb1) (fun _ _ q => q)⟩
        · have hBf : B = false := by rw [← hB]; simp [hkk]
          go_wp2
          go_region
          go_wp2
          go_meet
          case rel => exact ⟨by rw [hBf], (Fr.refl (fun _ => False) wr).drew⟩
      case rest =>
        obtain ⟨rfl, F3⟩ := hcut
        go_upto_if 51 with (fail)
        go_cut [5] (fun v5 wd => v5 = .int .i64 ((kid L j : Nat) : Int) ∧ Fr (fun _ => False) wr wd)
        case first =>
          cases B with
          | true =>
            have hkt : kid L j = k1 := by rw [hkid, if_pos (of_decide_eq_true hB)]
            go_wp2
            go_meet
            case rel => exact ⟨by rw [hkt], F3⟩
          | false =>
            have hkt : kid L j = k0 := by rw [hkid, if_neg (of_decide_eq_false hB)]
            go_wp2
            go_meet
            case rel => exact ⟨by rw [hkt], F3⟩
        case rest =>
          obtain ⟨rfl, F4⟩ := hcut
          obtain ⟨k, hkk⟩ : ∃ k, kid L j = k := ⟨_, rfl⟩
          rw [hkk] at hkb ⊢
          have hkL : k < L.length := by rw [hLl]; exact hkb.2
          have hkr : k < r.length := by rw [hrl]; exact hkb.2
          have hjk2 : j ≠ k := Nat.ne_of_lt hkb.1
          obtain ⟨hpk, hst⟩ := hole_step (r := r) (l := L) (i := j) (p := k) hjL hkL hjk2 (by rw [hLx]; exact hrL)
          obtain ⟨y, hy⟩ : ∃ y, gd L k = y := ⟨_, rfl⟩
          have hyw : wfk y.f2 := hy ▸ hLW k hkL
          have R4 := hR.kept F4 (fun _ _ q => q)
          have e0 : wc.cell? ⟨h, 0, none⟩ = some (.slice (some ⟨q, 0, none⟩) its.length cap) := cell_of_heap R4.hd rfl
          have e1 := F4.cell b0 (fun q => q)
          have e2 := F4.cell b1 (fun q => q)
          have e3 := F4.cell b2 (fun q => q)
          obtain ⟨c0, c1, c2⟩ := R4.at3 hkr
          rw [hpk, hy] at c0 c1 c2
          have hkl := hkb.2
          clear m1 m2 m3 m4 m5 m6
          have hnn2 : n' + 1 + i ≤ n + k := by have := hkb.1; omega
          have hmea : its.length - k < its.length - j := Nat.sub_lt_sub_left hj hkb.1
          have hltk : 2 * j + 1 < L.length := by omega
          have hSX := fun (w1 : World) (R1 : Raw w1 h (.slice (some ⟨q, 0, none⟩) its.length cap) mb n' seq r g') => Aside0.mk (set_any R1 (i := j) hjr x hxw (le_e HN.out hj hnn) (by rw [hrl]; exact le_c HN.out))
          have hSY := fun (w1 : World) (R1 : Raw w1 h (.slice (some ⟨q, 0, none⟩) its.length cap) mb n' seq r g') => Aside0.mk (set_any R1 (i := j) hjr y hyw (le_e HN.out hj hnn) (by rw [hrl]; exact le_c HN.out))
          by_cases hlt : lt x y
          · have hdl := ahead_lt hlt
            have hstop := downP_stop (l := L) (i := j) (fun q_ => q_.2 (by rw [hkk, hLx, hy]; exact hlt))
            go_wp2
            refine region_tail 8 (by kernel_rfl) (by kernel_rfl) _ rfl ?_
            simp only [List.take_succ_cons, List.take_zero, List.drop_succ_cons, List.drop_zero]
            repeat still_step
            refine wpStill_nil ?_
            go_wp2_with (first
              | (go_at_call 76; refine (ahead_any x y _).mono ?_; rintro e w1 ⟨rfl, hb1⟩; have R1 := R4.drew.behind hb1; have G1 := (Fr.refl (fun _ => False) wc).drew.trans (Fr.of_below (fun _ => False) hb1) (fun _ _ q => q); have f0 := G1.cell e1 (fun q => q); have f1 := G1.cell e2 (fun q => q); have f2 := G1.cell e3 (fun q => q))
              | (go_at_call 83; refine ((hSX _ R1).out).mono ?_; rintro e w2 ⟨rfl, R2, F2⟩)
              | fail)
            go_end0
            refine ⟨rfl, n' + 1, gset g' x.f2 (some (j : Int)), hnn3, ?_, ?_, ?_⟩
            · rw [← hLU, hstop, ← hrL]; exact R2
            · rw [← hLU, hstop, ← hLx]
              exact hole_end hjL hLA (by rw [hLx]; exact hLG)
            · exact ((((FW.mono (fun _ _ q => q.elim)).trans hF (fun _ _ q => q)).trans F4 (fun _ _ q => q.elim)).trans G1 (fun _ _ q => q.elim)).trans F2 (fun _ _ q => q)
          · have hdl := ahead_nlt hlt
            have hgo := downP_go (l := L) (i := j) hltk (by rw [hkk, hLx, hy]; exact hlt)
            go_wp2
            refine region_tail 8 (by kernel_rfl) (by kernel_rfl) _ rfl ?_
            simp only [List.take_succ_cons, List.take_zero, List.drop_succ_cons, List.drop_zero]
            repeat still_step
            refine wpStill_nil ?_
            go_wp2_with (first
              | (go_at_call 76; refine (ahead_any x y _).mono ?_; rintro e w1 ⟨rfl, hb1⟩; have R1 := R4.drew.behind hb1; have f3 : w1.cell? ⟨h, 0, none⟩ = some (.slice (some ⟨q, 0, none⟩) its.length cap) := cell_of_heap R1.hd rfl; obtain ⟨f0, f1, f2⟩ := R1.at3 (i := k) hkr; rw [hpk, hy] at f0 f1 f2; have G1 := (Fr.refl (fun _ => False) wc).drew.trans (Fr.of_below (fun _ => False) hb1) (fun _ _ q => q))
              | (go_at_call 83; refine ((hSY _ R1).out).mono ?_; rintro e w2 ⟨rfl, R2, F2⟩)
              | fail)
            go_roundw
            case rel =>
              refine ⟨k, sw L j k, r.set j y, gset g' y.f2 (some (j : Int)), n' + 1, rfl, hkb.2, R2, by rw [← hLx, ← hy, ← hpk]; exact hst, ?_, by rw [sw_len]; exact hLl, apart_sw hjL hkL hLA, ?_, ?_, fun a ha => ?_, hnn2, ?_⟩
              · rw [gd_sw hjL hkL, if_pos rfl]; exact hLx
              · have := hole_at (i := j) (p := k) hjL hkL hjk2 hLA (by rw [hLx]; exact hLG)
                rw [hy, hLx] at this
                exact this
              · rw [← hLU, hgo, hkk]
              · rw [sw_len] at ha
                rw [gd_sw hjL hkL]
                split
                · exact hLW j hjL
                · split
                  · exact hLW k hkL
                  · exact hLW a ha
              · exact (((hF.trans F4 (fun _ _ q => q.elim)).trans G1 (fun _ _ q => q.elim)).trans F2 (fun _ _ q => q))
            case measure => exact hmea
    · have hstop := downP_stop (l := L) (i := j) (fun q_ => hk (by rw [← hLl, ← hk0]; exact q_.1))
      obtain ⟨z, m1, m2, _, m4, m5, _⟩ := kid_num (j := j) (le_g HN.out hj hk0) hk0 hk1
      have hSX := Aside0.mk (set_any hR (i := j) hjr x hxw (le_e HN.out hj hnn) (by rw [hrl]; exact le_c HN.out))
      go_wp2_with (first
        | (go_at_call 83; refine (hSX.out).mono ?_; rintro e w2 ⟨rfl, R2, F2⟩)
        | fail)
      go_end0
      refine ⟨rfl, n' + 1, gset g' x.f2 (some (j : Int)), hnn3, ?_, ?_, ?_⟩
      · rw [← hLU, hstop, ← hrL]; exact R2
      · rw [← hLU, hstop, ← hLx]
        exact hole_end hjL hLA (by rw [hLx]; exact hLG)
      · exact ((FW.mono (fun _ _ q => q.elim)).trans hF (fun _ _ q => q)).trans F2 (fun _ _ q => q)
end Go.Proofs.Ytkegdcnnankokaa.Hpi
