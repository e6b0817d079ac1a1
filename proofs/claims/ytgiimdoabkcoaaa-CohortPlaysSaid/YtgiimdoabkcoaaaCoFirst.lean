/-
The first task of a row goes: first, walked.
-/
import Derived.Test.YtgiimdoabkcoaaaCoTake
import Derived.Deep.RegionWith
namespace Go.Proofs.Ytgiimdoabkcoaaa.Co
set_option linter.unusedVariables false
set_option linter.unusedSimpArgs false
open Go.RowKit Go.Proofs.YtgiimdoabkcoaaaW.PrintWords Go.Proofs.YtgiimdoabkcoaaaW.PrintLast Go.Proofs.YtgiimdoabkcoaaaW.PrintMore
theorem del_tasks0 {w : World} {ok : Nat → Prop} {g n cap : Nat} {xs : List Int} (h : Kd.R (Kd.int .i64) 3 w 0 ok (.slice (some ⟨g, 0, none⟩) n cap) xs) (hk : 0 < n) (hcap : cap ≤ 9223372036854775807) :
    Calls Try.prog 132 #[.slice (some ⟨g, 0, none⟩) n cap, .int .i64 0, .int .i64 1] w fun e w' => e = .returned (.slice (some ⟨g, 0, none⟩) (n - 1) cap) ∧ Kd.R (Kd.int .i64) 3 w' 0 ok (.slice (some ⟨g, 0, none⟩) (n - 1) cap) xs.tail ∧ w.grownBy w' (some g) := by
  refine (del_tasks (S_of_int h) 0 hk hcap).mono ?_
  rintro e w' ⟨rfl, h1, h2⟩
  have h3 := Kd.S_R h1
  rw [List.eraseIdx_zero] at h3
  exact ⟨rfl, h3, h2⟩
theorem del_rows1 {w : World} {ok : Nat → Prop} {g n cap : Nat} {xs : List Rw} (h : SRow w ok (.slice (some ⟨g, 0, none⟩) n cap) xs) (k : Nat) (hk : k < n) (hcap : cap ≤ 9223372036854775807) :
    Calls Try.prog 133 #[.slice (some ⟨g, 0, none⟩) n cap, .int .i64 (k : Int), .int .i64 ((k : Int) + 1)] w fun e w' => e = .returned (.slice (some ⟨g, 0, none⟩) (n - 1) cap) ∧ SRow w' ok (.slice (some ⟨g, 0, none⟩) (n - 1) cap) (xs.eraseIdx k) ∧ w.grownBy w' (some g) :=
  del_rows h k hk hcap
theorem set_same {w : World} {b i : Nat} {u0 : Value} (h : w.cell? ⟨b, i, none⟩ = some u0) (u : Value) : (w.setCell ⟨b, i, none⟩ u).cell? ⟨b, i, none⟩ = some u := by
  exact World.cell?_setCell_same _ _ _ h
theorem cap_le {α : Type} {d : Kd α} {e : Nat} {w : World} {ok : Nat → Prop} {ad : Addr} {n cap : Nat} {xs : List α} (h : d.R e w 0 ok (.slice (some ad) n cap) xs) : cap ≤ 9223372036854775807 := by
  obtain ⟨_, inner, ho, _⟩ := h
  rcases ho.2 with ⟨h1, _⟩ | ⟨g', cap', cur', h1, _, _, _, hcm, _⟩
  · cases h1
  · injection h1 with _ _ h3
    subst h3
    unfold maxLen at hcm
    omega
section
variable {w : World} {F : Nat → Prop} {h lb : Nat} {xs : List LS}
set_option maxRecDepth 100000 in
set_option maxHeartbeats 8000000 in
theorem first_any (L : LocksAt w F h lb xs) {i : Nat} (hi : i < xs.length) (hs : Sm 1000000 (xs.getD i ls0)) (k : Nat) (hk : k < (xs.getD i ls0).round.length) (hf : (rg (xs.getD i ls0).round k).2 ≠ []) :
    Calls Try.prog 101 #[lkp lb i, .int .i64 (k : Int)] w fun e w' => e = .returned (.int .i64 (firstT (xs.getD i ls0).round k)) ∧
      LocksAt w' (fun k => F k ∨ w.heap.size ≤ k) h lb (xs.set i { (xs.getD i ls0) with round := firstR (xs.getD i ls0).round k }) ∧ Fr F w w' := by
  obtain ⟨oki, cur0, v, K0, hoki, hdone⟩ := L.lk i hi
  obtain ⟨x, hx⟩ : ∃ x, xs.getD i ls0 = x := ⟨_, rfl⟩
  rw [hx] at K0 hs hk hf ⊢
  clear hx L hoki
  have hrows := K0.rows
  have KC := K0.cc
  obtain ⟨r, hr⟩ : ∃ r, x.round = r := ⟨_, rfl⟩
  have hs1 := hs.1
  rw [hr] at hrows hk hf hs1 ⊢
  clear K0 hs
  obtain ⟨n2, hn2⟩ : ∃ n2, r.length = n2 := ⟨_, rfl⟩
  rw [hn2] at hk hs1
  obtain ⟨rb, cap, rfl, _, _, _⟩ := Kd.S_form hrows (by omega)
  rw [hn2] at hrows KC
  have hcap := cap_le (Kd.S_R hrows)
  obtain ⟨hokrb, hrbl, ok2, tv, e0, e1, ez, hR, hok2, hre⟩ := row_task hrows k hk
  obtain ⟨ts, hts⟩ : ∃ ts, (rg r k).2 = ts := ⟨_, rfl⟩
  rw [hts] at hR hf
  have hpos : 0 < ts.length := List.length_pos_iff.2 hf
  obtain ⟨tb, tc, rfl, _, htbl, _⟩ := Kd.R_form hR hpos
  have htc := cap_le hR
  obtain ⟨cc, hccl, hM, hcc, _⟩ := Kd.R_elem hR 0 0 (by omega) (by omega)
  have hM' : cc = [.int .i64 (ts.getD 0 0)] := hM
  subst hM'
  have e2 : w.cell? ⟨tb, 0, none⟩ = some (.int .i64 (ts.getD 0 0)) := hcc 0 _ rfl
  have hT : ts.getD 0 0 = firstT r k := by unfold firstT; rw [hts]; cases ts <;> rfl
  rw [hT] at e2
  obtain ⟨tl, htl⟩ : ∃ tl, ts.length = tl := ⟨_, rfl⟩
  rw [htl] at e1 hR hpos
  have d4 := KC.c.2.2.2.2
  have zl := KC.fz
  have hrl := KC.ne hokrb
  have hlbw : lb < w.heap.size := KC.lbl
  have htok : ok2 tb := hR.1 tb rfl
  have htr : tb ≠ rb := (hok2 tb htok).2.1
  have htlb : tb ≠ lb := KC.ne (hok2 tb htok).1
  have hk1 := eq_true (show (0 : Int) ≤ (k : Int) ∧ (k : Int) < (n2 : Int) by omega)
  have hw1 : wrap64 ((k : Int) + 1) = (k : Int) + 1 := by rw [wrap_nat (by omega) (by omega)]
  have hdel := del_tasks0 (w := w.drew) (show Kd.R (Kd.int .i64) 3 w.drew 0 ok2 _ _ from hR) hpos htc
  -- behind the task's going: the lock, its rows
  have HRE : Hid (∀ w1, Kd.R (Kd.int .i64) 3 w1 0 ok2 (.slice (some ⟨tb, 0, none⟩) (tl - 1) tc) ts.tail → w.drew.grownBy w1 (some tb) → Lk w lb i cur0 oki (w1.setCell ⟨rb, k * 2 + 1, none⟩ (.slice (some ⟨tb, 0, none⟩) (tl - 1) tc)) { x with round := r.set k ((rg r k).1, ts.tail) } (.slice (some ⟨rb, 0, none⟩) n2 cap) ∧
      w1.cell? ⟨rb, k * 2 + 1, none⟩ = some (.slice (some ⟨tb, 0, none⟩) tl tc) ∧ (∀ j, w1.frozen? ⟨rb, j, none⟩ = false) ∧ w1.cell? ⟨lb, i * 5 + 4, none⟩ = some (.slice (some ⟨rb, 0, none⟩) n2 cap) ∧ (∀ j, w1.frozen? ⟨lb, j, none⟩ = false)) := Lib.hid (by
    intro w1 hR1 hg1
    have hF1 : Fr (fun b => ok2 b) w w1 := Fr.of_grown (w := w) ⟨hg1.os, hg1.tape, hg1.output, hg1.size, hg1.block⟩ (fun b hb => by injection hb with hb; subst hb; exact htok)
    obtain ⟨g1, g2, g3, g4, g5⟩ := hre w1 _ ts.tail hF1 (Kd.R_mono hR1 (fun b q => .inl q))
    have G1 : Fr (fun k => oki k ∨ w.heap.size ≤ k) w w1 := hF1.mono (fun b _ q => (hok2 b q).1)
    have G2 : Fr (fun k => oki k ∨ w.heap.size ≤ k) w (w1.setCell ⟨rb, k * 2 + 1, none⟩ (.slice (some ⟨tb, 0, none⟩) (tl - 1) tc)) := g2.mono (fun b _ q => q.elim (fun e => e ▸ hokrb) (fun q => (hok2 b q).1))
    rw [htl] at g4
    exact ⟨(KC.mid G2).with (Kd.S_mono g1 (fun b q => q.elim id (fun q => .inr q))), g4, g5, (KC.mid G1).c.2.2.2.2, (KC.mid G1).fz⟩)
  have HD := Lib.hid hdone
  have HDel := Lib.hid hdel
  have HTS := Lib.hid hts
  have HTL := Lib.hid htl
  have HN2 := Lib.hid hn2
  have HCap := Lib.hid hcap
  clear hdone hdel hts htl hn2 hcap hre hR hrows hM hcc hccl hT hok2 htok hokrb KC htc hf
  unfold lkp
  go_enter Try.func101, Try.ntmps101
  go_upto_region 2 with (fail)
  go_cut [] (fun wc => Aside0 (Lk w lb i cur0 oki wc { x with round := r.set k ((rg r k).1, ts.tail) } (.slice (some ⟨rb, 0, none⟩) n2 cap)) ∧ Aside0 (wc.cell? ⟨rb, k * 2 + 1, none⟩ = some (.slice (some ⟨tb, 0, none⟩) (tl - 1) tc)))
  case first =>
    go_region_with (first | (go_at_call 132; refine (HDel.out).mono ?_; rintro e w1 ⟨rfl, hR1, hg1⟩; obtain ⟨q5, q1, q2, q3, q4⟩ := HRE.out w1 hR1 hg1; have q6 : (w1.setCell ⟨rb, k * 2 + 1, none⟩ (.slice (some ⟨tb, 0, none⟩) (tl - 1) tc)).cell? ⟨rb, k * 2 + 1, none⟩ = some (.slice (some ⟨tb, 0, none⟩) (tl - 1) tc) := set_same q1 _; have Q5 := Lib.hid q5; have Q6 := Lib.hid q6; clear q5 q6 hR1 hg1) | fail)
    all_goals
      go_wp2
      go_meet
      case rel => exact ⟨⟨Q5.out⟩, ⟨Q6.out⟩⟩
  case rest =>
    obtain ⟨K2, q6⟩ := hcut
    have d5 := K2.out.cc.c.2.2.2.2
    have zl2 := K2.out.cc.fz
    have e5 := q6.out
    clear q6 d4 e0 e1 e2 ez zl
    by_cases h1 : tl - 1 = 0
    · have hb : (((tl - 1 : Nat) : Int) == 0) = true := by simp [h1]
      have H1 := Lib.hid h1
      clear h1
      have hdel2 := del_rows1 K2.out.rows k hk HCap.out
      have hokrb : oki rb ∨ w.heap.size ≤ rb := (Kd.S_R K2.out.rows).1 rb rfl
      have HDel2 := Lib.hid hdel2
      have HOk := Lib.hid hokrb
      clear hdel2 hokrb HRE HDel
      go_wp2_with (first | (go_at_call 133; refine (HDel2.out).mono ?_; rintro e w2 ⟨rfl, hS2, hg2⟩; have K3 := K2.out.cc.grown hg2 (fun b hb => by injection hb with hb; subst hb; exact HOk.out); have d6 := K3.c.2.2.2.2; have zl3 := K3.fz; have HK3 := Lib.hid K3; have HS2 := Lib.hid hS2; clear K3 hS2 hg2) | fail)
      go_ret
      refine ⟨rfl, ?_⟩
      have q := HD.out _ _ _ (HK3.out.setR HS2.out)
      have hfr : firstR r k = (r.set k ((rg r k).1, ts.tail)).eraseIdx k := by
        unfold firstR
        rw [HTS.out, if_pos (List.eq_nil_of_length_eq_zero (by rw [List.length_tail, HTL.out]; exact H1.out)), List.eraseIdx_set_eq]
      rw [hfr]
      exact q
    · have hb : (((tl - 1 : Nat) : Int) == 0) = false := by simpa using h1
      have H1 := Lib.hid h1
      clear h1
      go_wp2
      go_ret
      refine ⟨rfl, ?_⟩
      have q := HD.out _ _ _ K2.out
      have hfr : firstR r k = r.set k ((rg r k).1, ts.tail) := by
        unfold firstR
        rw [HTS.out, if_neg]
        intro e
        have := congrArg List.length e
        rw [List.length_tail, HTL.out] at this
        exact H1.out (by simpa using this)
      rw [hfr]
      exact q
end
end Go.Proofs.Ytgiimdoabkcoaaa.Co
