/-
The locks' Take, walked.
-/
import Derived.Test.YtgiimdoabkcoaaaCoLk
import Derived.OwnWalk
import Derived.Deep.DeepCutAuto
namespace Go.Proofs.Ytgiimdoabkcoaaa.Co
set_option linter.unusedVariables false
set_option linter.unusedSimpArgs false
open Go.RowKit Go.Proofs.YtgiimdoabkcoaaaW.PrintWords Go.Proofs.YtgiimdoabkcoaaaW.PrintLast Go.Proofs.YtgiimdoabkcoaaaW.PrintMore
def tkV (b : Bool) (e : Int) : Value := .tuple #[.bool b, .int .i64 e]
theorem oI_lt {o : Option Nat} : oI o < 0 ↔ o = none := by cases o <;> simp [oI]
theorem infoRow : (Try.prog.info? 154).map (fun i => (i.zero, i.size, i.bytes)) = some (some (.agg #[.int .i64 0, .slice none 0 0]), 2, 32) := by kernel_rfl
theorem infoInt : (Try.prog.info? 3).map (fun i => (i.zero, i.size, i.bytes)) = some (some (.int .i64 0), 1, 8) := by kernel_rfl
section
variable {w : World} {F : Nat → Prop} {h lb : Nat} {xs : List LS}
/-- Take where nothing is changed. -/
def TakeQ (w : World) (b : Bool) (er : Int) (e : Ending) (w' : World) : Prop := e = .returned (tkV b er) ∧ Below w.heap.size w w'
set_option maxRecDepth 100000 in
set_option maxHeartbeats 8000000 in
theorem take_none (L : LocksAt w F h lb xs) {n : Int} (hn : ¬ (0 ≤ n ∧ n < (xs.length : Int))) (t s : Int) :
    Calls Try.prog 48 #[.pointer (some ⟨h, 0, none⟩), .int .i64 n, .int .i64 t, .int .i64 s] w (TakeQ w false 3) := by
  have hAt := at_any L n
  unfold atV at hAt
  rw [if_neg hn] at hAt
  have HAt := Lib.hid hAt
  clear hAt L hn
  go_enter Try.func48, Try.ntmps48
  go_wp2_with (first | (go_at_call 98; refine (HAt.out).mono ?_; rintro e w1 ⟨rfl, hw9⟩; rw [hw9]; clear hw9) | fail)
  go_ret2
  exact ⟨rfl, Below.refl _ _⟩
set_option maxRecDepth 100000 in
set_option maxHeartbeats 8000000 in
theorem take_some (L : LocksAt w F h lb xs) {i : Nat} (hi : i < xs.length) (hs : Sm 1000000 (xs.getD i ls0)) (t s : Int) :
    Calls Try.prog 48 #[.pointer (some ⟨h, 0, none⟩), .int .i64 (i : Int), .int .i64 t, .int .i64 s] w fun e w' => e = .returned (tkV (takeP (xs.getD i ls0) t s).2.1 (takeP (xs.getD i ls0) t s).2.2) ∧
      LocksAt w' (fun k => F k ∨ w.heap.size ≤ k) h lb (xs.set i (takeP (xs.getD i ls0) t s).1) ∧ Fr F w w' := by
  have hAt := at_any L (i : Int)
  unfold atV at hAt
  rw [if_pos ⟨by omega, by omega⟩, Int.toNat_natCast] at hAt
  have HAt := Lib.hid hAt
  have hW := Lib.hid (waits_any L i hi hs t)
  obtain ⟨oki, cur0, v, K, hoki, hdone⟩ := L.lk i hi
  have hself : xs.set i (xs.getD i ls0) = xs := by rw [List.getD_eq_getElem?_getD, List.getElem?_eq_getElem hi]; exact List.set_getElem_self hi
  obtain ⟨x, hx⟩ : ∃ x, xs.getD i ls0 = x := ⟨_, rfl⟩
  rw [hx] at hW K hself hs ⊢
  have HL := Lib.hid L
  have HD := Lib.hid hdone
  have HO := Lib.hid hoki
  have HS := Lib.hid hs
  have HK := Lib.hid K
  have HSelf := Lib.hid hself
  have HX := Lib.hid hx
  clear hAt L hdone hoki hs hself hx
  obtain ⟨c0, c1, c2, c3, c4⟩ := K.cc.c
  have z0 := K.cc.fz
  have hlt := K.cc.lbl
  clear K
  have hquiet : ∀ w', Below w.heap.size w w' → LocksAt w' (fun k => F k ∨ w.heap.size ≤ k) h lb (xs.set i x) ∧ Fr F w w' := fun w' hb => by
    rw [HSelf.out]
    exact ⟨(HL.out.behind hb).mono (fun k hk => .inl hk), Fr.of_below F hb⟩
  have HQ := Lib.hid hquiet
  clear hquiet
  unfold takeP
  unfold lkp at HAt hW
  by_cases h1 : t < 0 ∨ s < 0
  · rw [if_pos h1]
    show Calls _ _ _ _ fun e w' => e = .returned (tkV false 1) ∧ LocksAt w' (fun k => F k ∨ w.heap.size ≤ k) h lb (xs.set i x) ∧ Fr F w w'
    by_cases h2 : t < 0
    · have b1 : decide (t < 0) = true := by simp [h2]
      go_enter Try.func48, Try.ntmps48
      go_wp2_with (first | (go_at_call 98; refine (HAt.out).mono ?_; rintro e w1 ⟨rfl, hw9⟩; rw [hw9]; clear hw9) | fail)
      go_ret2
      exact ⟨rfl, HQ.out _ (Below.refl _ _)⟩
    · have b1 : decide (t < 0) = false := decide_eq_false h2
      have b2 : decide (s < 0) = true := by simp; omega
      go_enter Try.func48, Try.ntmps48
      go_wp2_with (first | (go_at_call 98; refine (HAt.out).mono ?_; rintro e w1 ⟨rfl, hw9⟩; rw [hw9]; clear hw9) | fail)
      go_ret2
      exact ⟨rfl, HQ.out _ (Below.refl _ _)⟩
  · rw [if_neg h1]
    have b1 : decide (t < 0) = false := by simp; omega
    have b2 : decide (s < 0) = false := by simp; omega
    clear h1
    by_cases h2 : x.held = true ∧ x.owner = t
    · rw [if_pos h2]
      show Calls _ _ _ _ fun e w' => e = .returned (tkV false 8) ∧ LocksAt w' (fun k => F k ∨ w.heap.size ≤ k) h lb (xs.set i x) ∧ Fr F w w'
      rw [h2.1] at c0
      rw [h2.2] at c1
      clear h2
      go_enter Try.func48, Try.ntmps48
      go_wp2_with (first | (go_at_call 98; refine (HAt.out).mono ?_; rintro e w1 ⟨rfl, hw9⟩; rw [hw9]; clear hw9) | fail)
      go_ret2
      exact ⟨rfl, HQ.out _ (Below.refl _ _)⟩
    · rw [if_neg h2]
      have b3 : (x.owner == t) = (x.owner == t) := rfl
      cases hwt : waitsB x.round t with
      | true =>
        rw [if_pos rfl]
        show Calls _ _ _ _ fun e w' => e = .returned (tkV false 9) ∧ LocksAt w' (fun k => F k ∨ w.heap.size ≤ k) h lb (xs.set i x) ∧ Fr F w w'
        rw [hwt] at hW
        cases hh : x.held with
        | true =>
          have b4 : (x.owner == t) = false := by simp; exact fun q => h2 ⟨hh, q⟩
          rw [hh] at c0
          clear h2 b3 hwt
          generalize x.owner = ow at *
          go_enter Try.func48, Try.ntmps48
          go_wp2_with (first | (go_at_call 98; refine (HAt.out).mono ?_; rintro e w1 ⟨rfl, hw9⟩; rw [hw9]; clear hw9) | (go_at_call 99; refine (hW.out).mono ?_; rintro e w1 ⟨rfl, hb1⟩) | fail)
          go_ret2
          exact ⟨rfl, HQ.out _ hb1⟩
        | false =>
          rw [hh] at c0
          clear h2 b3 hwt
          go_enter Try.func48, Try.ntmps48
          go_wp2_with (first | (go_at_call 98; refine (HAt.out).mono ?_; rintro e w1 ⟨rfl, hw9⟩; rw [hw9]; clear hw9) | (go_at_call 99; refine (hW.out).mono ?_; rintro e w1 ⟨rfl, hb1⟩) | fail)
          go_ret2
          exact ⟨rfl, HQ.out _ hb1⟩
      | false =>
        rw [if_neg (by simp)]
        rw [hwt] at hW
        cases hh : x.held with
        | false =>
          rw [if_pos rfl]
          rw [hh] at c0
          clear h2 b3 hwt
          go_enter Try.func48, Try.ntmps48
          go_upto_region 10 with (first | (go_at_call 98; refine (HAt.out).mono ?_; rintro e w1 ⟨rfl, hw9⟩; rw [hw9]; clear hw9) | (go_at_call 99; refine (hW.out).mono ?_; rintro e w1 ⟨rfl, hb1⟩) | fail)
          have K1 := HK.out.behind hb1
          obtain ⟨d0, d1, d2, d3, d4⟩ := K1.cc.c
          have y0 := K1.cc.fz
          rw [hh] at d0
          have HK1 := Lib.hid K1
          clear K1 c0 c1 c2 c3 c4 z0
          go_wp2
          go_ret2
          have K2 := HK1.out.set (x' := ⟨true, x.owner, x.socket, x.passes, x.round⟩) 0 (by omega) (.bool true) rfl rfl
          have K3 := K2.set (x' := ⟨true, t, x.socket, x.passes, x.round⟩) 1 (by omega) (.int .i64 t) rfl rfl
          have K4 := K3.set (x' := ⟨true, t, s, x.passes, x.round⟩) 2 (by omega) (.int .i64 s) rfl rfl
          have K5 := K4.set (x' := ⟨true, t, s, 0, x.round⟩) 3 (by omega) (.int .i64 0) rfl rfl
          exact ⟨rfl, HD.out _ _ _ K5⟩
        | true =>
          rw [if_neg (by simp)]
          rw [hh] at c0
          have b4 : (x.owner == t) = false := by simp; exact fun q => h2 ⟨hh, q⟩
          obtain ⟨z, hz⟩ : ∃ z, oI (rowI x.round s) = z := ⟨_, rfl⟩
          have HR : Hid (∀ w1, Below w.heap.size w w1 → Calls Try.prog 100 #[.pointer (some ⟨lb, i * 5, none⟩), .int .i64 s] w1 fun e w' => e = .returned (.int .i64 z) ∧ Below w1.heap.size w1 w') := Lib.hid (fun w1 hb => by
            have := row_any (HL.out.behind hb) i hi (by rw [HX.out]; exact HS.out) s
            rw [HX.out, hz] at this
            exact this)
          have HZ := Lib.hid hz
          have HH := Lib.hid hh
          clear h2 b3 hwt hz hh
          go_enter Try.func48, Try.ntmps48
          go_upto_region 10 with (first | (go_at_call 98; refine (HAt.out).mono ?_; rintro e w1 ⟨rfl, hw9⟩; rw [hw9]; clear hw9) | (go_at_call 99; refine (hW.out).mono ?_; rintro e w1 ⟨rfl, hb1⟩) | fail)
          have K1 := HK.out.behind hb1
          have d0 := K1.cc.c.1
          rw [HH.out] at d0
          have HB1 := Lib.hid hb1
          clear K1 c0 c1 c2 c3 c4 z0 hb1
          go_upto_if 66 with (first | (go_at_call 100; refine ((HR.out w1 HB1.out)).mono ?_; rintro e w2 ⟨rfl, hb2⟩) | fail)
          have K2 := HK.out.behind (Below_trans HB1.out hb2)
          clear hb2 HB1
          obtain ⟨d0, d1, d2, d3, d4⟩ := K2.cc.c
          have z2 := K2.cc.fz
          have hlt2 := K2.cc.lbl
          clear d0 d1 d2 d3
          obtain ⟨A, c, hv⟩ := Kd.S_slice K2.rows
          rw [hv] at d4
          obtain ⟨m, hm⟩ : ∃ m, x.round.length = m := ⟨_, rfl⟩
          rw [hm] at hv d4
          have HK2 := Lib.hid K2
          have HM := Lib.hid hm
          have HV := Lib.hid hv
          clear K2 hm hv
          go_cut [11] (fun v11 wc => ∃ (k : Nat) (r2 : List Rw) (v2 : Value), v11 = .int .i64 (k : Int) ∧ Aside0 (k < r2.length) ∧ Aside0 (addAt r2 k t = addP x.round s t) ∧ Aside0 ((rg r2 k).2.length ≤ 1000000) ∧ Aside0 (Lk w lb i cur0 oki wc { x with round := r2 } v2))
          case first =>
            cases hrw : rowI x.round s with
            | none =>
              have hzn : z = -1 := by rw [← HZ.out, hrw]; rfl
              have hwsz : w.heap.size ≤ w2.heap.size := HK2.out.cc.fr.size
              have HW := Lib.hid hwsz
              have HRW := Lib.hid hrw
              have HS2 : Hid (SRow w2 (fun k => (oki k ∨ w.heap.size ≤ k) ∧ ¬ (fun _ : Nat => False) k) (.slice A m c) x.round) := Lib.hid (Kd.S_mono (HV.out ▸ HK2.out.rows) (fun k hk => ⟨hk, fun q => q⟩))
              have HB9 : Hid ((x.round.length + 1) * 32 ≤ 140737488355328) := Lib.hid (by have := HS.out.1; omega)
              clear HR hwsz hrw
              subst hzn
              go_wp2_with (first
                | (at_builtin; refine Kd.S_append kRow (w0 := w2) 0 rfl (.tmp 76) (.tmp 79) 150 154 (.agg #[.int .i64 0, .slice none 0 0]) 32 rfl Try.underlying150 infoRow rfl (by decide) (by decide) (.slice A m c) x.round (s, []) [.int .i64 s, .slice none 0 0] (fun k => oki k ∨ w.heap.size ≤ k) (fun _ => False) rfl rfl (kRow_mk (p := (s, [])) (Kd.R_nil _ _ _ _ _)) (fun _ q => q.elim) (fun k hk => .inr (Nat.le_trans HW.out hk)) HS2.out ⟨rfl, rfl, rfl, Nat.le_refl _, fun _ hk => absurd hk (Nat.not_lt_zero _)⟩ (Nat.zero_le _) HB9.out ?_; intro v1 w3 hS3 hB3 hg3 hat3; obtain ⟨A1, c1, e1_⟩ := Kd.S_slice hS3; subst e1_; obtain ⟨m1, hm1⟩ : ∃ m1, (x.round ++ [(s, [])]).length = m1 := ⟨_, rfl⟩; rw [hm1] at hS3 ⊢; clear hm1; have K3 := HK2.out.cc.grown hg3 (fun k hk => (Kd.S_R HK2.out.rows).1 k (by rw [HV.out]; exact hk)); have q4 := K3.c.2.2.2.2; have zz := K3.fz; rw [HV.out] at q4; have HK3 := Lib.hid K3; have HS3 := Lib.hid hS3; clear K3 hS3 hB3 hg3 hat3)
                | fail)
              go_meet
              case rel =>
                refine ⟨m, x.round ++ [(s, [])], _, rfl, ⟨?_⟩, ⟨?_⟩, ⟨?_⟩, ⟨HK3.out.setR HS3.out⟩⟩
                · rw [List.length_append, HM.out]; simp
                · unfold addP addAt rg
                  rw [HRW.out, ← HM.out]
                  simp
                · unfold rg
                  rw [← HM.out]
                  simp
            | some k =>
              have hzk : z = (k : Int) := by rw [← HZ.out, hrw]; rfl
              obtain ⟨hkl, hks⟩ := rowI_some hrw
              have h5 : addAt x.round k t = addP x.round s t := by unfold addP; rw [hrw]
              have h6 : (rg x.round k).2.length ≤ 1000000 := HS.out.2 _ (by rw [rg_at hkl]; exact List.getElem_mem _)
              have HKL := Lib.hid hkl
              have H5 := Lib.hid h5
              have H6 := Lib.hid h6
              clear HR hrw hks hkl h5 h6
              subst hzk
              have b5 : decide ((k : Int) < 0) = false := by simp
              go_wp2
              go_meet
              case rel => exact ⟨k, x.round, v, rfl, ⟨HKL.out⟩, ⟨H5.out⟩, ⟨H6.out⟩, ⟨HK2.out.cc.with HK2.out.rows⟩⟩
          case rest =>
            obtain ⟨k, r2, v2, rfl, hk, hadd, hlen, K⟩ := hcut
            have hkk := hk.out
            have K0 := K.out
            have hrows : SRow wc (fun k => oki k ∨ w.heap.size ≤ k) v2 r2 := K0.rows
            have KC : LkC w lb i cur0 oki wc { x with round := r2 } v2 := K0.cc
            clear K0 K HR HZ
            obtain ⟨n2, hn2⟩ : ∃ n2, r2.length = n2 := ⟨_, rfl⟩
            rw [hn2] at hkk
            obtain ⟨rb, cap, rfl, _, _, _⟩ := Kd.S_form hrows (by omega)
            rw [hn2] at hrows KC
            obtain ⟨hokrb, hrbl, ok2, tv, e0, e1, ez, hR, hok2, hre⟩ := row_task hrows k hkk
            obtain ⟨TA, tc, rfl⟩ := Kd.R_slice hR
            have d5 := KC.c.2.2.2.2
            have zl := KC.fz
            have hrl := KC.ne hokrb
            have hlbw : lb < wc.heap.size := Nat.lt_of_lt_of_le KC.lbl KC.fr.size
            obtain ⟨ts, hts⟩ : ∃ ts, (rg r2 k).2 = ts := ⟨_, rfl⟩
            rw [hts] at e1 hR
            have hTL := Lib.hid (show (ts.length + 1) * 8 ≤ 140737488355328 by rw [← hts]; have := hlen.out; omega)
            have hwsz : w.heap.size ≤ wc.heap.size := KC.fr.size
            obtain ⟨tl, htl⟩ : ∃ tl, ts.length = tl := ⟨_, rfl⟩
            rw [htl] at e1 hR
            have hk0 : ((0 : Int) ≤ (k : Int) ∧ (k : Int) < (n2 : Int)) := by omega
            have hk1 := eq_true hk0
            have HRE : Hid (∀ w1 tv1, Fr (fun b => ok2 b) wc w1 → Kd.R (Kd.int .i64) 3 w1 0 (fun b => ok2 b ∨ wc.heap.size ≤ b) tv1 (ts ++ [t]) → (LocksAt (w1.setCell ⟨rb, k * 2 + 1, none⟩ tv1) (fun k => F k ∨ w.heap.size ≤ k) h lb (xs.set i ⟨x.held, x.owner, x.socket, x.passes, addP x.round s t⟩) ∧ Fr F w (w1.setCell ⟨rb, k * 2 + 1, none⟩ tv1)) ∧
                w1.cell? ⟨rb, k * 2 + 1, none⟩ = some (.slice TA tl tc) ∧ (∀ j, w1.frozen? ⟨rb, j, none⟩ = false) ∧ w1.cell? ⟨lb, i * 5 + 4, none⟩ = some (.slice (some ⟨rb, 0, none⟩) n2 cap)) := Lib.hid (by
              intro w1 tv1 hF1 hR1
              obtain ⟨g1, g2, g3, g4, g5⟩ := hre w1 tv1 (ts ++ [t]) hF1 hR1
              have G1 : Fr (fun k => oki k ∨ w.heap.size ≤ k) wc w1 := hF1.mono (fun b _ q => (hok2 b q).1)
              have G2 : Fr (fun k => oki k ∨ w.heap.size ≤ k) wc (w1.setCell ⟨rb, k * 2 + 1, none⟩ tv1) := g2.mono (fun b _ q => q.elim (fun e => e ▸ hokrb) (fun q => (hok2 b q).1))
              have hadd' : r2.set k ((rg r2 k).1, ts ++ [t]) = addP x.round s t := by rw [← hadd.out]; unfold addAt; rw [hts]
              rw [hadd'] at g1
              exact ⟨HD.out _ _ _ ((KC.mid G2).with (Kd.S_mono g1 (fun b q => q.elim id (fun q => .inr (Nat.le_trans hwsz q))))), by rw [hts, htl] at g4 <;> exact g4, g5, (KC.mid G1).c.2.2.2.2⟩)
            have hRk : Kd.R (Kd.int .i64) 3 wc 0 (fun b => ok2 b ∨ wc.heap.size ≤ b) (.slice TA tl tc) ts := Kd.R_mono hR (fun b q => .inl q)
            have HRK := Lib.hid hRk
            have HOW : Hid (∀ b, (Value.slice TA tl tc).ownBlock = some b → ok2 b) := Lib.hid hR.1
            clear hre hR hRk hrows KC hlen hadd hk hok2 hokrb hts htl hn2 hk0 hwsz
            obtain ⟨tm, htm⟩ : ∃ tm, (ts ++ [t]).length = tm := ⟨_, rfl⟩
            have HTM := Lib.hid htm
            clear htm
            go_wp2
            go_region_law (refine Kd.R_append_step (Kd.int .i64) (w0 := wc.drew) (W := wc.drew) 0 (by simp [Region.wanted]) (.tmp 95) (.tmp 97) 27 3 (.int .i64 0) 8 rfl Try.underlying27 infoInt rfl (by decide) (by decide) (.slice TA tl tc) ts t [.int .i64 t] (fun b => ok2 b ∨ wc.heap.size ≤ b) (fun _ => False) (by simp [Act.eval, Act.put]) (by simp [Act.eval, Act.put]) rfl (fun _ q => q.elim) (fun k hk => .inr hk) (show Kd.R (Kd.int .i64) 3 wc.drew 0 _ _ _ from HRK.out) ⟨rfl, rfl, rfl, Nat.le_refl _, fun _ hk => absurd hk (Nat.not_lt_zero _)⟩ (Nat.zero_le _) hTL.out ?_; intro v1 w1 hrow1 hB1 hg1 hat1; obtain ⟨A1, c1, e1_⟩ := Kd.R_slice hrow1; subst e1_; have hF1 : Fr (fun b => ok2 b) wc w1 := Fr.of_grown (w := wc) ⟨hg1.os, hg1.tape, hg1.output, hg1.size, hg1.block⟩ (fun b hb => HOW.out b hb); obtain ⟨hfin, q1, q2, q3⟩ := HRE.out w1 _ hF1 hrow1; rw [HTM.out] at hfin ⊢; have HFin := Lib.hid hfin; clear hfin hF1 hrow1 hB1 hg1 hat1)
            all_goals (clear d5 e0 e1 ez zl)
            all_goals go_wp2
            all_goals go_ret2
            all_goals exact ⟨rfl, by have q_ := HFin.out; rw [HH.out] at q_; exact q_⟩
end
end Go.Proofs.Ytgiimdoabkcoaaa.Co
