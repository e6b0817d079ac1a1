/-
The statement ExecSplits, walked.
-/
import Derived.Test.YtkegdcnnankokaaExecLives
import Derived.Test.YtkegdcnnankokaaRunAny
import Derived.Test.YtkegdcnnankokaaEqRegs
import Derived.Test.YtkegdcnnankokaaSplitSpec
import Derived.Test.YtkegdcnnankokaaMid
namespace Go.Proofs.Ytkegdcnnankokaa
set_option linter.unusedVariables false
set_option linter.unusedSimpArgs false
open Go.RowKit

theorem drew_alloc (W : World) (o : Obj) : (W.alloc o).drew = W.drew.alloc o := rfl

theorem OwnM.nums {W : World} {osA os : Array Obj} {dA : Nat} {R E : Obj} {e : TypeId} {k : IntKind} {v : Value} {xs : List Int} (h : OwnM W.heap.size osA.size osA os e 1 v xs.length (xs.map (Value.int k))) :
    ∃ A c, v = .slice A xs.length c ∧ xs.length ≤ c ∧ c ≤ maxLen ∧ ∀ d, NumsAt ((((W.ext osA dA).alloc R).alloc E).ext os d) k A xs := by
  rcases h with h | h
  · obtain ⟨A, c, h1, h2, h3, h4⟩ := OwnE.nums h
    exact ⟨A, c, h1, h2, h3, fun d => (h4 dA).below (by repeat (first | exact bel_refl _ | with_reducible apply bel_alloc | with_reducible apply bel_ext | with_reducible apply bel_drew | with_reducible apply bel_drewN | ((with_reducible refine bel_set ?_ (by simp <;> omega))) | ((with_reducible refine bel_trans ?_ (by assumption)))))⟩
  · have hs : (((W.ext osA dA).alloc R).alloc E).heap.size = W.heap.size + osA.size + 2 := by simp [World.ext_size]
    rw [← hs] at h
    exact OwnE.nums h

set_option maxRecDepth 100000 in
set_option maxHeartbeats 8000000 in
theorem splits_good (prio : Int) (r0 : Regs) (A : Option Addr) (c : Nat) (l : List Ins) (w : World) (a b : Nat) (ha : a < 100) (hb : b < 100) (hc : l.length ≤ c) (hA : InsAt w A l) (hwf : InsWf l) (E2 : Int) (hE : checkS prio l = (0, E2)) :
    Calls Try.prog 35 #[.agg #[.int .i64 prio, .slice A l.length c], .agg #[.int .i32 (r0).r0, .int .i32 (r0).r1, .int .i32 (r0).r2, .int .i32 (r0).r3], .int .i64 a, .int .i64 b] w fun e w' => e = .returned (.bool true) ∧ Below w.heap.size w w' := by
  have HL := Lib.hid (light_any prio A l.length c)
  have hlen := (checkS_ok (prio := prio) (l := l) (by rw [hE])).2.1
  have hd : decide (l.length ≤ 80) = true := decide_eq_true (by omega)
  rw [hd] at HL
  have HC := fun w (hA : InsAt w A l) => rcheck_any prio A c l w hc hA hwf
  rw [hE] at HC
  have S1 := fun w (hA : InsAt w A l) => run_any prio r0 A c l w (a : Int) (by omega) hc hA hwf
  have S2 := fun pc r w (hA : InsAt w A l) => step_top prio pc r A c l w hc hA hwf
  have S3 := fun w (hA : InsAt w A l) => (run_any prio r0 A c l w ((a : Int) + b) (by omega) hc hA hwf).mono (fun _ _ h => runPostN_of h)
  have hz := runT_zero (prio := prio) (l := l) (((a : Int) + b).toNat) 0 r0 []
  have hsp := runT_split prio l a b 0 r0 []
  have ht1 := runT_told prio l a 0 r0 []
  have hz1 := runT_zero (prio := prio) (l := l) a 0 r0 []
  rw [show ((a : Int) + b).toNat = a + b by omega] at S3 hz
  rw [show ((a : Int)).toNat = a by omega] at S1
  generalize runT prio l a 0 r0 [] = q0 at S1 hsp ht1 hz1
  generalize runT prio l (a + b) 0 r0 [] = res at S3 hsp hz
  have H1 := Lib.hid S1
  have H2 := Lib.hid S2
  have H3 := Lib.hid S3
  have HC' := Lib.hid HC
  have HA := Lib.hid hA
  have Hsp := Lib.hid hsp
  have Hz1 := Lib.hid hz1
  have hai : (a : Int) < 100 := by omega
  have hbi : (b : Int) < 100 := by omega
  obtain ⟨q0pc, q0rs, q0t, q0op, q0reg, q0n⟩ := q0
  simp only [List.length_nil, Nat.zero_add] at ht1
  clear S1 S2 S3 HC hA hwf hd hE hsp hz hz1
  go_enter Try.func35, Try.ntmps35
  go_wp2_with fail
  refine (HC'.out _ (HA.out.below (by repeat (first | exact bel_refl _ | with_reducible apply bel_alloc | with_reducible apply bel_ext | with_reducible apply bel_drew | with_reducible apply bel_drewN | ((with_reducible refine bel_set ?_ (by simp <;> omega))) | ((with_reducible refine bel_trans ?_ (by assumption))))))).mono ?_
  rintro e wx1 ⟨rfl, hb1⟩; obtain ⟨os1, d1, rfl⟩ := World.ext_of_below hb1; clear hb1
  go_wp2_with fail
  refine (HL.out _).mono ?_
  rintro e wx2 ⟨rfl, hb2⟩; obtain ⟨os2, d2, rfl⟩ := World.ext_of_below hb2; clear hb2
  go_wp2_with fail
  refine (H1.out _ (HA.out.below (by repeat (first | exact bel_refl _ | with_reducible apply bel_alloc | with_reducible apply bel_ext | with_reducible apply bel_drew | with_reducible apply bel_drewN | ((with_reducible refine bel_set ?_ (by simp <;> omega))) | ((with_reducible refine bel_trans ?_ (by assumption))))))).mono ?_
  rintro e w2 ⟨v0, osA, dA, rfl, rfl, hown⟩
  have hown2 : OwnE (w.heap.size + 1 + 1) (os1 ++ (os2 ++ osA)) 21 1 v0 q0t.length (q0t.map (Value.int .i32)) := by
    refine OwnE.behind (OwnE.behind ?_)
    refine cast (congrArg (fun n => OwnE n osA _ _ _ _ _) ?_) hown
    simp [World.ext_size] <;> omega
  clear hown
  simp only [World.ext_ext, Array.append_assoc]
  generalize os1 ++ (os2 ++ osA) = osX at hown2 ⊢
  go_wp2_with fail
  go_loopw [11, 13, 15] (fun p v i wr => ∃ (k : Nat) (q : RunRes) (osA os : Array Obj) (d : Nat), k ≤ b ∧ p = .int .i64 q.pc ∧ i = .int .i64 k ∧ oneByOne prio l (b - k) q = res ∧ q.told.length ≤ a + k ∧ (q.op = 0 → q.reg = 0 ∧ q.n = 0) ∧ osA.size = osX.size ∧
      wr = (((((w.alloc (.cells #[.int .i64 prio, .slice A l.length c] 43)).alloc (.cells #[.int .i32 r0.r0, .int .i32 r0.r1, .int .i32 r0.r2, .int .i32 r0.r3] 44)).ext osA dA).alloc (.cells #[.int .i32 q.rs.r0, .int .i32 q.rs.r1, .int .i32 q.rs.r2, .int .i32 q.rs.r3] 44)).alloc (.cells #[.int .i64 q.op, .int .i64 q.reg, .int .i32 q.n] 47)).ext os d ∧
      OwnM (w.heap.size + 1 + 1) osX.size osA os 21 1 v q.told.length (q.told.map (Value.int .i32))) (fun _ _ i _ => b - (intOf i).toNat)
  case atStart => exact ⟨0, ⟨q0pc, q0rs, q0t, q0op, q0reg, q0n⟩, osX, #[], dA, Nat.zero_le _, rfl, rfl, Hsp.out, ht1, Hz1.out, rfl, World.ext_self _, .inl hown2⟩
  case round =>
    obtain ⟨k, ⟨qpc, qrs, qt, qop, qreg, qn⟩, osB, os, d, hk, rfl, rfl, hrun, htl, hz, hsB, rfl, hown⟩ := hrel
    simp only at hown htl hz
    have Hz := Lib.hid hz
    have Hown := Lib.hid hown
    clear hz hown
    by_cases hlt : k < b
    · have hlt' : (k : Int) < b := by omega
      by_cases h0 : qop = 0
      · subst h0
        obtain ⟨rfl, rfl⟩ := Hz.out rfl
        have hd : b - k = (b - k - 1) + 1 := by omega
        rw [hd] at hrun
        have hS := H2.out qpc qrs
        have hzz := stepTop_zero (prio := prio) (l := l) (pc := qpc) (r := qrs)
        obtain ⟨s, hq⟩ : ∃ s, stepTop prio l qpc qrs = s := ⟨_, rfl⟩
        rw [hq] at hS hzz
        obtain ⟨spc, srs, sop, sreg, sn⟩ := s
        simp only at hzz
        have HS := Lib.hid hS
        have Hq := Lib.hid hq
        clear hS hq hd
        by_cases c0 : sop = 0
        · subst c0
          obtain ⟨rfl, rfl⟩ := hzz rfl
          have hr := (oneByOne_on (q := ⟨spc, srs, 0, 0, 0⟩) Hq.out (.inl rfl)).symm.trans hrun
          have Hr := Lib.hid hr
          clear hr hrun hzz
          go_wp2_with fail
          refine (HS.out _ (HA.out.below (by repeat (first | exact bel_refl _ | with_reducible apply bel_alloc | with_reducible apply bel_ext | with_reducible apply bel_drew | with_reducible apply bel_drewN | ((with_reducible refine bel_set ?_ (by simp <;> omega))) | ((with_reducible refine bel_trans ?_ (by assumption))))))).mono ?_
          rintro e wx5 ⟨rfl, hb5⟩; obtain ⟨os5, d5, rfl⟩ := World.ext_of_below hb5; clear hb5
          go_wp2_with fail
          go_region
          all_goals rw [drew_alloc, drew_alloc, World.ext_drew]
          all_goals go_wp2_with fail
          all_goals
            go_roundw
            case rel => exact ⟨k + 1, ⟨spc, srs, qt, 0, 0, 0⟩, osB, _, _, by omega, rfl, by go_num, (by rw [show b - (k + 1) = b - k - 1 by omega]; exact Hr.out), by dsimp only; omega, fun _ => ⟨rfl, rfl⟩, hsB, (by rw [World.ext_alloc, World.ext_alloc]), ((Hown.out.behind _).push _).push _⟩
            case measure => simp [intOf]; omega
        by_cases c6 : sop = 6
        · subst c6
          have hr := (oneByOne_on (q := ⟨spc, srs, 6, sreg, sn⟩) Hq.out (.inr rfl)).symm.trans hrun
          have Hr := Lib.hid hr
          clear hr hrun hzz c0
          go_wp2_with fail
          refine (HS.out _ (HA.out.below (by repeat (first | exact bel_refl _ | with_reducible apply bel_alloc | with_reducible apply bel_ext | with_reducible apply bel_drew | with_reducible apply bel_drewN | ((with_reducible refine bel_set ?_ (by simp <;> omega))) | ((with_reducible refine bel_trans ?_ (by assumption))))))).mono ?_
          rintro e wx5 ⟨rfl, hb5⟩; obtain ⟨os5, d5, rfl⟩ := World.ext_of_below hb5; clear hb5
          go_wp2_with fail
          go_region
          all_goals rw [drew_alloc, drew_alloc, World.ext_drew]
          all_goals go_wp2_with fail
          all_goals
            go_roundw
            case rel => exact ⟨k + 1, ⟨spc, srs, qt, 0, 0, 0⟩, osB, _, _, by omega, rfl, by go_num, (by rw [show b - (k + 1) = b - k - 1 by omega]; exact Hr.out), by dsimp only; omega, fun _ => ⟨rfl, rfl⟩, hsB, (by rw [World.ext_alloc, World.ext_alloc]), ((Hown.out.behind _).push _).push _⟩
            case measure => simp [intOf]; omega
        by_cases c13 : sop = 13
        · subst c13
          have hr := (oneByOne_out (q := ⟨spc, srs, 13, sreg, sn⟩) Hq.out rfl).symm.trans hrun
          have Hr := Lib.hid hr
          clear hr hrun hzz c0 c6
          go_wp2_with fail
          refine (HS.out _ (HA.out.below (by repeat (first | exact bel_refl _ | with_reducible apply bel_alloc | with_reducible apply bel_ext | with_reducible apply bel_drew | with_reducible apply bel_drewN | ((with_reducible refine bel_set ?_ (by simp <;> omega))) | ((with_reducible refine bel_trans ?_ (by assumption))))))).mono ?_
          rintro e wx5 ⟨rfl, hb5⟩; obtain ⟨os5, d5, rfl⟩ := World.ext_of_below hb5; clear hb5
          go_wp2_with fail
          go_region
          all_goals rw [drew_alloc, drew_alloc, World.ext_drew]
          all_goals go_wp2_with (at_builtin; rw [World.ext_alloc _ _ _ (.cells #[.int .i32 srs.r0, .int .i32 srs.r1, .int .i32 srs.r2, .int .i32 srs.r3] 44), World.ext_alloc _ _ _ (.cells #[.int .i64 13, .int .i64 sreg, .int .i32 sn] 47)]; refine wpList_append_mid _ _ _ _ _ _ _ rfl _ _ 55 21 (.int .i32 0) 1 4 rfl Try.underlying55 info_i32 rfl (by decide) (by decide) u13 qt.length 1 (qt.map (Value.int .i32)) _ _ ?_ rfl rfl rfl ?_ ?_ ?_ ?_; (simp [hsB] <;> omega); simp [Value.oneCell']; (refine OwnM.push (OwnM.push (OwnM.behind ?_ _) _) _; simpa [hsB] using Hown.out); omega; intro v2 osC os3 d3 hsC hown3)
          all_goals
            go_roundw
            case rel => exact ⟨k + 1, ⟨spc, srs, qt ++ [sn], 0, 0, 0⟩, osC, os3, d3, by omega, rfl, by go_num, (by rw [show b - (k + 1) = b - k - 1 by omega]; exact Hr.out), (by simp; omega), fun _ => ⟨rfl, rfl⟩, hsC.trans hsB, rfl, by simpa [hsB] using hown3⟩
            case measure => simp [intOf]; omega
        · have b0 : (sop == 0) = false := beq_eq_false_iff_ne.2 c0
          have b6 : (sop != 6) = true := by rw [bne_iff_ne]; exact c6
          have b13 : (sop == 13) = false := beq_eq_false_iff_ne.2 c13
          have hr := (oneByOne_asks (q := ⟨spc, srs, sop, sreg, sn⟩) Hq.out c0 c6 c13).symm.trans hrun
          have Hr := Lib.hid hr
          have Hc := Lib.hid c0
          clear hr hrun hzz c0 c6 c13
          go_wp2_with fail
          refine (HS.out _ (HA.out.below (by repeat (first | exact bel_refl _ | with_reducible apply bel_alloc | with_reducible apply bel_ext | with_reducible apply bel_drew | with_reducible apply bel_drewN | ((with_reducible refine bel_set ?_ (by simp <;> omega))) | ((with_reducible refine bel_trans ?_ (by assumption))))))).mono ?_
          rintro e wx5 ⟨rfl, hb5⟩; obtain ⟨os5, d5, rfl⟩ := World.ext_of_below hb5; clear hb5
          go_wp2_with fail
          go_region
          all_goals rw [drew_alloc, drew_alloc, World.ext_drew]
          all_goals go_wp2_with fail
          all_goals
            go_roundw
            case rel => exact ⟨k + 1, ⟨spc, srs, qt, sop, sreg, sn⟩, osB, _, _, by omega, rfl, by go_num, (by rw [show b - (k + 1) = b - k - 1 by omega]; exact Hr.out), by dsimp only; omega, fun e => absurd e Hc.out, hsB, (by rw [World.ext_alloc, World.ext_alloc]), ((Hown.out.behind _).push _).push _⟩
            case measure => simp [intOf]; omega
      · have hres : (⟨qpc, qrs, qt, qop, qreg, qn⟩ : RunRes) = res := (oneByOne_stop prio l (b - k) _ h0).symm.trans hrun
        have b0 : (qop == 0) = false := beq_eq_false_iff_ne.2 h0
        clear hrun h0
        subst hres
        have hq' : qt.length ≤ 1000000 := by omega
        have hE := eqRegs_self qrs
        obtain ⟨A2, c2, rfl, hc2, _, hN2⟩ := OwnM.nums (W := ((w.alloc (.cells #[.int .i64 prio, .slice A l.length c] 43)).alloc (.cells #[.int .i32 r0.r0, .int .i32 r0.r1, .int .i32 r0.r2, .int .i32 r0.r3] 44))) (osA := osB) (os := os) (dA := dA) (R := (.cells #[.int .i32 qrs.r0, .int .i32 qrs.r1, .int .i32 qrs.r2, .int .i32 qrs.r3] 44)) (E := (.cells #[.int .i64 qop, .int .i64 qreg, .int .i32 qn] 47)) (k := .i32) (xs := qt) (e := 21) (by simpa [hsB] using Hown.out)
        have HN2 := Lib.hid (hN2 d)
        clear hN2 htl
        go_wp2_with fail
        refine (H3.out _ (HA.out.below (by repeat (first | exact bel_refl _ | with_reducible apply bel_alloc | with_reducible apply bel_ext | with_reducible apply bel_drew | with_reducible apply bel_drewN | ((with_reducible refine bel_set ?_ (by simp <;> omega))) | ((with_reducible refine bel_trans ?_ (by assumption))))))).mono ?_
        rintro e w3 ⟨A3, c3, os3, d3, rfl, rfl, hc3, hN3⟩
        try simp only [World.ext_ext] at hN3
        have HN3 := Lib.hid hN3
        clear hN3
        have hN2b := HN2.out.below (World.below_ext _ os3 d3)
        simp only [World.ext_ext] at hN2b
        have HN2b := Lib.hid hN2b
        clear hN2b
        go_wp2_with fail
        refine (sameWords_true _ _ _ _ qt _ hq' hc2 hc3 (HN2b.out.below (by repeat (first | exact bel_refl _ | with_reducible apply bel_alloc | with_reducible apply bel_ext | with_reducible apply bel_drew | with_reducible apply bel_drewN | ((with_reducible refine bel_set ?_ (by simp <;> omega))) | ((with_reducible refine bel_trans ?_ (by assumption)))))) (HN3.out.below (by repeat (first | exact bel_refl _ | with_reducible apply bel_alloc | with_reducible apply bel_ext | with_reducible apply bel_drew | with_reducible apply bel_drewN | ((with_reducible refine bel_set ?_ (by simp <;> omega))) | ((with_reducible refine bel_trans ?_ (by assumption))))))).mono ?_
        rintro e wx6 ⟨rfl, hb6⟩; obtain ⟨os6, d6, rfl⟩ := World.ext_of_below hb6; clear hb6
        go_wp2_with fail
        go_ret
        refine ⟨rfl, ?_⟩
        repeat (first | exact bel_refl _ | with_reducible apply bel_alloc | with_reducible apply bel_ext | with_reducible apply bel_drew | with_reducible apply bel_drewN | ((with_reducible refine bel_set ?_ (by simp <;> omega))) | ((with_reducible refine bel_trans ?_ (by assumption))))
    · have hge : ¬ (k : Int) < b := by omega
      have hk0 : b - k = 0 := by omega
      rw [hk0] at hrun
      have hres : (⟨qpc, qrs, qt, qop, qreg, qn⟩ : RunRes) = res := hrun
      clear hrun hk0
      subst hres
      have hq' : qt.length ≤ 1000000 := by omega
      have hE := eqRegs_self qrs
      obtain ⟨A2, c2, rfl, hc2, _, hN2⟩ := OwnM.nums (W := ((w.alloc (.cells #[.int .i64 prio, .slice A l.length c] 43)).alloc (.cells #[.int .i32 r0.r0, .int .i32 r0.r1, .int .i32 r0.r2, .int .i32 r0.r3] 44))) (osA := osB) (os := os) (dA := dA) (R := (.cells #[.int .i32 qrs.r0, .int .i32 qrs.r1, .int .i32 qrs.r2, .int .i32 qrs.r3] 44)) (E := (.cells #[.int .i64 qop, .int .i64 qreg, .int .i32 qn] 47)) (k := .i32) (xs := qt) (e := 21) (by simpa [hsB] using Hown.out)
      have HN2 := Lib.hid (hN2 d)
      clear hN2 htl
      go_wp2_with fail
      refine (H3.out _ (HA.out.below (by repeat (first | exact bel_refl _ | with_reducible apply bel_alloc | with_reducible apply bel_ext | with_reducible apply bel_drew | with_reducible apply bel_drewN | ((with_reducible refine bel_set ?_ (by simp <;> omega))) | ((with_reducible refine bel_trans ?_ (by assumption))))))).mono ?_
      rintro e w3 ⟨A3, c3, os3, d3, rfl, rfl, hc3, hN3⟩
      try simp only [World.ext_ext] at hN3
      have HN3 := Lib.hid hN3
      clear hN3
      have hN2b := HN2.out.below (World.below_ext _ os3 d3)
      simp only [World.ext_ext] at hN2b
      have HN2b := Lib.hid hN2b
      clear hN2b
      go_wp2_with fail
      refine (sameWords_true _ _ _ _ qt _ hq' hc2 hc3 (HN2b.out.below (by repeat (first | exact bel_refl _ | with_reducible apply bel_alloc | with_reducible apply bel_ext | with_reducible apply bel_drew | with_reducible apply bel_drewN | ((with_reducible refine bel_set ?_ (by simp <;> omega))) | ((with_reducible refine bel_trans ?_ (by assumption)))))) (HN3.out.below (by repeat (first | exact bel_refl _ | with_reducible apply bel_alloc | with_reducible apply bel_ext | with_reducible apply bel_drew | with_reducible apply bel_drewN | ((with_reducible refine bel_set ?_ (by simp <;> omega))) | ((with_reducible refine bel_trans ?_ (by assumption))))))).mono ?_
      rintro e wx6 ⟨rfl, hb6⟩; obtain ⟨os6, d6, rfl⟩ := World.ext_of_below hb6; clear hb6
      go_wp2_with fail
      go_ret
      refine ⟨rfl, ?_⟩
      repeat (first | exact bel_refl _ | with_reducible apply bel_alloc | with_reducible apply bel_ext | with_reducible apply bel_drew | with_reducible apply bel_drewN | ((with_reducible refine bel_set ?_ (by simp <;> omega))) | ((with_reducible refine bel_trans ?_ (by assumption))))
set_option maxHeartbeats 1000000 in
theorem splits_bad (prio : Int) (r0 : Regs) (A : Option Addr) (c : Nat) (l : List Ins) (w : World) (a b : Nat) (ha : a < 100) (hb : b < 100) (hc : l.length ≤ c) (hA : InsAt w A l) (hwf : InsWf l) (E : Int × Int) (hE : checkS prio l = E) (h : (E.1 != 0) = true) :
    Calls Try.prog 35 #[.agg #[.int .i64 prio, .slice A l.length c], .agg #[.int .i32 (r0).r0, .int .i32 (r0).r1, .int .i32 (r0).r2, .int .i32 (r0).r3], .int .i64 a, .int .i64 b] w fun e w' => e = .returned (.bool true) ∧ Below w.heap.size w w' := by
  have HC := fun w (hA : InsAt w A l) => rcheck_any prio A c l w hc hA hwf
  rw [hE] at HC
  have HC' := Lib.hid HC
  have HA := Lib.hid hA
  obtain ⟨E1, E2⟩ := E
  simp only at h
  clear HC hA hwf hE
  go_enter Try.func35, Try.ntmps35
  go_wp2_with fail
  refine (HC'.out _ (HA.out.below (by repeat (first | exact bel_refl _ | with_reducible apply bel_alloc | with_reducible apply bel_ext | with_reducible apply bel_drew | with_reducible apply bel_drewN | ((with_reducible refine bel_set ?_ (by simp <;> omega))) | ((with_reducible refine bel_trans ?_ (by assumption))))))).mono ?_
  rintro e wx1 ⟨rfl, hb1⟩; obtain ⟨os1, d1, rfl⟩ := World.ext_of_below hb1; clear hb1
  go_wp2_with fail
  go_ret
  refine ⟨rfl, ?_⟩
  repeat (first | exact bel_refl _ | with_reducible apply bel_alloc | with_reducible apply bel_ext | with_reducible apply bel_drew | with_reducible apply bel_drewN | ((with_reducible refine bel_set ?_ (by simp <;> omega))) | ((with_reducible refine bel_trans ?_ (by assumption))))

theorem splits_any (prio : Int) (r0 : Regs) (A : Option Addr) (c : Nat) (l : List Ins) (w : World) (a b : Nat) (ha : a < 100) (hb : b < 100) (hc : l.length ≤ c) (hA : InsAt w A l) (hwf : InsWf l) :
    Calls Try.prog 35 #[.agg #[.int .i64 prio, .slice A l.length c], .agg #[.int .i32 (r0).r0, .int .i32 (r0).r1, .int .i32 (r0).r2, .int .i32 (r0).r3], .int .i64 a, .int .i64 b] w fun e w' => e = .returned (.bool true) ∧ Below w.heap.size w w' := by
  by_cases h : (checkS prio l).1 = 0
  · exact splits_good prio r0 A c l w a b ha hb hc hA hwf (checkS prio l).2 (by rw [← h])
  · exact splits_bad prio r0 A c l w a b ha hb hc hA hwf _ rfl (by rw [bne_iff_ne]; exact h)

end Go.Proofs.Ytkegdcnnankokaa
