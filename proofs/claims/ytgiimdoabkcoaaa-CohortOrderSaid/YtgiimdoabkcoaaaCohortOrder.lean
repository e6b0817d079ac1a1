/-
Of one socket's tasks those that waited earlier are told earlier; who waits is told within the bound: the statement's own function, walked.
-/
import Derived.Test.YtgiimdoabkcoaaaCoOrdM
import Derived.Test.YtgiimdoabkcoaaaCohortBudget
import Derived.Deep.QuietTactic
import Derived.BigQuiet
namespace Go.Proofs.Ytgiimdoabkcoaaa.Co
set_option linter.unusedVariables false
set_option linter.unusedSimpArgs false
open Go.RowKit Go.Proofs.YtgiimdoabkcoaaaW.PrintWords Go.Proofs.YtgiimdoabkcoaaaW.PrintLast Go.Proofs.YtgiimdoabkcoaaaW.PrintMore
attribute [local go_sem] max2_int min2_int
theorem bound_num {cnt : Nat} (h : cnt ≤ 100) : wrap64 ((cnt : Int) + 1) = ((cnt + 1 : Nat) : Int) ∧ wrap64 (((cnt + 1 : Nat) : Int) * 6) = ((6 * (cnt + 1) : Nat) : Int) ∧ wrap64 (((6 * (cnt + 1) : Nat) : Int) * 4) = ((24 * (cnt + 1) : Nat) : Int) := by
  refine ⟨?_, ?_, ?_⟩
  · rw [wrap_nat (by omega) (by omega)]; push_cast; rfl
  · rw [wrap_nat (by omega) (by omega)]; push_cast; omega
  · rw [wrap_nat (by omega) (by omega)]; push_cast; omega
theorem cnt_snoc {ws : List Wt} {s : Int} {j : Nat} (h : j < ws.length) : (ofS (ws.take (j + 1)) s).length = (ofS (ws.take j) s).length + if (wg ws j).2 = s then 1 else 0 := by
  unfold ofS
  rw [List.take_succ_eq_append_getElem h, List.filter_append, List.length_append, wg_at h]
  by_cases e : ws[j].2 = s <;> simp [e]
set_option maxRecDepth 100000 in
set_option maxHeartbeats 4000000 in
theorem order_any (A : Option Addr) (c : Nat) (l : List OpS) (w : World) (hA : Kd.C kOp w A l.length l) (hc : l.length ≤ c) (hk : ∀ o ∈ l, 0 ≤ o.k ∧ o.k ≤ 18446744073709551615) :
    Calls Try.prog 11 #[.slice A l.length c] w fun e w' => e = .returned (.bool true) ∧ Below w.heap.size w w' := by
  obtain ⟨m, hm, hml, hm80⟩ := cut80 l.length
  have h0 := Lib.hid (new_c1 w)
  have HA := Lib.hid hA
  have HK := Lib.hid hk
  obtain ⟨n0, hn0⟩ : ∃ n0, l.length = n0 := ⟨_, rfl⟩
  have HN := Lib.hid hn0
  rw [hn0] at hm hml hc ⊢
  have hm1 : (0 : Int) ≤ (m : Int) ∧ (m : Int) ≤ (n0 : Int) := by omega
  have hm2 := eq_true hm1
  clear hA hk hn0 hm1
  go_enter Try.func11, Try.ntmps11
  go_wp2_with (first | (go_at_call 47; refine (h0.out).mono ?_; rintro e w1 ⟨h, lb, rfl, c1⟩; have C0 := Lib.hid c1; clear c1) | fail)
  clear h0
  go_loopg [4, 5, 33] m (fun gg v4 v5 v33 wr => ∃ (kk : Nat) (x : LS) (ws : List Wt) (lf : List Int) (A4 A5 : Option Addr) (n4 c4 n5 c5 : Nat), kk ≤ m ∧ m - kk ≤ gg ∧ v33 = .int .i64 kk ∧ v4 = .slice A4 n4 c4 ∧ v5 = .slice A5 n5 c5 ∧ Aside0 (OI kk x ws lf) ∧ Aside0 (OS w wr h lb x ws lf (.slice A4 n4 c4) (.slice A5 n5 c5)))
  case atStart => exact ⟨0, ls0, [], [], none, none, 0, 0, 0, 0, Nat.zero_le _, by omega, rfl, rfl, rfl, ⟨oi0⟩, ⟨OS.start C0.out⟩⟩
  case round =>
    obtain ⟨kk, x, ws, lf, A4, A5, n4, c4, n5, c5, hkk, hg, rfl, rfl, rfl, HI, HC⟩ := hrel
    by_cases hlt : kk < m
    · have hltz : (kk : Int) < (m : Int) := by omega
      obtain ⟨ad, o, rfl, hmem, f0, f1, f2, f3⟩ := op_at HA.out (Nat.le_refl _) HC.out.bel (i := kk) (by rw [HN.out]; omega)
      obtain ⟨hk0, hk1⟩ := HK.out o hmem
      clear hmem
      go_upto_if 40 with (fail)
      obtain ⟨O, hO⟩ : ∃ O, wr.alloc (.cells #[.int .u64 o.k, .int .i64 o.l, .int .i64 o.t, .int .i64 o.s] 90) = O := ⟨_, rfl⟩
      have hbO : Below wr.heap.size wr O := hO ▸ (Below.refl wr.heap.size wr).alloc (Nat.le_refl _) _
      have b2 : O.cell? ⟨wr.heap.size, 2, none⟩ = some (.int .i64 o.t) := by rw [← hO]; simp [go_sem]
      have b3 : O.cell? ⟨wr.heap.size, 3, none⟩ = some (.int .i64 o.s) := by rw [← hO]; simp [go_sem]
      rw [hO]
      have HCO := Lib.hid (HC.out.behind hbO)
      have HSm : Hid (Sm 1000000 x) := Lib.hid (HI.out.sm.more (by omega))
      clear hO hbO HC f0 f1 f2 f3
      cases he : (o.k % 2 == 0) with
      | true =>
        obtain ⟨tt, htt⟩ : ∃ tt, max 0 (min o.t 30) = tt := ⟨_, rfl⟩
        obtain ⟨ss, hss⟩ : ∃ ss, max 0 (min o.s 5) = ss := ⟨_, rfl⟩
        have hs2 : 0 ≤ ss ∧ ss ≤ 5 := by omega
        have HS2 := Lib.hid hs2
        clear hk0 hk1 hs2
        go_upto_region 9 with (fail)
        go_quiet (fail)
        obtain ⟨W2, hW2⟩ : ∃ W2, O.drewN nq = W2 := ⟨_, rfl⟩
        have hb2 : Below O.heap.size O W2 := hW2 ▸ bel_drewN (Below.refl _ _) nq
        have HC2 := Lib.hid (HCO.out.behind hb2)
        have hbi := HI.out.take (t := tt) (s := ss) HS2.out (by omega)
        have htake := HC2.out.take HSm.out tt ss
        obtain ⟨⟨x1, b1, e1⟩, hT⟩ : ∃ q, takeP x tt ss = q := ⟨_, rfl⟩
        rw [hT] at hbi htake
        unfold tkV at htake
        dsimp only at htake hbi
        have HTake := Lib.hid htake
        have HBi := Lib.hid hbi
        rw [hW2]
        clear hW2 hb2 hT htake hbi htt hss b2 b3
        by_cases he0 : e1 = 0 ∧ b1 = false
        · obtain ⟨rfl, rfl⟩ := he0
          have hbi := HBi.out
          rw [if_pos ⟨rfl, rfl⟩, if_pos ⟨rfl, rfl⟩] at hbi
          have HBi2 := Lib.hid hbi
          clear hbi HBi
          go_upto_region 14 with (first
            | (go_at_call 48; refine (HTake.out).mono ?_; rintro e w4 ⟨rfl, c4_⟩; have HC4 := Lib.hid c4_; clear c4_)
            | fail)
          go_loopg [12, 64] n4 (fun gg v12 v64 wi => ∃ j : Nat, j ≤ n4 ∧ n4 - j ≤ gg ∧ v64 = .int .i64 j ∧ v12 = .int .i64 ((ofS (ws.take j) ss).length : Int) ∧ Aside0 (OS w wi h lb x1 ws lf (.slice A4 n4 c4) (.slice A5 n5 c5)))
          case atStart => exact ⟨0, Nat.zero_le _, by omega, rfl, by simp [ofS], ⟨HC4.out⟩⟩
          case round =>
            obtain ⟨j, hj, hg2, rfl, rfl, HCi⟩ := hrel
            obtain ⟨X, r1, hput⟩ := HCi.out.putW
            have hnl : n4 = ws.length := (Kd.R_reads' r1).1
            have hwl := HI.out.wl
            have hcb0 : (ofS (ws.take j) ss).length ≤ 100 := by
              have h1 : (ofS (ws.take j) ss).length ≤ (ws.take j).length := List.length_filter_le _ _
              rw [List.length_take] at h1
              omega
            by_cases hlt2 : j < n4
            · have hltz2 : (j : Int) < (n4 : Int) := by omega
              obtain ⟨hz6, q, rfl, hql, e0, e1⟩ := w_at r1 hlt2
              clear hz6
              have hsn := cnt_snoc (ws := ws) (s := ss) (j := j) (by omega)
              obtain ⟨cn, hcn⟩ : ∃ cn, (ofS (ws.take j) ss).length = cn := ⟨_, rfl⟩
              obtain ⟨u, hu⟩ : ∃ u, (wg ws j).2 = u := ⟨_, rfl⟩
              obtain ⟨u1, hu1⟩ : ∃ u1, (wg ws j).1 = u1 := ⟨_, rfl⟩
              rw [hcn] at hcb0 hsn ⊢
              rw [hu] at e1 hsn
              rw [hu1] at e0
              have hbO : Below wr.heap.size wr (wr.alloc (.cells #[.int .i64 u1, .int .i64 u] 95)) := (Below.refl wr.heap.size wr).alloc (Nat.le_refl _) _
              have HCj := Lib.hid (HCi.out.behind hbO)
              have hn4b : n4 ≤ 100 := by omega
              clear hbO hput r1 hnl hwl hcn hu hu1
              by_cases hus : u = ss
              · have hb : (u == ss) = true := by simp [hus]
                rw [if_pos hus] at hsn
                have HSN := Lib.hid hsn
                clear hus hsn
                go_wp2
                go_roundg (n4 - (j + 1))
                case measure => omega
                case rel => exact ⟨j + 1, by omega, by omega, by go_num, by rw [HSN.out]; go_num, ⟨HCj.out⟩⟩
              · have hb : (u == ss) = false := by simp [hus]
                rw [if_neg hus] at hsn
                have HSN := Lib.hid hsn
                clear hus hsn
                go_wp2
                go_roundg (n4 - (j + 1))
                case measure => omega
                case rel => exact ⟨j + 1, by omega, by omega, by go_num, by rw [HSN.out]; rfl, ⟨HCj.out⟩⟩
            · have hltz2 : ¬ (j : Int) < (n4 : Int) := by omega
              have htk : ws.take j = ws := by rw [show j = ws.length by omega, List.take_length]
              rw [htk] at hcb0 ⊢
              obtain ⟨cn, hcn⟩ : ∃ cn, (ofS ws ss).length = cn := ⟨_, rfl⟩
              rw [hcn] at hcb0 ⊢
              obtain ⟨q1, q2, q3⟩ := bound_num hcb0
              obtain ⟨k1, hk1⟩ : ∃ k1, ((cn + 1 : Nat) : Int) = k1 := ⟨_, rfl⟩
              obtain ⟨k2, hk2⟩ : ∃ k2, ((6 * (cn + 1) : Nat) : Int) = k2 := ⟨_, rfl⟩
              obtain ⟨k3, hk3⟩ : ∃ k3, ((24 * (cn + 1) : Nat) : Int) = k3 := ⟨_, rfl⟩
              rw [hk1] at q1 q2
              rw [hk2] at q2 q3
              rw [hk3] at q3
              have hbi3 := HBi2.out
              rw [hcn, hk3] at hbi3
              have HBi3 := Lib.hid hbi3
              have HR1 := Lib.hid r1
              have HPut := Lib.hid hput
              have hll : lf.length ≤ 100 := by rw [HI.out.len]; omega
              have HL1 : Hid ((ws.length + 1) * 16 ≤ 140737488355328) := Lib.hid (by omega)
              have HL2 : Hid ((lf.length + 1) * 8 ≤ 140737488355328) := Lib.hid (by omega)
              have HBW := Lib.hid HCi.out.bel
              have hjm : j = n4 := by omega
              clear hbi3 r1 hput hcn hcb0 hk1 hk2 hk3 hnl hwl htk hll HBi2 hjm
              go_wp2_with (first
                | (at_builtin; refine Kd.R_append (Kd.int .i64) (w0 := w) (W := w5) w.heap.size rfl (.tmp 81) (.tmp 86) 27 3 (.int .i64 0) 8 rfl Try.underlying27 infoInt rfl (by decide) (by decide) (.slice A5 n5 c5) lf k3 [.int .i64 k3] (fun k => X2 k ∨ w5.heap.size ≤ k) (fun _ => False) rfl rfl rfl (fun _ q => q.elim) (fun k hk => .inr hk) (Kd.R_mono HR2.out (fun k hk => .inl hk)) HB5.out HB5.out.size HL2.out ?_; intro v2 w6 hR6 hB6 hg6 hat6; obtain ⟨A2, c2_, e2_⟩ := Kd.R_slice hR6; subst e2_; obtain ⟨m2, hm2_⟩ : ∃ m2, (lf ++ [k3]).length = m2 := ⟨_, rfl⟩; rw [hm2_] at hR6 ⊢; have HOS6 := Lib.hid (HPut2.out w6 _ _ hR6 (Fr.of_grown hg6 (fun k hk => hk))); clear hR6 hB6 hg6 hat6 hm2_)
                | (at_builtin; refine Kd.R_append kW (w0 := w) (W := wr) w.heap.size rfl (.tmp 75) (.tmp 79) 88 95 (.agg #[.int .i64 0, .int .i64 0]) 16 rfl Try.underlying88 infoW rfl (by decide) (by decide) (.slice A4 n4 c4) ws (tt, ss) [.int .i64 tt, .int .i64 ss] (fun k => X k ∨ wr.heap.size ≤ k) (fun _ => False) rfl rfl (kW_mk _ _ _ (tt, ss)) (fun _ q => q.elim) (fun k hk => .inr hk) (Kd.R_mono HR1.out (fun k hk => .inl hk)) HBW.out HBW.out.size HL1.out ?_; intro v1 w5 hR5 hB5 hg5 hat5; obtain ⟨A1, c1_, e1_⟩ := Kd.R_slice hR5; subst e1_; obtain ⟨m1, hm1_⟩ : ∃ m1, (ws ++ [(tt, ss)]).length = m1 := ⟨_, rfl⟩; rw [hm1_] at hR5 ⊢; have hos5 := HPut.out w5 _ _ hR5 (Fr.of_grown hg5 (fun k hk => hk)); obtain ⟨X2, r2, hput2⟩ := hos5.putL; have HR2 := Lib.hid r2; have HPut2 := Lib.hid hput2; have HB5 := Lib.hid hos5.bel; clear hR5 hB5 hg5 hat5 hm1_ hos5 r2 hput2)
                | fail)
              go_roundg (m - (kk + 1))
              case measure => omega
              case rel => exact ⟨kk + 1, x1, _, _, A1, A2, m1, c1_, m2, c2_, by omega, by omega, by go_num, rfl, rfl, ⟨HBi3.out⟩, ⟨HOS6.out⟩⟩
        · have hif : ¬ (e1 = 0 ∧ b1 = false) := he0
          have hbi := HBi.out
          rw [if_neg hif, if_neg hif] at hbi
          have HBi2 := Lib.hid hbi
          have hcase : (e1 == 0) = false ∨ ((e1 == 0) = true ∧ b1 = true) := by
            by_cases q : e1 = 0
            · right
              refine ⟨by simp [q], ?_⟩
              cases b1 with
              | true => rfl
              | false => exact absurd ⟨q, rfl⟩ hif
            · left; simpa using q
          clear hbi HBi hif he0
          rcases hcase with heb | ⟨heb, rfl⟩
          · go_wp2_with (first
              | (go_at_call 48; refine (HTake.out).mono ?_; rintro e w4 ⟨rfl, c4_⟩; have HC4 := Lib.hid c4_; clear c4_)
              | fail)
            go_roundg (m - (kk + 1))
            case measure => omega
            case rel => exact ⟨kk + 1, x1, ws, lf, A4, A5, n4, c4, n5, c5, by omega, by omega, by go_num, rfl, rfl, ⟨HBi2.out⟩, ⟨HC4.out⟩⟩
          · go_wp2_with (first
              | (go_at_call 48; refine (HTake.out).mono ?_; rintro e w4 ⟨rfl, c4_⟩; have HC4 := Lib.hid c4_; clear c4_)
              | fail)
            go_roundg (m - (kk + 1))
            case measure => omega
            case rel => exact ⟨kk + 1, x1, ws, lf, A4, A5, n4, c4, n5, c5, by omega, by omega, by go_num, rfl, rfl, ⟨HBi2.out⟩, ⟨HC4.out⟩⟩
      | false =>
        clear b2 b3 hk0 hk1
        have HOwner := Lib.hid (owner_c1 HCO.out.c1)
        cases hh : x.held with
        | false =>
          rw [hh] at HOwner
          have HBm := Lib.hid HI.out.more
          go_wp2_with (first
            | (go_at_call 49; refine (HOwner.out).mono ?_; rintro e w9 ⟨rfl, hw9⟩; rw [hw9]; clear hw9)
            | fail)
          go_roundg (m - (kk + 1))
          case measure => omega
          case rel => exact ⟨kk + 1, x, ws, lf, A4, A5, n4, c4, n5, c5, by omega, by omega, by go_num, rfl, rfl, ⟨HBm.out⟩, ⟨HCO.out⟩⟩
        | true =>
          rw [hh, if_pos rfl] at HOwner
          have hgive := HCO.out.give HSm.out HI.out.ok (by have := HI.out.ps; omega) x.owner
          have hbi := HI.out.give hh
          obtain ⟨⟨x2, nx, gv, er⟩, hG⟩ : ∃ q, giveP x x.owner = q := ⟨_, rfl⟩
          rw [hG] at hgive hbi
          unfold gvV at hgive
          dsimp only at hgive hbi
          obtain ⟨hf, htr⟩ := hbi
          have HGive := Lib.hid hgive
          have HF := Lib.hid hf
          have HTr := Lib.hid htr
          clear hG hgive hf htr hh
          cases gv with
          | false =>
            have HBm := Lib.hid (HF.out (by simp))
            go_wp2_with (first
              | (go_at_call 49; refine (HOwner.out).mono ?_; rintro e w9 ⟨rfl, hw9⟩; rw [hw9]; clear hw9)
              | (go_at_call 50; refine (HGive.out).mono ?_; rintro e w4 ⟨rfl, c4_⟩; have HC4 := Lib.hid c4_; clear c4_)
              | fail)
            go_roundg (m - (kk + 1))
            case measure => omega
            case rel => exact ⟨kk + 1, x2, ws, lf, A4, A5, n4, c4, n5, c5, by omega, by omega, by go_num, rfl, rfl, ⟨HBm.out⟩, ⟨HC4.out⟩⟩
          | true =>
            obtain ⟨k, hkl, hkn, hkf, hpos, hOI⟩ := HTr.out (by simp)
            have HKL := Lib.hid hkl
            have HKN := Lib.hid hkn
            have HKF := Lib.hid hkf
            have HPos := Lib.hid hpos
            have HOI := Lib.hid hOI
            clear hkl hkn hkf hpos hOI HTr HF
            go_upto_region 27 with (first
              | (go_at_call 49; refine (HOwner.out).mono ?_; rintro e w9 ⟨rfl, hw9⟩; rw [hw9]; clear hw9)
              | (go_at_call 50; refine (HGive.out).mono ?_; rintro e w4 ⟨rfl, c4_⟩; have HC4 := Lib.hid c4_; clear c4_)
              | fail)
            have hn4l : n4 = ws.length := by obtain ⟨X, r1, _⟩ := HC4.out.putW; exact (Kd.R_reads' r1).1
            have hn5l : n5 = lf.length := by obtain ⟨X, r1, _⟩ := HC4.out.putL; exact (Kd.R_reads' r1).1
            have HN4 := Lib.hid hn4l
            have HN5 := Lib.hid hn5l
            have hn4b : n4 ≤ 100 := by have := HI.out.wl; omega
            have hn54 : n5 = n4 := by rw [hn5l, hn4l]; exact HI.out.len
            clear hn4l hn5l
            subst hn54
            go_loopg [20, 106] n5 (fun gg v20 v106 wi => ∃ j : Nat, j ≤ n5 ∧ n5 - j ≤ gg ∧ v106 = .int .i64 j ∧ v20 = .int .i64 (atF ws nx j) ∧ Aside0 (OS w wi h lb x2 ws lf (.slice A4 n5 c4) (.slice A5 n5 c5)))
            case atStart => exact ⟨0, Nat.zero_le _, by omega, rfl, rfl, ⟨HC4.out⟩⟩
            case round =>
              obtain ⟨j, hj, hg2, rfl, rfl, HCi⟩ := hrel
              by_cases hlt2 : j < n5
              · have hltz2 : (j : Int) < (n5 : Int) := by omega
                obtain ⟨X, r1, _⟩ := HCi.out.putW
                obtain ⟨_, q, rfl, hql, e0, e1⟩ := w_at r1 hlt2
                have hsn : atF ws nx (j + 1) = if (wg ws j).1 = nx then (j : Int) else atF ws nx j := rfl
                obtain ⟨z, hz⟩ : ∃ z, atF ws nx j = z := ⟨_, rfl⟩
                obtain ⟨u, hu⟩ : ∃ u, (wg ws j).2 = u := ⟨_, rfl⟩
                obtain ⟨u1, hu1⟩ : ∃ u1, (wg ws j).1 = u1 := ⟨_, rfl⟩
                rw [hz] at hsn ⊢
                rw [hu] at e1
                rw [hu1] at e0 hsn
                have hbO : Below wr.heap.size wr (wr.alloc (.cells #[.int .i64 u1, .int .i64 u] 95)) := (Below.refl wr.heap.size wr).alloc (Nat.le_refl _) _
                have HCj := Lib.hid (HCi.out.behind hbO)
                clear hbO r1 hz hu hu1
                by_cases hus : u1 = nx
                · have hb : (u1 == nx) = true := by simp [hus]
                  rw [if_pos hus] at hsn
                  have HSN := Lib.hid hsn
                  clear hus hsn
                  go_wp2
                  go_roundg (n5 - (j + 1))
                  case measure => omega
                  case rel => exact ⟨j + 1, by omega, by omega, by go_num, by rw [HSN.out], ⟨HCj.out⟩⟩
                · have hb : (u1 == nx) = false := by simp [hus]
                  rw [if_neg hus] at hsn
                  have HSN := Lib.hid hsn
                  clear hus hsn
                  go_wp2
                  go_roundg (n5 - (j + 1))
                  case measure => omega
                  case rel => exact ⟨j + 1, by omega, by omega, by go_num, by rw [HSN.out], ⟨HCj.out⟩⟩
              · have hltz2 : ¬ (j : Int) < (n5 : Int) := by omega
                have hat : atF ws nx j = (k : Int) := by
                  have := atF_eq HI.out.nd HKL.out j (by rw [← HN4.out]; exact hj)
                  rw [HKN.out, if_pos (by have := HKL.out; have := HN4.out; omega)] at this
                  exact this
                rw [hat]
                have hkb : decide ((k : Int) < 0) = false := by simp
                clear hat
                go_upto_region 35 with (fail)
                have HCs := Lib.hid HCi.out
                have hbig : ∀ j, j < lf.length → lg lf j ≤ 2000 := fun j hj => HI.out.big _ (by rw [lg_at hj]; exact List.getElem_mem _)
                have HBig := Lib.hid hbig
                have hll : lf.length = n5 := HN5.out.symm
                have HLL := Lib.hid hll
                clear hbig hll HCi
                go_loopg [121] n5 (fun gg v121 wi => ∃ j : Nat, j ≤ n5 ∧ n5 - j ≤ gg ∧ v121 = .int .i64 j ∧ Aside0 (OS w wi h lb x2 ws (lfm lf j) (.slice A4 n5 c4) (.slice A5 n5 c5)))
                case atStart => exact ⟨0, Nat.zero_le _, by omega, rfl, ⟨HCs.out⟩⟩
                case round =>
                  obtain ⟨j2, hj2, hg3, rfl, HCi⟩ := hrel
                  by_cases hlt3 : j2 < n5
                  · have hltz3 : (j2 : Int) < (n5 : Int) := by omega
                    obtain ⟨X, r1, _⟩ := HCi.out.putW
                    have hkn5 : k < n5 := by have := HKL.out; have := HN4.out; omega
                    obtain ⟨hz9, q, rfl, hql, e0, e1⟩ := w_at r1 hlt3
                    obtain ⟨hz8, q', hqq, _, _, e3⟩ := w_at r1 hkn5
                    clear hz8 hz9
                    injection hqq with hqq
                    injection hqq with hqq
                    subst hqq
                    have hne := HKF.out j2
                    obtain ⟨u, hu⟩ : ∃ u, (wg ws j2).2 = u := ⟨_, rfl⟩
                    obtain ⟨u1, hu1⟩ : ∃ u1, (wg ws j2).1 = u1 := ⟨_, rfl⟩
                    obtain ⟨uk, huk⟩ : ∃ uk, (wg ws k).2 = uk := ⟨_, rfl⟩
                    rw [hu] at e1 hne
                    rw [hu1] at e0
                    rw [huk] at e3 hne
                    have hp1 := HPos.out j2 (by rw [← HN4.out]; exact hlt3)
                    have hp2 := HBig.out j2 (by rw [HLL.out]; exact hlt3)
                    have hfa := lfm_at (lf := lf) (j := j2) (by rw [HLL.out]; exact hlt3)
                    have hfs := lfm_set (lf := lf) (j := j2) (by rw [HLL.out]; exact hlt3)
                    obtain ⟨v, hv⟩ : ∃ v, lg lf j2 = v := ⟨_, rfl⟩
                    rw [hv] at hp1 hp2 hfa hfs
                    have hv1 : wrap64 (v - 1) = v - 1 := by rw [wrap_nat (by omega) (by omega)]
                    have hv2 : decide (v - 1 < 0) = false := decide_eq_false (by omega)
                    have hkk1 := eq_true (show (0 : Int) ≤ (k : Int) ∧ (k : Int) < (n5 : Int) by omega)
                    have HFA := Lib.hid hfa
                    have HFS := Lib.hid hfs
                    have hltb : (decide ((j2 : Int) < (k : Int)) = true ∧ decide (j2 < k) = true ∧ (u == uk) = false) ∨ (decide ((j2 : Int) < (k : Int)) = false ∧ decide (j2 < k) = false) := by
                      by_cases q : j2 < k
                      · exact .inl ⟨decide_eq_true (by omega), decide_eq_true q, by simpa using hne q⟩
                      · exact .inr ⟨decide_eq_false (by omega), decide_eq_false q⟩
                    have hbO : Below wr.heap.size wr (wr.alloc (.cells #[.int .i64 u1, .int .i64 u] 95)) := (Below.refl wr.heap.size wr).alloc (Nat.le_refl _) _
                    have HBO := Lib.hid hbO
                    clear r1 hu hu1 huk hv hp1 hp2 hfa hfs hne hbO
                    rcases hltb with ⟨hlb1, hlb3, hlb2⟩ | ⟨hlb1, hlb3⟩
                    · go_upto_region 37 with (fail)
                      obtain ⟨O2, hO2⟩ : ∃ O2, wr.alloc (.cells #[.int .i64 u1, .int .i64 u] 95) = O2 := ⟨_, rfl⟩
                      have d1 : O2.cell? ⟨wr.heap.size, 1, none⟩ = some (.int .i64 u) := by rw [← hO2]; simp [go_sem]
                      rw [hO2] at HBO ⊢
                      have d3 := bel_cell HBO.out e3
                      clear hO2 e0 e1 e3
                      go_quiet (fail)
                      obtain ⟨W3, hW3⟩ : ∃ W3, O2.drewN nq = W3 := ⟨_, rfl⟩
                      have hb3 : Below wr.heap.size wr W3 := Below_trans HBO.out (hW3 ▸ bel_drewN (Below.refl _ _) nq)
                      obtain ⟨X5, r5, hput5⟩ := (HCi.out.behind hb3).putL
                      obtain ⟨hz7, q5, rfl, hq5, g0, g1⟩ := l_at r5 hlt3
                      clear hz7
                      rw [HFA.out] at g0
                      rw [hW3]
                      obtain ⟨p1, p2⟩ := Kd.R_putg r5 (j2 : Int) (v - 1)
                      have hos := hput5 _ _ _ (Kd.R_mono p1 (fun k hk => .inl hk)) (Fr.of_grown p2 (fun k hk => by rw [← hk]; rfl))
                      rw [Int.toNat_natCast, HFS.out] at hos
                      have HOS := Lib.hid hos
                      clear hW3 hb3 r5 hput5 p1 p2 hos d1 d3
                      go_wp2
                      go_roundg (n5 - (j2 + 1))
                      case measure => omega
                      case rel => exact ⟨j2 + 1, by omega, by omega, by go_num, ⟨HOS.out⟩⟩
                    · go_upto_region 37 with (fail)
                      obtain ⟨O2, hO2⟩ : ∃ O2, wr.alloc (.cells #[.int .i64 u1, .int .i64 u] 95) = O2 := ⟨_, rfl⟩
                      have d1 : O2.cell? ⟨wr.heap.size, 1, none⟩ = some (.int .i64 u) := by rw [← hO2]; simp [go_sem]
                      rw [hO2] at HBO ⊢
                      have d3 := bel_cell HBO.out e3
                      clear hO2 e0 e1 e3
                      go_quiet (fail)
                      obtain ⟨W3, hW3⟩ : ∃ W3, O2.drewN nq = W3 := ⟨_, rfl⟩
                      have hb3 : Below wr.heap.size wr W3 := Below_trans HBO.out (hW3 ▸ bel_drewN (Below.refl _ _) nq)
                      obtain ⟨X5, r5, hput5⟩ := (HCi.out.behind hb3).putL
                      obtain ⟨hz7, q5, rfl, hq5, g0, g1⟩ := l_at r5 hlt3
                      clear hz7
                      rw [HFA.out] at g0
                      rw [hW3]
                      obtain ⟨p1, p2⟩ := Kd.R_putg r5 (j2 : Int) (v - 1)
                      have hos := hput5 _ _ _ (Kd.R_mono p1 (fun k hk => .inl hk)) (Fr.of_grown p2 (fun k hk => by rw [← hk]; rfl))
                      rw [Int.toNat_natCast, HFS.out] at hos
                      have HOS := Lib.hid hos
                      clear hW3 hb3 r5 hput5 p1 p2 hos d1 d3
                      go_wp2
                      go_roundg (n5 - (j2 + 1))
                      case measure => omega
                      case rel => exact ⟨j2 + 1, by omega, by omega, by go_num, ⟨HOS.out⟩⟩
                  · have hltz3 : ¬ (j2 : Int) < (n5 : Int) := by omega
                    have hjn : j2 = n5 := by omega
                    have hla : lfm lf j2 = less lf := by rw [hjn, ← HLL.out]; exact lfm_all
                    have hos := HCi.out
                    rw [hla] at hos
                    have HOS := Lib.hid hos
                    have hkn5 : k < n5 := by have := HKL.out; have := HN4.out; omega
                    obtain ⟨k1, d1, d2, d3, d4, d5, d6, hw1, hw2, d7, d8, d9, d10, d11⟩ := cuts hos.atW hkn5 hn4b
                    have HTk := Lib.hid d1
                    have HDr := Lib.hid d2
                    have HL1 := Lib.hid d7
                    have HL2 := Lib.hid d8
                    have HEr := Lib.hid d11
                    clear d1 d2 d7 d8 d9 d10 d11 hla hos HCi hjn
                    go_upto_region 43 with (fail)
                    go_cut [4] from 34 to 171 (fun v4 wc => ∃ (A : Option Addr) (n c : Nat), v4 = .slice A n c ∧ Aside0 (OS w wc h lb x2 (ws.eraseIdx k) (less lf) (.slice A n c) (.slice A5 n5 c5)))
                    case first =>
                      go_region_law (first
                        | (refine Kd.R_append_rows_step kW (w0 := wr) (Rr := kW.K wr) wr.heap.size (by simp [Region.wanted]) (.tmp 155) (.tmp 159) 88 95 (.agg #[.int .i64 0, .int .i64 0]) 16 rfl Try.underlying88 infoW rfl (by decide) (by decide) (.slice A1 m1 c1_) (ws.take k) (ws.drop k1) (if c4 = k1 then A4 else A4.map (fun x => x.add (k1 * 2))) (n5 - k1) (c4 - k1) (fun _ => True) (fun _ => False) (by simp [Act.eval, Act.put]) (by simp [Act.eval, Act.put]) HR1.out (Kd.C_below HDr.out HB1.out) (fun _ _ q => kW_KM q) (fun _ q => q.elim) (fun _ _ => trivial) HB1.out HB1.out.size HL2.out ?_; intro v2 w2 hR2 hB2 hg2 hat2; rw [HEr.out] at hR2; have HOS2 := Lib.hid (HOS.out.newW hR2 hB2); obtain ⟨A2, c2_, e2_⟩ := Kd.R_slice hR2; subst e2_; obtain ⟨m2, hm2_⟩ : ∃ m2, (ws.eraseIdx k).length = m2 := ⟨_, rfl⟩; rw [hm2_] at HOS2 ⊢; clear hR2 hB2 hg2 hat2 hm2_)
                        | (refine Kd.R_append_rows_step kW (w0 := wr) (Rr := kW.K wr) wr.heap.size (by simp [Region.wanted]) (.tmp 151) (.tmp 154) 88 95 (.agg #[.int .i64 0, .int .i64 0]) 16 rfl Try.underlying88 infoW rfl (by decide) (by decide) (.slice (some ⟨wr.heap.size, 0, none⟩) 0 0) [] (ws.take k) A4 k c4 (fun _ => True) (fun _ => False) (by simp [Act.eval, Act.put]) (by simp [Act.eval, Act.put]) (R_fresh kW _ _) (Kd.C_below HTk.out (bel_drew (bel_alloc (bel_refl _) _))) (fun _ _ q => kW_KM q) (fun _ q => q.elim) (fun _ _ => trivial) (bel_drew (bel_alloc (bel_refl _) _)) (by simp) HL1.out ?_; intro v1 w1 hR1 hB1 hg1 hat1; rw [List.nil_append] at hR1; obtain ⟨A1, c1_, e1_⟩ := Kd.R_slice hR1; subst e1_; obtain ⟨m1, hm1_⟩ : ∃ m1, (ws.take k).length = m1 := ⟨_, rfl⟩; rw [hm1_] at hR1 ⊢; have HR1 := Lib.hid hR1; have HB1 := Lib.hid hB1; clear hR1 hB1 hg1 hat1 hm1_))
                      all_goals go_wp2
                      all_goals go_meet
                      all_goals (case rel => exact ⟨_, _, _, rfl, ⟨HOS2.out⟩⟩)
                    case rest =>
                      obtain ⟨A4', n4', c4', rfl, HOS4⟩ := hcut
                      clear d3 d4 d5 d6 hw1 hw2 HTk HDr HL1 HL2 HEr
                      obtain ⟨k1, d1, d2, d3, d4, d5, d6, hw1, hw2, d7, d8, d9, d10, d11⟩ := cuts HOS4.out.atL hkn5 hn4b
                      have hsz1 : (Kd.int .i64).sz = 1 := rfl
                      simp only [hsz1, Nat.mul_one] at d2
                      clear hsz1
                      have HTk := Lib.hid d1
                      have HDr := Lib.hid d2
                      have HL1 := Lib.hid d9
                      have HL2 := Lib.hid d10
                      have HEr := Lib.hid d11
                      clear d1 d2 d7 d8 d9 d10 d11
                      go_upto_region 44 with (fail)
                      go_region_law (first
                        | (refine Kd.R_append_rows_step (Kd.int .i64) (w0 := wc) (Rr := (Kd.int .i64).K wc) wc.heap.size (by simp [Region.wanted]) (.tmp 165) (.tmp 169) 27 3 (.int .i64 0) 8 rfl Try.underlying27 infoInt rfl (by decide) (by decide) (.slice A1 m1 c1_) ((less lf).take k) ((less lf).drop k1) (if c5 = k1 then A5 else A5.map (fun x => x.add k1)) (n5 - k1) (c5 - k1) (fun _ => True) (fun _ => False) (by simp [Act.eval, Act.put]) (by simp [Act.eval, Act.put]) HR1.out (Kd.C_below HDr.out HB1.out) (fun _ _ q => q) (fun _ q => q.elim) (fun _ _ => trivial) HB1.out HB1.out.size HL2.out ?_; intro v2 w2 hR2 hB2 hg2 hat2; rw [HEr.out] at hR2; have HOS2 := Lib.hid (HOS4.out.newL hR2 hB2); obtain ⟨A2, c2_, e2_⟩ := Kd.R_slice hR2; subst e2_; obtain ⟨m2, hm2_⟩ : ∃ m2, ((less lf).eraseIdx k).length = m2 := ⟨_, rfl⟩; rw [hm2_] at HOS2 ⊢; clear hR2 hB2 hg2 hat2 hm2_)
                        | (refine Kd.R_append_rows_step (Kd.int .i64) (w0 := wc) (Rr := (Kd.int .i64).K wc) wc.heap.size (by simp [Region.wanted]) (.tmp 161) (.tmp 164) 27 3 (.int .i64 0) 8 rfl Try.underlying27 infoInt rfl (by decide) (by decide) (.slice (some ⟨wc.heap.size, 0, none⟩) 0 0) [] ((less lf).take k) A5 k c5 (fun _ => True) (fun _ => False) (by simp [Act.eval, Act.put]) (by simp [Act.eval, Act.put]) (R_fresh (Kd.int .i64) _ _) (Kd.C_below HTk.out (bel_drew (bel_alloc (bel_refl _) _))) (fun _ _ q => q) (fun _ q => q.elim) (fun _ _ => trivial) (bel_drew (bel_alloc (bel_refl _) _)) (by simp) HL1.out ?_; intro v1 w1 hR1 hB1 hg1 hat1; rw [List.nil_append] at hR1; obtain ⟨A1, c1_, e1_⟩ := Kd.R_slice hR1; subst e1_; obtain ⟨m1, hm1_⟩ : ∃ m1, ((less lf).take k).length = m1 := ⟨_, rfl⟩; rw [hm1_] at hR1 ⊢; have HR1 := Lib.hid hR1; have HB1 := Lib.hid hB1; clear hR1 hB1 hg1 hat1 hm1_))
                      all_goals go_wp2
                      all_goals go_roundg (m - (kk + 1))
                      all_goals (try (case measure => omega))
                      all_goals (case rel => exact ⟨kk + 1, x2, _, _, _, _, _, _, _, _, by omega, by omega, by go_num, rfl, rfl, ⟨HOI.out⟩, ⟨HOS2.out⟩⟩)
    · have hltz : ¬ (kk : Int) < (m : Int) := by omega
      have hlv := Lib.hid (lives_any wr)
      have HB := Lib.hid HC.out.bel
      go_wp2_with (first | (go_at_call 51; refine (hlv.out).mono ?_; rintro e w9 ⟨rfl, B9⟩) | fail)
      go_ret
      exact ⟨rfl, Below_trans HB.out B9⟩
end Go.Proofs.Ytgiimdoabkcoaaa.Co
