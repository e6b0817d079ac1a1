/-
gantt.Spans walked: each event of a row turns the spans that are open at its task and worker.
-/
import Derived.Test.YtkegdcnnankokaaSpansWalk
namespace Go.Proofs.Ytkegdcnnankokaa.PGan
set_option linter.unusedVariables false
set_option linter.unusedSimpArgs false
open Go.Maps Go.RowKit Go.Proofs.YtkegdcnnankokaaW.PrintWords Go.Proofs.YtkegdcnnankokaaW.PrintLast Go.Proofs.YtkegdcnnankokaaW.PrintMore
open Go.ChangeMaps (setBlock heap_setBlock_same heap_setBlock_other)
set_option maxRecDepth 100000 in
set_option maxHeartbeats 4000000 in
theorem spans_any (A : Option Addr) (c : Nat) (l : List S36) (w : World) (hr : Kd.C k36 w A l.length l) (hl : l.length ≤ 60) (hwf : ∀ e ∈ l, (Lit.int .i64 e.f1).wf = true ∧ (Lit.int .i64 e.f2).wf = true) :
    Calls Try.prog 15 #[.slice A l.length c] w fun e w' => ∃ v, e = .returned v ∧ Kd.R k27 27 w' w.heap.size (fun _ => True) v (spansP l) ∧ Below w.heap.size w w' := by
  have hmm := @run_makeMap Try.prog
  go_enter Try.func15, Try.ntmps15
  go_wp2
  go_loopw [2, 14] (fun v2 v14 wr => ∃ (i : Nat) (g : Value → Value) (opn : Int → Int → List Int), v14 = .int .i64 (i : Int) ∧ i ≤ l.length ∧ SpI w wr i (outsTo l i) v2 g opn ∧ OpenOk l.length (outsTo l i) opn ∧ OpenLe opn i) (fun _ v14 _ => match v14 with | .int _ n => l.length - n.toNat | _ => 0)
  case atStart => exact ⟨0, _, _, rfl, Nat.zero_le _, SpI.at_start w, open_nil _, fun _ _ => Nat.le_refl _⟩
  case round =>
    obtain ⟨i, g, opn, rfl, hi, hS, hO, hL⟩ := hrel
    by_cases hlt : i < l.length
    · have hd : decide ((i : Int) < (l.length : Int)) = true := by simpa using hlt
      have hz : (0 : Int) ≤ (i : Int) := by omega
      obtain ⟨ad, e, hx0, hx1, hx2, hx3, hx4⟩ := at_T36 (Kd.C_below hr hS.below) (i : Int) (by omega) (by omega)
      subst e
      obtain ⟨x, hxx⟩ : ∃ x, rd_T36 l (i : Int) = x := ⟨_, rfl⟩
      have hxg : l[i]? = some x := by rw [← hxx]; simp [rd_T36, hlt]
      rw [hxx, Int.toNat_natCast] at hx0 hx1 hx2 hx3 hx4
      have hw2 : wrap64 ((i : Int) + 1) = ((i + 1 : Nat) : Int) := wrap_up (by omega)
      have hsucc := Aside0.mk (outsTo_succ hxg)
      have hsm := small_to l i
      have hxm : x ∈ l := List.mem_of_getElem? hxg
      obtain ⟨kl, hkey⟩ := key_spot (hwf x hxm).1 (hwf x hxm).2
      have HI := Aside0.mk (show i ≤ 60 by omega)
      have HW2 := Aside0.mk hw2
      have HSL := fun o1 o2 => Aside0.mk (hS.later ((((Below.refl _ wr).alloc (Nat.le_refl _) _).alloc (by simp) _ |>.alloc (by simp; omega) _).alloc (by simp; omega) _) : SpI w ((((wr.alloc (.cells #[.int .i64 x.f0, .int .i64 x.f1, .int .i64 x.f2, .int .i64 x.f3, .int .i64 x.f4] 36)).alloc o1).alloc o2).alloc (.cells #[.int .i64 x.f1, .int .i64 x.f2] 89)) i (outsTo l i) u2 g opn)
      have HNE := Aside0.mk (show some wr.heap.size ≠ (g (sv x.f1 x.f2)).ownBlock from fun e => absurd (Kd.R_lt (hS.rows x.f1 x.f2) _ e.symm) (Nat.lt_irrefl _))
      have HBN := Aside0.mk (Nat.ne_of_gt hS.lt)
      obtain ⟨A2, c2, rfl⟩ := Kd.R_slice hS.outs
      obtain ⟨A5, c5, hA5⟩ := Kd.R_slice (hS.rows x.f1 x.f2)
      have HR1 := Aside0.mk (show ((opn x.f1 x.f2).length + 1) * 8 ≤ 140737488355328 from by have := hL x.f1 x.f2; omega)
      have HR2 := Aside0.mk (show ((outsTo l i).length + 1) * 40 ≤ 140737488355328 from by have := hsm.1; omega)
      have HSM := Aside0.mk hsm
      have HL1 := Aside0.mk (hL x.f1 x.f2)
      have HA5 := Aside0.mk hA5
      clear hl hxx hxg hxm hw2 hsm hA5
      by_cases h2 : x.f0 = 2
      · have h2b : (x.f0 == 2) = true := by simpa using h2
        have HO2 := Aside0.mk (open_disp (i := i) hO h2)
        have HE2 := Aside0.mk (outStep_disp (n := l.length) (i := i) (out := outsTo l i) h2)
        clear h2
        go_wp2_with (first
          | (go_at_call 47; refine (of_any _ _ _ _ _ _).mono ?_; rintro e5 w5 ⟨rfl, o1, o2, rfl⟩; have HS0 := HSL o1 o2)
          | (refine wpList_entry_tells _ rfl _ _ 87 rfl lawSpot Try.underlying87 (zeroRow _) (HS0.out.later (below_alloc (Below.refl _ _) _)).map rfl (sv x.f1 x.f2) kl rfl hkey ?_; intro st ob hst; have HST := Aside0.mk hst; clear hst; rw [set_alloc _ _ _ HS0.out.lt])
          | ((with_reducible refine gate_builtin (b := .append) (xs := #[.tmp 27, .tmp 30]) rfl ?_); at_builtin; go_loud (refine Kd.R_append (Kd.int .i64) (w0 := w) w.heap.size rfl (.tmp 27) (.tmp 30) 30 3 (.int .i64 0) 8 rfl Try.underlying30 info3 rfl (by decide) (by omega) (g (sv x.f1 x.f2)) (opn x.f1 x.f2) ((outsTo l i).length : Int) [.int .i64 ((outsTo l i).length : Int)] (okB w.heap.size) (fun _ => False) rfl (by rw [set_size]; simp only [World.size_alloc]; rfl) rfl (fun _ hk => hk.elim) (HS0.out.set_fresh ob) (HS0.out.row_set ob) (set_below _ _ ob (Nat.le_refl _) HS0.out.below) (HS0.out.set_le ob) HR1.out ?_); intro v1 w2 hR2 hB2 hG2 hA2)
          | (obtain ⟨w3, hrun, hT, ob', e3⟩ := HST.out w2 v1 (gput g (sv x.f1 x.f2) v1) (HS0.out.entry_eq _ hG2) (gput_same _ _ _) (fun y hy => gput_other g hy); refine wpList_entryStore_run _ w3 rfl _ _ _ 87 rfl rfl rfl rfl hrun ?_; have HS3 := Aside0.mk (HS0.out.entered hR2 hG2 hA2 hB2 e3 hT); have hc1 : w3.cell? ⟨wr.heap.size, 1, none⟩ = some (.int .i64 x.f1) := HS0.out.entry_cell hG2 e3 HBN.out HNE.out (by go_simp); have hc2 : w3.cell? ⟨wr.heap.size, 2, none⟩ = some (.int .i64 x.f2) := HS0.out.entry_cell hG2 e3 HBN.out HNE.out (by go_simp); clear hrun hT e3 hG2 hA2 hB2 hR2 HST)
          | ((with_reducible refine gate_builtin (b := .append) (xs := #[.tmp 34, .tmp 43]) rfl ?_); at_builtin; refine Kd.R_append k27 (w0 := w) w.heap.size rfl (.tmp 34) (.tmp 43) 24 27 (.agg #[(.int .i64 0), (.int .i64 0), (.int .i64 0), (.int .i64 0), (.int .i64 0)]) 40 rfl Try.underlying24 info27 rfl (by decide) (by omega) (.slice A2 (outsTo l i).length c2) (outsTo l i) ⟨x.f1, x.f2, i, l.length, 0⟩ [.int .i64 x.f1, .int .i64 x.f2, .int .i64 i, .int .i64 l.length, .int .i64 0] (okB w.heap.size) (fun _ => False) rfl rfl (k27_mkM _ _ _ _) (fun _ hk => hk.elim) (HS3.out.fresh) HS3.out.outs HS3.out.below (Nat.le_of_lt HS3.out.lt) HR2.out ?_; intro v4 w4 hR4 hB4 hG4 hA4)
          | fail)
        go_roundw
        case rel => exact ⟨i + 1, _, _, by rw [HW2.out], hlt, by rw [hsucc.out, HE2.out]; exact HS3.out.turned hG4 hR4 hB4, by rw [hsucc.out]; exact HO2.out, openLe_put hL _ _ _ (by rw [List.length_append]; exact Nat.succ_le_succ HL1.out)⟩
        case measure => rw [HW2.out]; exact (show l.length - (i + 1) < l.length - i from Nat.sub_lt_sub_left hlt (Nat.lt_succ_self i))
      · have h2b : (x.f0 == 2) = false := by simpa using h2
        have hL' : OpenLe opn (i + 1) := fun t c => Nat.le_succ_of_le (hL t c)
        by_cases h3 : x.f0 = 3
        · have h3b : (x.f0 == 3) = true := by simpa using h3
          obtain ⟨e3, o3⟩ := outStep_ins (n := l.length) hO HSM.out (by have := HI.out; omega) h3
          have HE3 := Aside0.mk (show modAll incF (opn x.f1 x.f2) (outsTo l i) = outStep l.length i x (outsTo l i) from e3)
          have HO3 := Aside0.mk o3
          obtain ⟨ks, hks⟩ : ∃ ks, opn x.f1 x.f2 = ks := ⟨_, rfl⟩
          have hkb : ∀ p (h : p < ks.length), 0 ≤ ks[p] ∧ ks[p] < ((outsTo l i).length : Int) := fun p h => by
            obtain ⟨q, e, s, hs, _⟩ := ((hO x.f1 x.f2).2 ks[p]).1 (by rw [hks]; exact List.getElem_mem h)
            have := (List.getElem?_eq_some_iff.1 hs).1
            omega
          have HKB := Aside0.mk hkb
          have hkl : ks.length ≤ 60 := Nat.le_trans (hks ▸ hL x.f1 x.f2) HI.out
          have HKL := Aside0.mk hkl
          rw [hks] at HA5 HE3
          clear h3 h2 hkb hkl e3 o3
          go_wp2_with (first
            | (go_at_call 47; refine (of_any _ _ _ _ _ _).mono ?_; rintro e5 w5 ⟨rfl, o1, o2, rfl⟩; have HS0 := HSL o1 o2)
            | (refine wpList_lookup_tells _ rfl _ _ 87 rfl lawSpot Try.underlying87 (zeroRow _) HS0.out.map rfl (sv x.f1 x.f2) kl rfl hkey ?_; rw [HA5.out])
            | fail)
          obtain ⟨w3, rfl⟩ : ∃ w3, w3 = wr := ⟨_, rfl⟩
          obtain ⟨W0, hW0⟩ : ∃ W0, ((((w3.alloc (.cells #[.int .i64 x.f0, .int .i64 x.f1, .int .i64 x.f2, .int .i64 x.f3, .int .i64 x.f4] 36)).alloc o1).alloc o2).alloc (.cells #[.int .i64 x.f1, .int .i64 x.f2] 89)) = W0 := ⟨_, rfl⟩
          rw [hW0] at HS0 ⊢
          clear hW0 HSL
          go_loopw [51] (fun v51 wq => ∃ p : Nat, v51 = .int .i64 (p : Int) ∧ p ≤ ks.length ∧ W0.grownBy wq (Value.slice A2 (outsTo l i).length c2).ownBlock ∧ Kd.R k27 27 wq w.heap.size (okB w.heap.size) (.slice A2 (outsTo l i).length c2) (modAll incF (ks.take p) (outsTo l i)) ∧ Below w.heap.size w wq) (fun v51 _ => match v51 with | .int _ n => ks.length - n.toNat | _ => 0)
          case atStart => exact ⟨0, rfl, Nat.zero_le _, grown_self _ _, HS0.out.outs, HS0.out.below⟩
          case round =>
            obtain ⟨p, rfl, hp, hG, hR, hB⟩ := hrel
            by_cases hpl : p < ks.length
            · have hpd : decide ((p : Int) < (ks.length : Int)) = true := by simpa using hpl
              have hpz : (0 : Int) ≤ (p : Int) := by omega
              have hC := (HS0.out.turned hG hR hB).rows x.f1 x.f2
              rw [HA5.out, hks] at hC
              obtain ⟨ad5, e5, hk5⟩ := Kd.at_int (Kd.R_reads' hC).2.2 (p : Int) hpz (by omega)
              subst e5
              rw [rd_at hpl, Int.toNat_natCast] at hk5
              obtain ⟨hk0, hk1⟩ := HKB.out p hpl
              have HMS := Aside0.mk (modAll_snoc incF hpl (outsTo l i))
              obtain ⟨kk, hkk⟩ : ∃ kk, ks[p] = kk := ⟨_, rfl⟩
              rw [hkk] at hk5 hk0 hk1 HMS
              obtain ⟨cur, hcur⟩ : ∃ cur, modAll incF (ks.take p) (outsTo l i) = cur := ⟨_, rfl⟩
              have hcl : cur.length = (outsTo l i).length := by rw [← hcur, modAll_len]
              rw [hcur] at hR HMS
              obtain ⟨g2, cap2, eA, hgb, _⟩ := Kd.R_form hR (by omega)
              injection eA with eA _ _
              subst eA
              obtain ⟨cf, hcz, hN, hcc, hfr⟩ := Kd.R_elem hR z27 kk hk0 hk1
              obtain rfl := k27_openM hN
              obtain ⟨y, hy⟩ : ∃ y, cur.getD kk.toNat z27 = y := ⟨_, rfl⟩
              have HMS2 := Aside0.mk (HMS.out.trans (by rw [show rd_T27 cur kk = y from hy]))
              rw [hy] at hcz hcc
              have hv : wr.cell? ⟨g2, kk.toNat * 5 + 4, none⟩ = some (.int .i64 y.f4) := hcc 4 _ rfl
              have hf : wr.frozen? ⟨g2, kk.toNat * 5 + 4, none⟩ = false := hfr 4
              have HP := Aside0.mk (Kd.R_seg hR kk hk0 hk1 (seg := [.int .i64 (wrap64 (y.f4 + 1))]) (j := 4) hcz hcc (show 5 ≤ 5 from by decide) (x' := incF y) (k27_mkM _ _ _ (incF y)) (fun _ hk => hk))
              have HG := Aside0.mk hG
              have HB := Aside0.mk hB
              have hp1 : wrap64 ((p : Int) + 1) = ((p + 1 : Nat) : Int) := wrap_up (by have := HKL.out; omega)
              have HP1 := Aside0.mk hp1
              clear hp1 hG hB hR hC hN hcc hfr hcz hp
              have hk0b := eq_true hk0
              have hk1b := eq_true hk1
              clear hkk hcur hcl hks
              go_wp2
              go_roundw
              case rel => exact ⟨p + 1, by rw [HP1.out], hpl, grown_trans HG.out HP.out.2, by rw [HMS2.out]; exact HP.out.1, grown_below HB.out HP.out.2 hgb⟩
              case measure => rw [HP1.out]; exact (show ks.length - (p + 1) < ks.length - p from Nat.sub_lt_sub_left hpl (Nat.lt_succ_self p))
            · have hpd : decide ((p : Int) < (ks.length : Int)) = false := by simpa using hpl
              have hpe : p = ks.length := by omega
              rw [hpe, List.take_length, HE3.out, ← hsucc.out] at hR
              have HS5 := Aside0.mk (HS0.out.turned hG hR hB)
              clear hG hR hB hpl
              go_wp2
              go_roundw
              case rel => exact ⟨i + 1, _, _, by rw [HW2.out], hlt, HS5.out.more (Nat.le_succ i), by rw [hsucc.out]; exact HO3.out, hL'⟩
              case measure => rw [HW2.out]; exact (show l.length - (i + 1) < l.length - i from Nat.sub_lt_sub_left hlt (Nat.lt_succ_self i))
        · have h3b : (x.f0 == 3) = false := by simpa using h3
          by_cases h4 : x.f0 = 4
          · have h4b : (x.f0 == 4) = true := by simpa using h4
            obtain ⟨e3, o3⟩ := outStep_stop (n := l.length) (i := i) hO (by omega) h4
            have HE3 := Aside0.mk (show modAll (endF (i : Int)) (opn x.f1 x.f2) (outsTo l i) = outStep l.length i x (outsTo l i) from e3)
            have HO3 := Aside0.mk o3
            obtain ⟨ks, hks⟩ : ∃ ks, opn x.f1 x.f2 = ks := ⟨_, rfl⟩
            have hkb : ∀ p (h : p < ks.length), 0 ≤ ks[p] ∧ ks[p] < ((outsTo l i).length : Int) := fun p h => by
              obtain ⟨q, e, s, hs, _⟩ := ((hO x.f1 x.f2).2 ks[p]).1 (by rw [hks]; exact List.getElem_mem h)
              have := (List.getElem?_eq_some_iff.1 hs).1
              omega
            have HKB := Aside0.mk hkb
            have hkl : ks.length ≤ 60 := Nat.le_trans (hks ▸ hL x.f1 x.f2) HI.out
            have HKL := Aside0.mk hkl
            rw [hks] at HA5 HE3
            clear h2 h3 h4 hkb hkl e3 o3
            go_wp2_with (first
              | (go_at_call 47; refine (of_any _ _ _ _ _ _).mono ?_; rintro e5 w5 ⟨rfl, o1, o2, rfl⟩; have HS0 := HSL o1 o2)
              | (refine wpList_lookup_tells _ rfl _ _ 87 rfl lawSpot Try.underlying87 (zeroRow _) HS0.out.map rfl (sv x.f1 x.f2) kl rfl hkey ?_; rw [HA5.out])
              | fail)
            obtain ⟨w3, rfl⟩ : ∃ w3, w3 = wr := ⟨_, rfl⟩
            have hs0 : ((((w3.alloc (.cells #[.int .i64 x.f0, .int .i64 x.f1, .int .i64 x.f2, .int .i64 x.f3, .int .i64 x.f4] 36)).alloc o1).alloc o2).alloc (.cells #[.int .i64 x.f1, .int .i64 x.f2] 89)).cell? ⟨w3.heap.size + 1 + 1 + 1, 0, none⟩ = some (.int .i64 x.f1) := by go_simp
            have hs1 : ((((w3.alloc (.cells #[.int .i64 x.f0, .int .i64 x.f1, .int .i64 x.f2, .int .i64 x.f3, .int .i64 x.f4] 36)).alloc o1).alloc o2).alloc (.cells #[.int .i64 x.f1, .int .i64 x.f2] 89)).cell? ⟨w3.heap.size + 1 + 1 + 1, 1, none⟩ = some (.int .i64 x.f2) := by go_simp
            obtain ⟨W0, hW0⟩ : ∃ W0, ((((w3.alloc (.cells #[.int .i64 x.f0, .int .i64 x.f1, .int .i64 x.f2, .int .i64 x.f3, .int .i64 x.f4] 36)).alloc o1).alloc o2).alloc (.cells #[.int .i64 x.f1, .int .i64 x.f2] 89)) = W0 := ⟨_, rfl⟩
            have HN6 := Aside0.mk (show some (w3.heap.size + 1 + 1 + 1) ≠ (Value.slice A2 (outsTo l i).length c2).ownBlock from fun e => absurd (Kd.R_lt hS.outs _ e.symm) (by omega))
            rw [hW0] at HS0 hs0 hs1 ⊢
            clear hW0 HSL
            go_loopw [70] (fun v70 wq => ∃ p : Nat, v70 = .int .i64 (p : Int) ∧ p ≤ ks.length ∧ W0.grownBy wq (Value.slice A2 (outsTo l i).length c2).ownBlock ∧ Kd.R k27 27 wq w.heap.size (okB w.heap.size) (.slice A2 (outsTo l i).length c2) (modAll (endF (i : Int)) (ks.take p) (outsTo l i)) ∧ Below w.heap.size w wq) (fun v70 _ => match v70 with | .int _ n => ks.length - n.toNat | _ => 0)
            case atStart => exact ⟨0, rfl, Nat.zero_le _, grown_self _ _, HS0.out.outs, HS0.out.below⟩
            case round =>
              obtain ⟨p, rfl, hp, hG, hR, hB⟩ := hrel
              by_cases hpl : p < ks.length
              · have hpd : decide ((p : Int) < (ks.length : Int)) = true := by simpa using hpl
                have hpz : (0 : Int) ≤ (p : Int) := by omega
                have hC := (HS0.out.turned hG hR hB).rows x.f1 x.f2
                rw [HA5.out, hks] at hC
                obtain ⟨ad5, e5, hk5⟩ := Kd.at_int (Kd.R_reads' hC).2.2 (p : Int) hpz (by omega)
                subst e5
                rw [rd_at hpl, Int.toNat_natCast] at hk5
                obtain ⟨hk0, hk1⟩ := HKB.out p hpl
                have HMS := Aside0.mk (modAll_snoc (endF (i : Int)) hpl (outsTo l i))
                obtain ⟨kk, hkk⟩ : ∃ kk, ks[p] = kk := ⟨_, rfl⟩
                rw [hkk] at hk5 hk0 hk1 HMS
                obtain ⟨cur, hcur⟩ : ∃ cur, modAll (endF (i : Int)) (ks.take p) (outsTo l i) = cur := ⟨_, rfl⟩
                have hcl : cur.length = (outsTo l i).length := by rw [← hcur, modAll_len]
                rw [hcur] at hR HMS
                obtain ⟨g2, cap2, eA, hgb, _⟩ := Kd.R_form hR (by omega)
                injection eA with eA _ _
                subst eA
                obtain ⟨cf, hcz, hN, hcc, hfr⟩ := Kd.R_elem hR z27 kk hk0 hk1
                obtain rfl := k27_openM hN
                obtain ⟨y, hy⟩ : ∃ y, cur.getD kk.toNat z27 = y := ⟨_, rfl⟩
                have HMS2 := Aside0.mk (HMS.out.trans (by rw [show rd_T27 cur kk = y from hy]))
                rw [hy] at hcz hcc
                have hv : wr.cell? ⟨g2, kk.toNat * 5 + 3, none⟩ = some (.int .i64 y.f3) := hcc 3 _ rfl
                have hf : wr.frozen? ⟨g2, kk.toNat * 5 + 3, none⟩ = false := hfr 3
                have HP := Aside0.mk (Kd.R_seg hR kk hk0 hk1 (seg := [.int .i64 (i : Int)]) (j := 3) hcz hcc (show 4 ≤ 5 from by decide) (x' := (endF (i : Int)) y) (k27_mkM _ _ _ ((endF (i : Int)) y)) (fun _ hk => hk))
                have HG := Aside0.mk hG
                have HB := Aside0.mk hB
                have hp1 : wrap64 ((p : Int) + 1) = ((p + 1 : Nat) : Int) := wrap_up (by have := HKL.out; omega)
                have HP1 := Aside0.mk hp1
                clear hp1 hG hB hR hC hN hcc hfr hcz hp
                have hk0b := eq_true hk0
                have hk1b := eq_true hk1
                clear hkk hcur hcl hks
                go_wp2
                go_roundw
                case rel => exact ⟨p + 1, by rw [HP1.out], hpl, grown_trans HG.out HP.out.2, by rw [HMS2.out]; exact HP.out.1, grown_below HB.out HP.out.2 hgb⟩
                case measure => rw [HP1.out]; exact (show ks.length - (p + 1) < ks.length - p from Nat.sub_lt_sub_left hpl (Nat.lt_succ_self p))
              · have hpd : decide ((p : Int) < (ks.length : Int)) = false := by simpa using hpl
                have hpe : p = ks.length := by omega
                rw [hpe, List.take_length, HE3.out, ← hsucc.out] at hR
                have HS5 := Aside0.mk (HS0.out.turned hG hR hB)
                have ht0 : wr.cell? ⟨w3.heap.size + 1 + 1 + 1, 0, none⟩ = some (.int .i64 x.f1) := hG.cell hs0 HN6.out
                have ht1 : wr.cell? ⟨w3.heap.size + 1 + 1 + 1, 1, none⟩ = some (.int .i64 x.f2) := hG.cell hs1 HN6.out
                clear hG hR hB hpl hs0 hs1
                go_wp2_with (first
                  | (refine wpList_delete_tells _ rfl _ _ 87 rfl lawSpot Try.underlying87 HS5.out.map rfl (sv x.f1 x.f2) kl rfl hkey (gput g (sv x.f1 x.f2) (.slice none 0 0)) (gput_same _ _ _) (fun y hy => gput_other g hy) ?_; intro ob w6 e6 hT6)
                  | fail)
                go_roundw
                case rel => exact ⟨i + 1, _, _, by rw [HW2.out], hlt, by rw [← e6]; exact (HS5.out.dropped e6 hT6).more (Nat.le_succ i), by rw [hsucc.out]; exact HO3.out, openLe_put hL _ _ _ (Nat.zero_le _)⟩
                case measure => rw [HW2.out]; exact (show l.length - (i + 1) < l.length - i from Nat.sub_lt_sub_left hlt (Nat.lt_succ_self i))
          · have h4b : (x.f0 == 4) = false := by simpa using h4
            have HE4 := Aside0.mk (outStep_other (n := l.length) (i := i) (out := outsTo l i) h2 h3 h4)
            clear h2 h3 h4
            go_wp2_with (first
              | (go_at_call 47; refine (of_any _ _ _ _ _ _).mono ?_; rintro e5 w5 ⟨rfl, o1, o2, rfl⟩; have HS0 := HSL o1 o2)
              | fail)
            go_roundw
            case rel => exact ⟨i + 1, _, _, by rw [HW2.out], hlt, by rw [hsucc.out, HE4.out]; exact HS0.out.more (Nat.le_succ i), by rw [hsucc.out, HE4.out]; exact hO, hL'⟩
            case measure => rw [HW2.out]; exact (show l.length - (i + 1) < l.length - i from Nat.sub_lt_sub_left hlt (Nat.lt_succ_self i))
    · have hd : decide ((i : Int) < (l.length : Int)) = false := by simpa using hlt
      have hil : i = l.length := by omega
      subst hil
      clear hl
      go_wp2
      go_ret
      exact ⟨_, rfl, Kd.R_mono hS.outs (fun _ _ => trivial), hS.below⟩
end Go.Proofs.Ytkegdcnnankokaa.PGan
