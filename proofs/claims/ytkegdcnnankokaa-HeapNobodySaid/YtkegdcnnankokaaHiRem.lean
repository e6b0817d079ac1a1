/-
heap.Heap[int]'s remove, walked.
-/
import Derived.Test.YtkegdcnnankokaaHiPutW
import Derived.Laws.ResultCell
namespace Go.Proofs.Ytkegdcnnankokaa.Hpi
set_option linter.unusedVariables false
set_option linter.unusedSimpArgs false
open Go.Maps Go.RowKit Go.Proofs.YtkegdcnnankokaaW.PrintWords Go.Proofs.YtkegdcnnankokaaW.PrintLast Go.Proofs.YtkegdcnnankokaaW.PrintMore Hp
theorem rem_num {N M len : Nat} (hb : N + 2 * M + 4 ≤ 1000000) (hl : len ≤ M) (h0 : 0 < len) : wrap64 ((len : Int) - 1) = ((len - 1 : Nat) : Int) := by
  rw [wrap_nat (by omega) (by omega)]; omega
theorem rem_b1 {N M n la : Nat} (hb : N + 2 * M + 4 ≤ 1000000) (hn : n ≤ N) (hl : la ≤ M) : n ≤ 1000000 ∧ la ≤ 1000000 ∧ (n + 1) + la + 1 ≤ 1000000 := by omega
theorem rem_b2 {N M n n6 la : Nat} (hb : N + 2 * M + 4 ≤ 1000000) (hn : n ≤ N) (hl : la + 1 ≤ M) (h6 : n6 ≤ (n + 1) + la + 1) : n6 + la + 1 ≤ 1000000 := by omega
theorem rem_b3 {N M n n6 n7 la : Nat} (hn : n ≤ N) (hl : la + 1 ≤ M) (h6 : n6 ≤ (n + 1) + la + 1) (h7 : n7 ≤ n6 + la + 1) : n7 ≤ N + 2 * M + 3 := by omega
theorem results_cell1 {P : Program} {fn : Func} {p : Tmp} {ty : TypeId} (h : fn.results = #[.cell p ty]) (tmps : Array Value) (w : World) (g : Nat) (t : TypeId) (cs : Array Value) (fr : Nat × Nat) (d : TypeDesc)
    (hp : tmps.getD p undef = .pointer (some ⟨g, 0, none⟩)) (hg : w.heap[g]? = some (.cells cs t fr))
    (hu : P.underlying ty = some d) (hd : (match d with | .struct _ | .array _ _ => true | _ => false) = true) (hi : (P.info? ty).map (·.size) = some cs.size) :
    (results fn tmps).run P w = .ok (.agg cs) w := by
  have hp' : tmps[p]?.getD undef = .pointer (some ⟨g, 0, none⟩) := by simpa using hp
  simp [results, h, hp', asAddr, run_loadVar_row w g t ty cs fr d hg hu hd hi]
/-- a box is written whole. -/
theorem box3 {w : World} {b : Nat} {u0 u1 u2 : Value} {t : TypeId} (hb : w.heap[b]? = some (.cells #[u0, u1, u2] t (0, 0))) (x0 x1 x2 : Value) :
    (((w.setCell ⟨b, 0, none⟩ x0).setCell ⟨b, 1, none⟩ x1).setCell ⟨b, 2, none⟩ x2).heap[b]? = some (.cells #[x0, x1, x2] t (0, 0)) ∧ Fr (fun k => k = b) w (((w.setCell ⟨b, 0, none⟩ x0).setCell ⟨b, 1, none⟩ x1).setCell ⟨b, 2, none⟩ x2) := by
  obtain ⟨h0, f0⟩ := set_hd hb 0 x0
  obtain ⟨h1, f1⟩ := set_hd h0 1 x1
  obtain ⟨h2, f2⟩ := set_hd h1 2 x2
  exact ⟨h2, (f0.trans f1 (fun _ _ q => q)).trans f2 (fun _ _ q => q)⟩
set_option maxRecDepth 100000 in
set_option maxHeartbeats 8000000 in
theorem remove_any {w : World} {h N M seq : Nat} {F : Nat → Prop} {l : List (It Int)} (H : HpAt w h F N M l seq) {i : Nat} (hi : i < l.length) (hb : N + 2 * M + 4 ≤ 1000000) :
    Calls Try.prog 65 #[.pointer (some ⟨h, 0, none⟩), .int .i64 (i : Int)] w fun e w' => e = .returned (.agg #[.int .i64 (gd l i).f0, .int .i64 (gd l i).f1, .int .i64 (gd l i).f2]) ∧
      ∃ F', HpAt w' h F' (N + 2 * M + 3) M (removeP l i) seq ∧ Fr F w w' ∧ ∀ k, F' k → F k ∨ w.heap.size ≤ k := by
  have hl0 : 0 < l.length := by omega
  obtain ⟨aL, aS, hA, hW, ⟨rfl, _⟩ | ⟨v, mb, n, g, hnN, R, hg, rfl⟩⟩ := H
  · simp at hi
  obtain ⟨q, cap, rfl, _, hql, cells, hqc⟩ := Kd.R_form R.row hl0
  obtain ⟨hnum⟩ : Nonempty (wrap64 ((l.length : Int) - 1) = ((l.length - 1 : Nat) : Int)) := ⟨rem_num hb aL hl0⟩
  obtain ⟨la, hla⟩ : ∃ la, l.length - 1 = la := ⟨_, rfl⟩
  rw [hla] at hnum
  have hll : la < l.length := by omega
  obtain ⟨x, hx⟩ : ∃ x, gd l i = x := ⟨_, rfl⟩
  obtain ⟨y, hy⟩ : ∃ y, gd l la = y := ⟨_, rfl⟩
  have HN := Aside0.mk hb
  have HL := Aside0.mk aL
  have HS := Aside0.mk aS
  clear hb aL aS
  go_enter Try.func65, Try.ntmps65
  go_upto_region 1 with (fail)
  obtain ⟨W0, hW0⟩ : ∃ W0, w.alloc (.cells #[.int .i64 0, .int .i64 0, .int .i64 0] 117) = W0 := ⟨_, rfl⟩
  obtain ⟨b4, hb4⟩ : ∃ b4, w.heap.size = b4 := ⟨_, rfl⟩
  have F0 : Fr (fun _ => False) w W0 := hW0 ▸ Fr.of_below _ ((Below.refl w.heap.size w).alloc (Nat.le_refl _) _)
  have z4 : W0.heap[b4]? = some (.cells #[.int .i64 0, .int .i64 0, .int .i64 0] 117 (0, 0)) := by rw [← hW0, ← hb4]; exact Array.getElem?_push_size
  rw [hW0, hb4]
  clear hW0
  have R0 := R.kept F0 (fun _ _ q => q)
  obtain ⟨a0, a1, a2⟩ := R0.at3 hi
  rw [hx] at a0 a1 a2
  have d0 : W0.cell? ⟨h, 0, none⟩ = some (.slice (some ⟨q, 0, none⟩) l.length cap) := cell_of_heap R0.hd rfl
  go_upto_region 2 with (fail)
  obtain ⟨W1, hW1⟩ : ∃ W1, W0.alloc (.cells #[.int .i64 x.f0, .int .i64 x.f1, .int .i64 x.f2] 117) = W1 := ⟨_, rfl⟩
  obtain ⟨b5, hb5⟩ : ∃ b5, W0.heap.size = b5 := ⟨_, rfl⟩
  have F1 : Fr (fun _ => False) W0 W1 := hW1 ▸ Fr.of_below _ ((Below.refl W0.heap.size W0).alloc (Nat.le_refl _) _)
  have z5 : W1.heap[b5]? = some (.cells #[.int .i64 x.f0, .int .i64 x.f1, .int .i64 x.f2] 117 (0, 0)) := by rw [← hW1, ← hb5]; exact Array.getElem?_push_size
  rw [hW1, hb5]
  clear hW1
  have R1 := R0.kept F1 (fun _ _ q => q)
  clear a0 a1 a2 d0
  obtain ⟨a0, a1, a2⟩ := R1.at3 hll
  rw [hy] at a0 a1 a2
  have d0 : W1.cell? ⟨h, 0, none⟩ = some (.slice (some ⟨q, 0, none⟩) l.length cap) := cell_of_heap R1.hd rfl
  go_upto_region 4 with (fail)
  obtain ⟨W2, hW2⟩ : ∃ W2, W1.alloc (.cells #[.int .i64 y.f0, .int .i64 y.f1, .int .i64 y.f2] 117) = W2 := ⟨_, rfl⟩
  obtain ⟨b7, hb7⟩ : ∃ b7, W1.heap.size = b7 := ⟨_, rfl⟩
  have F2 : Fr (fun _ => False) W1 W2 := hW2 ▸ Fr.of_below _ ((Below.refl W1.heap.size W1).alloc (Nat.le_refl _) _)
  have z7 : W2.heap[b7]? = some (.cells #[.int .i64 y.f0, .int .i64 y.f1, .int .i64 y.f2] 117 (0, 0)) := by rw [← hW2, ← hb7]; exact Array.getElem?_push_size
  rw [hW2, hb7]
  clear hW2
  have R2 := R1.kept F2 (fun _ _ q => q)
  clear a0 a1 a2 d0
  have d0 : W2.cell? ⟨h, 0, none⟩ = some (.slice (some ⟨q, 0, none⟩) l.length cap) := cell_of_heap R2.hd rfl
  have f0 : W2.frozen? ⟨h, 0, none⟩ = false := hd_frozen R2.hd 0
  obtain ⟨iI, hiI, _, _, _⟩ := info_parts infoI
  have hroom : l.length ≤ cap := (Kd.R_reads' R2.row).2.1
  have hcut := cut_to (P := Try.prog) 64 117 .i64 Try.underlying64 hiI (some ⟨q, 0, none⟩) l.length cap (la : Int) (Int.natCast_nonneg _) (Int.ofNat_le.2 (Nat.le_of_lt hll)) hroom
  rw [Int.toNat_natCast] at hcut
  go_upto_region 5 with (fail)
  simp only [hnum]
  obtain ⟨W3, hW3⟩ : ∃ W3, W2.setCell ⟨h, 0, none⟩ (.slice (some ⟨q, 0, none⟩) la cap) = W3 := ⟨_, rfl⟩
  obtain ⟨d3, f3⟩ := set_hd R2.hd 0 (.slice (some ⟨q, 0, none⟩) la cap)
  rw [hW3] at d3 f3 ⊢
  clear hW3 d0 f0
  obtain ⟨D, hD, hI⟩ := R2.map
  have hD3 := f3.map hD (fun e => R2.ne e.symm)
  have hrow3 : Kd.R kI 117 W3 0 (fun k => k ≠ h ∧ k ≠ mb) (.slice (some ⟨q, 0, none⟩) la cap) (l.take la) := Kd.R_step (Kd.R_take R2.row (Nat.le_of_lt hll)) (fun k hk hlt => f3.block k hlt hk.1)
  have hq := R.row.1 q (by simp [Value.ownBlock])
  have h45 : b4 ≠ b5 := by have := F0.size; have := z4; have h8 : b4 < W0.heap.size := (Array.getElem?_eq_some_iff.1 z4).1; omega
  have hlt4 : ∀ k, foot h (.slice (some ⟨q, 0, none⟩) l.length cap) mb k → k < b4 := fun k hk => by rw [← hb4]; exact R.lt k hk
  have h4k : ¬ foot h (.slice (some ⟨q, 0, none⟩) l.length cap) mb b4 := fun hf => Nat.lt_irrefl _ (hlt4 _ hf)
  have hb45 : b4 < b5 := by have h8 : b4 < W0.heap.size := (Array.getElem?_eq_some_iff.1 z4).1; omega
  have hb47 : b5 < b7 := by have h8 : b5 < W1.heap.size := (Array.getElem?_eq_some_iff.1 z5).1; omega
  have h5k : ¬ foot h (.slice (some ⟨q, 0, none⟩) l.length cap) mb b5 := fun hf => by have := hlt4 _ hf; omega
  have h7k : ¬ foot h (.slice (some ⟨q, 0, none⟩) l.length cap) mb b7 := fun hf => by have := hlt4 _ hf; omega
  have F3 : Fr (foot h (.slice (some ⟨q, 0, none⟩) l.length cap) mb) w W3 := ((((F0.mono (fun _ _ q => q.elim)).trans F1 (fun _ _ q => q.elim)).trans F2 (fun _ _ q => q.elim)).trans f3 (fun k _ e => .inl e))
  have y4 : W3.heap[b4]? = some (.cells #[.int .i64 0, .int .i64 0, .int .i64 0] 117 (0, 0)) := f3.heap (F2.heap (F1.heap z4 (fun q => q)) (fun q => q)) (fun e => h4k (.inl e))
  have y5 : W3.heap[b5]? = some (.cells #[.int .i64 x.f0, .int .i64 x.f1, .int .i64 x.f2] 117 (0, 0)) := f3.heap (F2.heap z5 (fun q => q)) (fun e => h5k (.inl e))
  have y7 : W3.heap[b7]? = some (.cells #[.int .i64 y.f0, .int .i64 y.f1, .int .i64 y.f2] 117 (0, 0)) := f3.heap z7 (fun e => h7k (.inl e))
  have e1 : W3.cell? ⟨h, 1, none⟩ = some (.map (some mb)) := cell_of_heap d3 rfl
  have e2 : W3.cell? ⟨b5, 2, none⟩ = some (.int .i64 x.f2) := cell_of_heap y5 rfl
  have hxw : wfk x.f2 := hx ▸ hW i hi
  have hyw : wfk y.f2 := hy ▸ hW la hll
  go_wp2
  refine region_tail 6 (by kernel_rfl) (by kernel_rfl) _ rfl ?_
  simp only [List.take_succ_cons, List.take_zero, List.drop_succ_cons, List.drop_zero]
  repeat still_step
  refine wpStill_nil ?_
  refine wpList_delete_own W3.drew rfl (.tmp 40) (.tmp 42) 65 3 rfl 3 lawK Try.underlying65 (plainElem Try.prog 3) mb n D rfl hD3.drew _ (Lit.int .i64 x.f2) rfl (key_of hxw) ?_
  intro w4 hD4 hturn4
  have f4 : Fr (fun k => k = mb) W3 w4 := by
    have hg4 := hturn4.grown
    exact Fr.of_grown (w := W3) ⟨hg4.os, hg4.tape, hg4.output, hg4.size, hg4.block⟩ (fun k hk => by injection hk with hk; exact hk.symm)
  have R4 : Raw w4 h (.slice (some ⟨q, 0, none⟩) la cap) mb n (seq : Int) (l.take la) (gset g x.f2 none) := ⟨f4.heap d3 R2.ne, Kd.R_step hrow3 (fun k hk hlt => f4.block k hlt hk.2), ⟨_, hD4, idx_del hI x.f2⟩, R2.ne⟩
  have F4 : Fr (foot h (.slice (some ⟨q, 0, none⟩) l.length cap) mb) w w4 := F3.trans f4 (fun k _ e => .inr (.inl e))
  have x4 := f4.heap y4 (fun e => h4k (.inr (.inl e)))
  have x5 := f4.heap y5 (fun e => h5k (.inr (.inl e)))
  have x7 := f4.heap y7 (fun e => h7k (.inr (.inl e)))
  clear e1 e2 y4 y5 y7
  have hfoot : foot h (.slice (some ⟨q, 0, none⟩) la cap) mb = foot h (.slice (some ⟨q, 0, none⟩) l.length cap) mb := rfl
  have hlM : la + 1 ≤ M := by have := HL.out; omega
  by_cases hil : i < la
  · have hd : decide ((i : Int) < (la : Int)) = true := by simpa using hil
    have hil' : i < l.length - 1 := by rw [hla]; exact hil
    obtain ⟨L, hL⟩ : ∃ L, (l.take la).set i y = L := ⟨_, rfl⟩
    have hcl : (l.take (l.length - 1)).set i (gd l (l.length - 1)) = L := by rw [hla, hy]; exact hL
    have hLl : L.length = la := by rw [← hL, List.length_set, List.length_take]; omega
    have hLi : gd L i = y := by rw [← hcl, gd_cut hil', if_pos rfl, hla]; exact hy
    have hLA : Apart L := hcl ▸ apart_cut hA hil'
    have hLF : AtFull (gset (gset g x.f2 none) y.f2 (some (i : Int))) L := by
      have := full_cut hA hg hil'
      rw [hcl, hla, hx, hy] at this
      exact this
    have hLW : ∀ j, j < L.length → wfk (gd L j).f2 := fun j hj => by
      rw [hLl] at hj
      rw [← hcl, gd_cut hil']
      split
      · rw [hla, hy]; exact hyw
      · split
        · exact hW j (by omega)
        · omega
    have hiL : i < L.length := by rw [hLl]; exact hil
    have hit : i < (l.take la).length := by rw [List.length_take]; omega
    have htl : (l.take la).length = la := by rw [List.length_take]; omega
    obtain ⟨B1, B2, B3⟩ := rem_b1 HN.out hnN (Nat.le_of_succ_le hlM)
    have hSet := Aside0.mk (set_any R4 hit y hyw B1 (by rw [htl]; exact B2))
    have hUp := fun (w5 : World) (R5 : Raw w5 h (.slice (some ⟨q, 0, none⟩) la cap) mb (n + 1) (seq : Int) L (gset (gset g x.f2 none) y.f2 (some (i : Int)))) => Aside0.mk (up_any R5 hiL hLA (fun z _ => hLF z) hLW (by rw [hLl]; exact B3))
    have B4 := Aside0.mk (And.intro hlM hnN)
    clear B1 B2 B3 hlM
    have c0 : w4.cell? ⟨b7, 0, none⟩ = some (.int .i64 y.f0) := cell_of_heap x7 rfl
    have c1 : w4.cell? ⟨b7, 1, none⟩ = some (.int .i64 y.f1) := cell_of_heap x7 rfl
    have c2 : w4.cell? ⟨b7, 2, none⟩ = some (.int .i64 y.f2) := cell_of_heap x7 rfl
    go_upto_region 9 with (first
      | (go_at_call 83; refine (hSet.out).mono ?_; rintro e w5 ⟨rfl, R5, F5⟩; rw [hL] at R5)
      | (go_at_call 64; refine ((hUp w5 R5).out).mono ?_; rintro e w6 ⟨rfl, n6, g6, hn6, R6, hg6, F6⟩)
      | fail)
    rw [hfoot] at F5 F6
    have F46 := F5.trans F6 (fun _ _ q => q)
    have v4 := F46.heap x4 h4k
    have v5 := F46.heap x5 h5k
    have v7 := F46.heap x7 h7k
    obtain ⟨U, hU⟩ : ∃ U, upP L i = U := ⟨_, rfl⟩
    have hUl : U.length = la := by rw [← hU, upP_len L i hiL, hLl]
    have hUA : Apart U := hU ▸ upP_apart hiL hLA
    have hUW : ∀ j, j < U.length → wfk (gd U j).f2 := by rw [← hU]; exact upP_all (P := fun e => wfk e.f2) hiL hLW
    obtain ⟨k, hk, hky⟩ := upP_has hiL ⟨i, hiL, congrArg It.f2 hLi⟩
    rw [hU] at R6 hg6 hk hky
    have hpk : posN U y.f2 = k := pos_in hUA hk hky
    have hrem : removeP l i = downP U k := by unfold removeP; rw [if_pos hil', hcl, hla, hy, hU, hpk]
    obtain ⟨D6, hD6, hI6⟩ := R6.map
    obtain ⟨cc, hrun, hat, _⟩ := hD6.drew.lookup_int lawK Try.underlying65 Try.underlying3 (zeroV w6.drew) (key_of hyw)
    have hcc : cc = (k : Int) := by
      have h1 := (hI6.2 y.f2).2
      rw [hat, hg6, posO_eq hUA hk hky] at h1
      injection h1 with h1
      injection h1 with _ h1
    rw [hcc] at hrun
    have hDn := fun (w7 : World) (R7 : Raw w7 h (.slice (some ⟨q, 0, none⟩) la cap) mb n6 (seq : Int) U g6) => Aside0.mk (down_any R7 hk hUA (fun z _ => hg6 z) hUW (by rw [hUl]; rw [hLl] at hn6; exact rem_b2 HN.out hnN B4.out.1 hn6))
    have e1 : w6.cell? ⟨h, 1, none⟩ = some (.map (some mb)) := cell_of_heap R6.hd rfl
    have e2 : w6.cell? ⟨b7, 2, none⟩ = some (.int .i64 y.f2) := cell_of_heap v7 rfl
    refine region_tail 8 (by kernel_rfl) (by kernel_rfl) _ rfl ?_
    simp only [List.take_succ_cons, List.take_zero, List.drop_succ_cons, List.drop_zero]
    repeat still_step
    refine wpStill_nil ?_
    go_wp2_with (first
      | (go_at_call 84; refine ((hDn w6.drew R6.drew).out).mono ?_; rintro e w7 ⟨rfl, n7, g7, hn7, R7, hg7, F7⟩; have F67 := ((Fr.refl (foot h (.slice (some ⟨q, 0, none⟩) la cap) mb) w6).drew).trans F7 (fun _ _ q => q); rw [hfoot] at F67; have u4 := F67.heap v4 h4k; have u5 := F67.heap v5 h5k; have p0 : w7.cell? ⟨b5, 0, none⟩ = some (.int .i64 x.f0) := cell_of_heap u5 rfl; have p1 : w7.cell? ⟨b5, 1, none⟩ = some (.int .i64 x.f1) := cell_of_heap u5 rfl; have p2 : w7.cell? ⟨b5, 2, none⟩ = some (.int .i64 x.f2) := cell_of_heap u5 rfl; have r0 : w7.cell? ⟨b4, 0, none⟩ = some (.int .i64 0) := cell_of_heap u4 rfl; have r1 : w7.cell? ⟨b4, 1, none⟩ = some (.int .i64 0) := cell_of_heap u4 rfl; have r2 : w7.cell? ⟨b4, 2, none⟩ = some (.int .i64 0) := cell_of_heap u4 rfl; have s0 := hd_frozen u4 0; have s1 := hd_frozen u4 1; have s2 := hd_frozen u4 2)
      | fail)
    obtain ⟨zz, Fz⟩ := box3 u4 (.int .i64 x.f0) (.int .i64 x.f1) (.int .i64 x.f2)
    rw [hUl] at hn7
    rw [hLl] at hn6
    have hkU : (downP U k).length = la := by rw [downP_len U k hk, hUl]
    refine bodyPost_ret (results_cell1 rfl _ _ b4 117 #[.int .i64 x.f0, .int .i64 x.f1, .int .i64 x.f2] (0, 0) _ rfl zz Try.underlying117 rfl (by kernel_rfl)) rfl ⟨by rw [hx], foot h (.slice (some ⟨q, 0, none⟩) la cap) mb, ⟨?_, HS.out, ?_, ?_, .inr ⟨_, mb, n7, g7, rem_b3 hnN B4.out.1 hn6 hn7, ?_, ?_, rfl⟩⟩, ?_, fun k_ hk_ => .inl hk_⟩
    · rw [hrem, hkU]; exact Nat.le_of_succ_le B4.out.1
    · rw [hrem]; exact downP_apart hk hUA
    · rw [hrem]; exact downP_all (P := fun e => wfk e.f2) hk hUW
    · rw [hrem]; exact R7.kept Fz (fun k_ hk_ e_ => h4k (e_ ▸ hk_))
    · rw [hrem]; exact hg7
    · exact ((F4.trans F46 (fun _ _ q => q)).trans F67 (fun _ _ q => q)).trans Fz (fun k_ hk_ e_ => absurd hk_ (by rw [e_, ← hb4]; exact Nat.lt_irrefl _))
  · have hd : decide ((i : Int) < (la : Int)) = false := by simpa using hil
    have hil' : ¬ i < l.length - 1 := by rw [hla]; exact hil
    have hrem : removeP l i = l.take la := by unfold removeP; rw [if_neg hil', hla]
    have hLF : AtFull (gset g x.f2 none) (l.take la) := by
      have := full_take hA hg hi hil'
      rw [hla, hx] at this
      exact this
    have p0 : w4.cell? ⟨b5, 0, none⟩ = some (.int .i64 x.f0) := cell_of_heap x5 rfl
    have p1 : w4.cell? ⟨b5, 1, none⟩ = some (.int .i64 x.f1) := cell_of_heap x5 rfl
    have p2 : w4.cell? ⟨b5, 2, none⟩ = some (.int .i64 x.f2) := cell_of_heap x5 rfl
    have r0 : w4.cell? ⟨b4, 0, none⟩ = some (.int .i64 0) := cell_of_heap x4 rfl
    have r1 : w4.cell? ⟨b4, 1, none⟩ = some (.int .i64 0) := cell_of_heap x4 rfl
    have r2 : w4.cell? ⟨b4, 2, none⟩ = some (.int .i64 0) := cell_of_heap x4 rfl
    have s0 := hd_frozen x4 0
    have s1 := hd_frozen x4 1
    have s2 := hd_frozen x4 2
    have htl : (l.take la).length = la := by rw [List.length_take]; omega
    have hNN : n ≤ N + 2 * M + 3 := by omega
    have hTW : ∀ j, j < (l.take la).length → wfk (gd (l.take la) j).f2 := fun j hj => by
      rw [htl] at hj
      rw [gd_take, if_pos hj]
      exact hW j (by omega)
    clear hlM
    go_wp2
    obtain ⟨zz, Fz⟩ := box3 x4 (.int .i64 x.f0) (.int .i64 x.f1) (.int .i64 x.f2)
    refine bodyPost_ret (results_cell1 rfl _ _ b4 117 #[.int .i64 x.f0, .int .i64 x.f1, .int .i64 x.f2] (0, 0) _ rfl zz Try.underlying117 rfl (by kernel_rfl)) rfl ⟨by rw [hx], foot h (.slice (some ⟨q, 0, none⟩) la cap) mb, ⟨?_, HS.out, ?_, ?_, .inr ⟨_, mb, n, gset g x.f2 none, hNN, ?_, ?_, rfl⟩⟩, ?_, fun k_ hk_ => .inl hk_⟩
    · rw [hrem, htl]; have := HL.out; omega
    · rw [hrem]; exact apart_take hA la
    · rw [hrem]; exact hTW
    · rw [hrem]; exact R4.kept Fz (fun k_ hk_ e_ => h4k (e_ ▸ hk_))
    · rw [hrem]; exact hLF
    · exact F4.trans Fz (fun k_ hk_ e_ => absurd hk_ (by rw [e_, ← hb4]; exact Nat.lt_irrefl _))
end Go.Proofs.Ytkegdcnnankokaa.Hpi
