/-
heap.Heap[int]'s set, walked.
-/
import Derived.Test.YtkegdcnnankokaaHiSet
namespace Go.Proofs.Ytkegdcnnankokaa.Hpi
set_option linter.unusedVariables false
set_option linter.unusedSimpArgs false
open Go.Maps Go.RowKit Go.Proofs.YtkegdcnnankokaaW.PrintWords Go.Proofs.YtkegdcnnankokaaW.PrintLast Go.Proofs.YtkegdcnnankokaaW.PrintMore Hp
theorem region_tail {P : Program} {id : Nat} {Q : Exit → Act → World → Prop} {a : Act} {w : World} {l : List Oper} (n : Nat) (hm : P.follows .mixedOrders = true) (hB : Region.lexTailB .any l.toArray n = true)
    (W : World) (hW : W = w.drew) (h : wpStill P l.toArray W (fun a' => wpList P l.toArray Q (l.drop n) a' W) (l.take n) a) : (Code.region id l.toArray true).wp P Q a w := by
  subst hW; exact wp_region_still_tail n hm hB h
theorem wf_small {i : Nat} (h : i ≤ 1000000) : (Lit.int .i64 (i : Int)).wf = true := by
  have h1 : IntKind.i64.min = -9223372036854775808 := by decide
  have h2 : IntKind.i64.max = 9223372036854775807 := by decide
  show (decide (IntKind.i64.min ≤ (i : Int)) && decide ((i : Int) ≤ IntKind.i64.max)) = true
  rw [h1, h2, Bool.and_eq_true]
  exact ⟨decide_eq_true (by omega), decide_eq_true (by omega)⟩
set_option maxRecDepth 100000 in
set_option maxHeartbeats 4000000 in
theorem set_any {w : World} {h mb n : Nat} {v : Value} {seq : Int} {its : List (It Int)} {g : Int → Option Int} (R : Raw w h v mb n seq its g) {i : Nat} (hi : i < its.length) (x : It Int) (hx : wfk x.f2) (hn : n ≤ 1000000) (hl : its.length ≤ 1000000) :
    Calls Try.prog 83 #[.pointer (some ⟨h, 0, none⟩), .int .i64 (i : Int), .agg #[.int .i64 x.f0, .int .i64 x.f1, .int .i64 x.f2]] w fun e w' => e = .returned (.tuple #[]) ∧ Raw w' h v mb (n + 1) seq (its.set i x) (gset g x.f2 (some (i : Int))) ∧ Fr (foot h v mb) w w' := by
  obtain ⟨q, cap, rfl, _, hql, cells, hqc⟩ := Kd.R_form R.row (by omega)
  have hq := R.row.1 q (by simp [Value.ownBlock])
  have hn0 : (0 : Int) ≤ (i : Int) ∧ (i : Int) < (its.length : Int) := by omega
  have hn0b := eq_true hn0
  go_enter Try.func83, Try.ntmps83
  go_wp2
  obtain ⟨W, hW⟩ : ∃ W, w.alloc (.cells #[.int .i64 x.f0, .int .i64 x.f1, .int .i64 x.f2] 117) = W := ⟨_, rfl⟩
  obtain ⟨bx, hbx⟩ : ∃ bx, w.heap.size = bx := ⟨_, rfl⟩
  have FW : Fr (fun _ => False) w W := hW ▸ Fr.of_below _ ((Below.refl w.heap.size w).alloc (Nat.le_refl _) _)
  have RW := R.kept FW (fun _ _ q => q)
  have hxb : W.heap[bx]? = some (.cells #[.int .i64 x.f0, .int .i64 x.f1, .int .i64 x.f2] 117 (0, 0)) := by rw [← hW, ← hbx]; exact Array.getElem?_push_size
  have b0 : W.cell? ⟨bx, 0, none⟩ = some (.int .i64 x.f0) := cell_of_heap hxb rfl
  have b1 : W.cell? ⟨bx, 1, none⟩ = some (.int .i64 x.f1) := cell_of_heap hxb rfl
  have b2 : W.cell? ⟨bx, 2, none⟩ = some (.int .i64 x.f2) := cell_of_heap hxb rfl
  have h0 : W.cell? ⟨h, 0, none⟩ = some (.slice (some ⟨q, 0, none⟩) its.length cap) := cell_of_heap RW.hd rfl
  have h1 : W.cell? ⟨h, 1, none⟩ = some (.map (some mb)) := cell_of_heap RW.hd rfl
  rw [hW, hbx]
  clear hW
  refine region_tail 7 (by kernel_rfl) (by kernel_rfl) _ rfl ?_
  simp only [List.take_succ_cons, List.take_zero, List.drop_succ_cons, List.drop_zero]
  repeat still_step
  refine wpStill_nil ?_
  obtain ⟨c, hcl, _, hcc, _⟩ := Kd.R_elem RW.row zI (i : Int) (by omega) (by omega)
  obtain ⟨c0, c1, c2, rfl⟩ : ∃ c0 c1 c2, c = [c0, c1, c2] := by
    match c, hcl with
    | [c0, c1, c2], _ => exact ⟨_, _, _, rfl⟩
  have hR1 := RW.row
  have hinf : (Try.prog.info? 117).map (·.size) = some 3 := by kernel_rfl
  refine Kd.R_store kI (w0 := W) 0 rfl rfl 117 (.tmp 12) (.tmp 11) rfl 117 (i : Int) 0 its x (.agg #[.int .i64 x.f0, .int .i64 x.f1, .int .i64 x.f2]) [.int .i64 x.f0, .int .i64 x.f1, .int .i64 x.f2] [c0, c1, c2] (fun k => k ≠ h ∧ k ≠ mb) (fun _ => False) rfl rfl rfl rfl hinf (by simp [Value.oneCell']) (show Kd.R kI 117 W.drew 0 _ _ _ from hR1) (by omega) (by omega) rfl hcc (Nat.le_refl 3) (kI_mkM _ _ _ x) (fun _ hk => hk.elim) ⟨rfl, rfl, rfl, Nat.le_refl _, fun _ hk => absurd hk (Nat.not_lt_zero _)⟩ ?_
  intro w1 hrow1 hB1 hg1
  have F1 : Fr (foot h (.slice (some ⟨q, 0, none⟩) its.length cap) mb) W w1 := Fr.of_grown (w := W) ⟨hg1.os, hg1.tape, hg1.output, hg1.size, hg1.block⟩ (fun k hk => .inr (.inr (by simpa [Value.ownBlock] using hk)))
  have G1 : Fr (fun k => k = q) W w1 := Fr.of_grown (w := W) ⟨hg1.os, hg1.tape, hg1.output, hg1.size, hg1.block⟩ (fun k hk => by injection hk with hk; exact hk.symm)
  have hd1 := G1.heap RW.hd (fun e => hq.1 e.symm)
  obtain ⟨D, hD, hI⟩ := RW.map
  have hD1 := G1.map hD (fun e => hq.2 e.symm)
  have k1 : w1.cell? ⟨h, 1, none⟩ = some (.map (some mb)) := cell_of_heap hd1 rfl
  have e2 : w1.cell? ⟨bx, 2, none⟩ = some (.int .i64 x.f2) := G1.cell b2 (fun e => by have : bx = q := e; omega)
  have hkx := key_of hx
  go_wp2
  refine region_tail 7 (by kernel_rfl) (by kernel_rfl) _ rfl ?_
  simp only [List.take_succ_cons, List.take_zero, List.drop_succ_cons, List.drop_zero]
  repeat still_step
  refine wpStill_nil ?_
  refine wpList_mapUpdate_own w1.drew rfl (.tmp 16) (.tmp 18) (.tmp 19) 65 rfl 3 3 lawK Try.underlying65 (plainElem Try.prog 3) mb n D rfl hD1.drew (by unfold maxLen; omega) _ _ (Lit.int .i64 x.f2) rfl rfl hkx (.lit (.int .i64 (i : Int))) [] (plainElem_int Try.underlying3 (wf_small (by omega))) ?_
  intro w2 hD2 hg2
  go_wp2
  go_end0
  have hg2' : Fr (fun k => k = mb) w1 w2 := Fr.of_grown (w := w1) ⟨hg2.os, hg2.tape, hg2.output, hg2.size, hg2.block⟩ (fun k hk => by injection hk with hk; exact hk.symm)
  have hT := Kd.R_tight rfl hrow1
  refine ⟨rfl, ⟨hg2'.heap hd1 R.ne, ?_, ⟨_, hD2, idx_put hI x.f2 (i : Int)⟩, R.ne⟩, ?_⟩
  · have := Kd.R_step hT (fun k hk hlt => hg2'.block k hlt (fun e => hq.2 (by have : k = mb := e; have h8 : some k = some q := hk; injection h8; omega)))
    rw [Int.toNat_natCast] at this
    exact Kd.R_mono this (fun k hk => by have h8 : some k = some q := hk; injection h8 with h8; subst h8; exact hq)
  · have F0 : Fr (foot h (.slice (some ⟨q, 0, none⟩) its.length cap) mb) w W := FW.mono (fun _ _ q => q.elim)
    refine (F0.trans F1 (fun _ _ q => q)).trans hg2' (fun k _ q => .inr (.inl q))
end Go.Proofs.Ytkegdcnnankokaa.Hpi
