/-
heap.Heap[int]'s Pop and Due, walked.
-/
import Derived.Test.YtkegdcnnankokaaHiRem
namespace Go.Proofs.Ytkegdcnnankokaa.Hpi
set_option linter.unusedVariables false
set_option linter.unusedSimpArgs false
open Go.Maps Go.RowKit Go.Proofs.YtkegdcnnankokaaW.PrintWords Go.Proofs.YtkegdcnnankokaaW.PrintLast Go.Proofs.YtkegdcnnankokaaW.PrintMore Hp
set_option maxRecDepth 100000 in
set_option maxHeartbeats 8000000 in
theorem pop_any {w : World} {h N M seq : Nat} {F : Nat → Prop} {l : List (It Int)} (H : HpAt w h F N M l seq) (hb : N + 2 * M + 4 ≤ 1000000) :
    Calls Try.prog 37 #[.pointer (some ⟨h, 0, none⟩)] w fun e w' => e = .returned (firstV l) ∧
      ∃ F', HpAt w' h F' (N + 2 * M + 3) M (popP l) seq ∧ Fr F w w' ∧ ∀ k, F' k → F k ∨ w.heap.size ≤ k := by
  have hLen := Aside0.mk (len_any H)
  unfold firstV popP
  by_cases hl : l.length = 0
  · rw [if_pos hl, if_pos hl]
    have hb : ((l.length : Int) == 0) = true := by simp [hl]
    have HM := Aside0.mk (H.more (N' := N + 2 * M + 3) (M' := M) (by omega) (Nat.le_refl _))
    go_enter Try.func37, Try.ntmps37
    go_wp2_with (first
      | (go_at_call 40; refine (hLen.out).mono ?_; rintro e w9 ⟨rfl, hw9⟩; rw [hw9]; clear hw9)
      | fail)
    go_ret3
    exact ⟨rfl, F, HM.out, Fr.refl _ _, fun k hk => .inl hk⟩
  · rw [if_neg hl, if_neg hl]
    have hl0 : 0 < l.length := Nat.pos_of_ne_zero hl
    have hRem := Aside0.mk (remove_any H (i := 0) hl0 hb)
    have hb : ((l.length : Int) == 0) = false := by simp [hl]
    go_enter Try.func37, Try.ntmps37
    go_wp2_with (first
      | (go_at_call 40; refine (hLen.out).mono ?_; rintro e w9 ⟨rfl, hw9⟩; rw [hw9]; clear hw9)
      | (go_at_call 65; refine (hRem.out).mono ?_; rintro e w1 ⟨rfl, F1, H1, G1, K1⟩)
      | fail)
    obtain ⟨W, hW⟩ : ∃ W, w1.alloc (.cells #[.int .i64 (gd l 0).f0, .int .i64 (gd l 0).f1, .int .i64 (gd l 0).f2] 117) = W := ⟨_, rfl⟩
    have hx : W.heap[w1.heap.size]? = some (.cells #[.int .i64 (gd l 0).f0, .int .i64 (gd l 0).f1, .int .i64 (gd l 0).f2] 117 (0, 0)) := by rw [← hW]; exact Array.getElem?_push_size
    have HW := H1.behind (w1 := W) (hW ▸ (Below.refl w1.heap.size w1).alloc (Nat.le_refl _) _)
    have GW : Fr F w W := hW ▸ G1.alloc _
    rw [hW]
    have c0 : W.cell? ⟨w1.heap.size, 0, none⟩ = some (.int .i64 (gd l 0).f0) := cell_of_heap hx rfl
    have c1 : W.cell? ⟨w1.heap.size, 1, none⟩ = some (.int .i64 (gd l 0).f1) := cell_of_heap hx rfl
    have c2 : W.cell? ⟨w1.heap.size, 2, none⟩ = some (.int .i64 (gd l 0).f2) := cell_of_heap hx rfl
    go_quiet (fail)
    go_wp2
    go_ret3
    exact ⟨rfl, F1, HW.drewN nq, GW.trans (G := fun _ => False) ⟨rfl, rfl, rfl, Nat.le_refl _, fun _ _ _ => rfl⟩ (fun _ _ q => q.elim), K1⟩
theorem due_b {N' N M a b c : Nat} (hc : c = 2 * M + 3) (hb : N + b * c + 2 * M + 4 ≤ 1000000) (h : N' + a * c ≤ N + b * c) : N' + 2 * M + 4 ≤ 1000000 := by
  have : 0 ≤ a * c := Nat.zero_le _
  omega
theorem due_c {N' N M m b c : Nat} (hc : c = 2 * M + 3) (h : N' + (m + 1) * c ≤ N + b * c) : N' + 2 * M + 3 + m * c ≤ N + b * c := by
  rw [Nat.succ_mul] at h
  omega
theorem due_room {n M : Nat} (h : n ≤ M) (hM : M ≤ 1000000) : (n + 1) * 16 ≤ 140737488355328 := by omega
theorem due_room8 {n M : Nat} (h : n ≤ M) (hM : M ≤ 1000000) : (n + 1) * 8 ≤ 140737488355328 := by omega
theorem due_m {N M b c : Nat} (hb : N + b * c + 2 * M + 4 ≤ 1000000) : M ≤ 1000000 := by omega
theorem infoT : (Try.prog.info? 3).map (fun i => (i.zero, i.size, i.bytes)) = some (some (.int .i64 0), 1, 8) := by kernel_rfl
/-- what was told so far is none of the heap's, behind a pop either. -/
theorem due_keep {wr w1 : World} {kk : Nat} {base h N M seq : Nat} {F' F2 : Nat → Prop} {L : List (It Int)} {v : Value} {out : List Int} (hR : Kd.R (Kd.int .i64) 3 wr base (fun k => ¬ F' k) v out) (hH : HpAt wr h F' N M L seq) (K2 : ∀ k, F2 k → F' k ∨ (wr.drewN kk).heap.size ≤ k) (G2 : Fr F' (wr.drewN kk) w1) : Kd.R (Kd.int .i64) 3 w1 base (fun k => ¬ F2 k) v out := by
  have h1 := Kd.R_bound hR
  have h2 := Kd.R_step (w1 := w1) h1 (fun k hk hlt => G2.block k hlt hk.1)
  exact Kd.R_mono h2 (fun k hk hf => by
    rcases K2 k hf with q_ | q_
    · exact hk.1 q_
    · exact absurd hk.2.2.1 (Nat.not_lt.2 q_))
set_option maxRecDepth 100000 in
set_option maxHeartbeats 8000000 in
theorem due_any {w : World} {h N M seq : Nat} {F : Nat → Prop} {l : List (It Int)} (H : HpAt w h F N M l seq) (now : Int) {c : Nat} (hc : c = 2 * M + 3) (hb : N + l.length * c + 2 * M + 4 ≤ 1000000) :
    Calls Try.prog 39 #[.pointer (some ⟨h, 0, none⟩), .int .i64 now] w fun e w' => ∃ v, e = .returned v ∧
      ∃ F' N', N' ≤ N + l.length * c ∧ HpAt w' h F' N' M (dueP now l).2 seq ∧ Fr F w w' ∧ (∀ k, F' k → F k ∨ w.heap.size ≤ k) ∧ Kd.R (Kd.int .i64) 3 w' w.heap.size (fun k => ¬ F' k) v (dueP now l).1 := by
  have HN := Aside0.mk hb
  have HC := Aside0.mk hc
  have HM := Aside0.mk (due_m hb)
  have HLM := Aside0.mk H.1
  clear hb hc
  go_enter Try.func39, Try.ntmps39
  go_wp2
  go_loopw [4] (fun v4 wr => ∃ (L : List (It Int)) (out : List Int) (F' : Nat → Prop) (N' : Nat), HpAt wr h F' N' M L seq ∧ N' + L.length * c ≤ N + l.length * c ∧ Fr F w wr ∧ (∀ k, F' k → F k ∨ w.heap.size ≤ k) ∧ Kd.R (Kd.int .i64) 3 wr w.heap.size (fun k => ¬ F' k) v4 out ∧ out ++ (dueP now L).1 = (dueP now l).1 ∧ (dueP now L).2 = (dueP now l).2 ∧ out.length + L.length = l.length) (fun v4 _ => match v4 with | .slice _ n_ _ => l.length - n_ | _ => 0)
  case atStart => exact ⟨l, [], F, N, H, Nat.le_refl _, Fr.refl _ _, fun k hk => .inl hk, Kd.R_nil _ _ _ _ _, rfl, rfl, by simp⟩
  case round =>
    obtain ⟨L, out, F', N', hH, hN', hFr, hFt, hR, ho1, ho2, hlen⟩ := hrel
    obtain ⟨Ao, co, rfl⟩ := Kd.R_slice hR
    by_cases hl : L.length = 0
    · have hst := dueP_stop (now := now) (l := L) (.inl hl)
      have hF1 := Aside0.mk (first_any hH)
      have e1 : firstV L = .tuple #[.int .i64 0, .int .i64 0, .bool false] := by unfold firstV; rw [if_pos hl]
      rw [e1] at hF1
      have hNN : N' ≤ N + l.length * c := Nat.le_trans (Nat.le_add_right _ _) hN'
      rw [hst] at ho1 ho2
      rw [List.append_nil] at ho1
      have HO1 := Aside0.mk ho1
      have HO2 := Aside0.mk (show L = (dueP now l).2 from ho2)
      clear hlen hN' e1 hl hst ho1 ho2
      go_wp2_with (first
        | (go_at_call 43; refine (hF1.out).mono ?_; rintro e w9 ⟨rfl, kk, hw9⟩; rw [hw9]; clear hw9)
        | fail)
      go_ret
      exact ⟨_, rfl, F', N', hNN, by rw [← HO2.out]; exact hH.drewN kk, hFr.trans (G := fun _ => False) ⟨rfl, rfl, rfl, Nat.le_refl _, fun _ _ _ => rfl⟩ (fun _ _ q => q.elim), hFt, by rw [← HO1.out]; exact Kd.R_drewN hR kk⟩
    · have hl0 : 0 < L.length := Nat.pos_of_ne_zero hl
      have hF1 := Aside0.mk (first_any hH)
      have e1 : firstV L = .tuple #[.int .i64 (gd L 0).f0, .int .i64 (gd L 0).f2, .bool true] := by unfold firstV; rw [if_neg hl]
      rw [e1] at hF1
      by_cases hw : (gd L 0).f0 > now
      · have hst := dueP_stop (now := now) (l := L) (.inr hw)
        have hd : decide (now < (gd L 0).f0) = true := decide_eq_true hw
        have hNN : N' ≤ N + l.length * c := Nat.le_trans (Nat.le_add_right _ _) hN'
        rw [hst] at ho1 ho2
        rw [List.append_nil] at ho1
        have HO1 := Aside0.mk ho1
        have HO2 := Aside0.mk (show L = (dueP now l).2 from ho2)
        obtain ⟨z, hz⟩ : ∃ z, gd L 0 = z := ⟨_, rfl⟩
        rw [hz] at hF1 hd
        clear hlen hN' e1 hl hl0 hst ho1 ho2 hz hw
        go_wp2_with (first
          | (go_at_call 43; refine (hF1.out).mono ?_; rintro e w9 ⟨rfl, kk, hw9⟩; rw [hw9]; clear hw9)
          | fail)
        go_ret
        exact ⟨_, rfl, F', N', hNN, by rw [← HO2.out]; exact hH.drewN kk, hFr.trans (G := fun _ => False) ⟨rfl, rfl, rfl, Nat.le_refl _, fun _ _ _ => rfl⟩ (fun _ _ q => q.elim), hFt, by rw [← HO1.out]; exact Kd.R_drewN hR kk⟩
      · have hgo := dueP_go (now := now) hH.2.2.1 hl0 hw
        have hd : decide (now < (gd L 0).f0) = false := decide_eq_false hw
        obtain ⟨m, hm⟩ : ∃ m, L.length = m + 1 := ⟨L.length - 1, by omega⟩
        have hrl := removeP_len hH.2.2.1 hl0
        have hrl2 : (removeP L 0).length = m := by rw [hrl, hm]; rfl
        have hN2 := due_c HC.out (hm ▸ hN')
        have hpp : popP L = removeP L 0 := by unfold popP; rw [if_neg hl]
        have hol : out.length ≤ M := by have := HLM.out; omega
        have hlen2 : (out ++ [(gd L 0).f2]).length + (removeP L 0).length = l.length := by rw [List.length_append, List.length_singleton, hrl2]; omega
        have hmea : l.length - (out ++ [(gd L 0).f2]).length < l.length - out.length := by rw [List.length_append, List.length_singleton]; omega
        have hPop := fun kk => Aside0.mk (pop_any (hH.drewN kk) (due_b HC.out HN.out hN'))
        have e2 : ∀ kk : Nat, Aside0 (Calls Try.prog 37 #[.pointer (some ⟨h, 0, none⟩)] (wr.drewN kk) fun e w' => e = .returned (.tuple #[.int .i64 (gd L 0).f0, .int .i64 (gd L 0).f2, .bool true]) ∧ ∃ F2, HpAt w' h F2 (N' + 2 * M + 3) M (removeP L 0) seq ∧ Fr F' (wr.drewN kk) w' ∧ ∀ k, F2 k → F' k ∨ (wr.drewN kk).heap.size ≤ k) := fun kk => by
          have := hPop kk
          rw [e1, hpp] at this
          exact this
        have hroom := Aside0.mk (due_room hol HM.out)
        have hroom8 := Aside0.mk (due_room8 hol HM.out)
        obtain ⟨z, hz⟩ : ∃ z, gd L 0 = z := ⟨_, rfl⟩
        rw [hz] at hF1 e2 hlen2 hmea hgo hd
        have hmea2 := Aside0.mk hmea
        have hlen3 := Aside0.mk hlen2
        have hH2 := Aside0.mk hH
        rw [hgo] at ho1 ho2
        have HO1 := Aside0.mk ho1
        have HO2 := Aside0.mk (show (dueP now (removeP L 0)).2 = (dueP now l).2 from ho2)
        have HR := Aside0.mk hR
        clear hN' hlen e1 hl hl0 hw hm hrl hPop hol hlen2 hmea hpp hz hH ho1 ho2 hgo hR
        go_wp2_with (first
          | (go_at_call 43; refine (hF1.out).mono ?_; rintro e w9 ⟨rfl, kk, hw9⟩; rw [hw9]; clear hw9)
          | (go_at_call 37; refine ((e2 kk).out).mono ?_; rintro e w1 ⟨rfl, F2, H2, G2, K2⟩)
          | ((with_reducible refine gate_builtin (b := .append) (xs := #[.tmp 31, .tmp 33]) rfl ?_); at_builtin; refine Kd.R_append (Kd.int .i64) (w0 := w1) (W := w1) w.heap.size rfl (.tmp 31) (.tmp 33) 30 3 (.int .i64 0) 8 rfl Try.underlying30 infoT rfl (by decide) (by decide) (.slice Ao out.length co) out z.f2 [.int .i64 z.f2] (fun k => ¬ F2 k) (fun _ => False) rfl rfl ?aP (fun _ hk => hk.elim) ?aF ?aO ?aB ?aS ?aL ?_; (case aP => exact rfl); (case aF => exact fun k hk hf => absurd (H2.lt k hf) (Nat.not_lt.2 hk)); (case aO => exact due_keep HR.out hH2.out K2 G2); (case aB => exact Below.refl _ _); (case aS => exact Nat.le_trans hFr.size (show wr.heap.size ≤ w1.heap.size from G2.size)); (case aL => exact hroom8.out); intro v7 w7 ho7 hb7 hg7 hat7)
          | fail)
        go_roundw
        case rel =>
          have Fz : Fr (fun k => some k = (Value.slice Ao out.length co).ownBlock) w1 w7 := Fr.of_grown (w := w1) ⟨hg7.os, hg7.tape, hg7.output, hg7.size, hg7.block⟩ (fun k hk => hk.symm)
          have hnot : ∀ k, F2 k → ¬ some k = (Value.slice Ao out.length co).ownBlock := fun k hk e_ => (due_keep HR.out hH2.out K2 G2).1 k e_.symm hk
          have GG : Fr F w w1 := (hFr.trans (G := fun _ => False) (w2 := wr.drewN kk) ⟨rfl, rfl, rfl, Nat.le_refl _, fun _ _ _ => rfl⟩ (fun _ _ q => q.elim)).trans G2 (fun k hk hf => (hFt k hf).resolve_right (Nat.not_le.2 hk))
          have hown : ∀ k, k < w.heap.size → some k = (Value.slice Ao out.length co).ownBlock → F k := fun k hk e_ => absurd (own_base HR.out.2.choose_spec.1 k e_.symm) (Nat.not_le.2 hk)
          refine ⟨removeP L 0, out ++ [z.f2], F2, N' + 2 * M + 3, H2.kept Fz hnot, by rw [hrl2]; exact hN2, GG.trans Fz hown, fun k hk => ?_, ho7, by rw [List.append_assoc]; exact HO1.out, HO2.out, hlen3.out⟩
          rcases K2 k hk with q_ | q_
          · exact hFt k q_
          · exact .inr (Nat.le_trans hFr.size q_)
        case measure =>
          obtain ⟨A7, c7, rfl⟩ := Kd.R_slice ho7
          exact hmea2.out
end Go.Proofs.Ytkegdcnnankokaa.Hpi
