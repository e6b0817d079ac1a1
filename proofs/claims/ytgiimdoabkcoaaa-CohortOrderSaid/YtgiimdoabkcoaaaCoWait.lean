/-
The locks' Waiting, walked; one lock beside other things of the caller's.
-/
import Derived.Test.YtgiimdoabkcoaaaCoLives
import Derived.Test.YtgiimdoabkcoaaaCoInv
namespace Go.Proofs.Ytgiimdoabkcoaaa.Co
set_option linter.unusedVariables false
set_option linter.unusedSimpArgs false
open Go.RowKit Go.Proofs.YtgiimdoabkcoaaaW.PrintWords Go.Proofs.YtgiimdoabkcoaaaW.PrintLast Go.Proofs.YtgiimdoabkcoaaaW.PrintMore
theorem flat_len {r : List Rw} {k : Nat} (h : k < r.length) : ((r.take k).flatMap (·.2)).length + (rg r k).2.length ≤ (r.flatMap (·.2)).length ∧ (r.take (k + 1)).flatMap (·.2) = (r.take k).flatMap (·.2) ++ (rg r k).2 := by
  have e : (r.take (k + 1)).flatMap (·.2) = (r.take k).flatMap (·.2) ++ (rg r k).2 := by
    rw [List.take_succ_eq_append_getElem h, List.flatMap_append, rg_at h]
    simp
  refine ⟨?_, e⟩
  have h2 : r.flatMap (·.2) = (r.take (k + 1)).flatMap (·.2) ++ (r.drop (k + 1)).flatMap (·.2) := by rw [← List.flatMap_append, List.take_append_drop]
  rw [h2, e, List.length_append, List.length_append]
  omega
section
variable {w : World} {F : Nat → Prop} {h lb : Nat} {xs : List LS}
set_option maxRecDepth 100000 in
set_option maxHeartbeats 4000000 in
theorem waiting_any (L : LocksAt w F h lb xs) {i : Nat} (hi : i < xs.length) (hl : (xs.getD i ls0).round.length ≤ 1000000) (hw : (waitingP (xs.getD i ls0)).length ≤ 1000000) :
    Calls Try.prog 53 #[.pointer (some ⟨h, 0, none⟩), .int .i64 (i : Int)] w fun e w' => ∃ v, e = .returned v ∧ Kd.R (Kd.int .i64) 3 w' w.heap.size (fun _ => True) v (waitingP (xs.getD i ls0)) ∧ Below w.heap.size w w' := by
  have hAt := at_any L (i : Int)
  unfold atV at hAt
  rw [if_pos ⟨by omega, by omega⟩, Int.toNat_natCast] at hAt
  obtain ⟨oki, v, _, _, _, _, c4, hv, _, z0⟩ := L.c i hi
  have hlt := L.lt
  unfold waitingP at hw ⊢
  obtain ⟨r, hr⟩ : ∃ r, (xs.getD i ls0).round = r := ⟨_, rfl⟩
  rw [hr] at hv hl hw ⊢
  have hR := Kd.S_R hv
  obtain ⟨A, c, rfl⟩ := Kd.R_slice hR
  obtain ⟨n, hn⟩ : ∃ n, r.length = n := ⟨_, rfl⟩
  rw [hn] at c4 hR hl
  have hq : 0 < n → ∃ q, A = some ⟨q, 0, none⟩ ∧ q < w.heap.size := fun hp => by
    obtain ⟨q, cap, he, _, hql, _⟩ := Kd.R_form hR (by omega)
    injection he with he
    exact ⟨q, he, hql⟩
  have HAt := Lib.hid hAt
  have HR := Lib.hid hR
  have HN := Lib.hid hn
  have HW := Lib.hid hw
  have HQ := Lib.hid hq
  clear hAt L hv hR hn hr hw hq hi
  unfold lkp at HAt
  go_enter Try.func53, Try.ntmps53
  go_wp2_with (first | (go_at_call 98; refine (HAt.out).mono ?_; rintro e w1 ⟨rfl, hw9⟩; rw [hw9]; clear hw9) | fail)
  go_loopg [4, 18] n (fun gg v4 v18 wr => ∃ (kk : Nat) (A4 : Option Addr) (m4 c4 : Nat), kk ≤ n ∧ n - kk ≤ gg ∧ v18 = .int .i64 kk ∧ v4 = .slice A4 m4 c4 ∧ Aside0 (Below w.heap.size w wr) ∧ Aside0 (Kd.R (Kd.int .i64) 3 wr w.heap.size (fun _ => True) (.slice A4 m4 c4) ((r.take kk).flatMap (·.2))))
  case atStart => exact ⟨0, none, 0, 0, Nat.zero_le _, by omega, rfl, rfl, ⟨Below.refl _ w⟩, ⟨by simpa using Kd.R_nil _ _ _ _ _⟩⟩
  case round =>
    obtain ⟨kk, A4, m4, e4, hkk, hg, rfl, rfl, BW, HO⟩ := hrel
    by_cases hlt2 : kk < n
    · have hltz : (kk : Int) < (n : Int) := by omega
      obtain ⟨q, rfl, hql⟩ := HQ.out (by omega)
      obtain ⟨cc, hcl, hM, hcc, _⟩ := Kd.R_elem HR.out (0, []) (kk : Int) (by omega) (by omega)
      obtain ⟨vv, rfl, hv⟩ := kRow_open hM
      have hgd : r.getD (kk : Int).toNat (0, []) = rg r kk := rfl
      rw [hgd] at hcc hv
      have l0 := (BW.out.cell (p := ⟨q, kk * 2, none⟩) hql).trans (hcc 0 _ rfl)
      have l1 := (BW.out.cell (p := ⟨q, kk * 2 + 1, none⟩) hql).trans (hcc 1 _ rfl)
      have hv2 := Kd.R_below hv BW.out
      obtain ⟨TA, tc, rfl, htc, hC⟩ := Kd.R_reads hv2
      have hlen := flat_len (show kk < r.length by rw [HN.out]; exact hlt2)
      obtain ⟨ts, hts⟩ : ∃ ts, (rg r kk).2 = ts := ⟨_, rfl⟩
      rw [hts] at hC l1 hlen
      obtain ⟨tl, htl⟩ : ∃ tl, ts.length = tl := ⟨_, rfl⟩
      rw [htl] at hC l1 hlen
      obtain ⟨s1, hs1⟩ : ∃ s1, (rg r kk).1 = s1 := ⟨_, rfl⟩
      rw [hs1] at l0
      have HC := Lib.hid hC
      have HLen := Lib.hid hlen.2
      have HB9 : Hid ((((r.take kk).flatMap (·.2)).length + tl) * 8 ≤ 140737488355328) := Lib.hid (by have := HW.out; have := hlen.1; omega)
      have hcb := BW.out.size
      clear hcc hM hv hcl hv2 htc hC hlen hts htl hs1 hgd
      obtain ⟨O, hO⟩ : ∃ O, wr.alloc (.cells #[.int .i64 s1, .slice TA tl tc] 154) = O := ⟨_, rfl⟩
      have hbO : Below wr.heap.size wr O := hO ▸ (Below.refl wr.heap.size wr).alloc (Nat.le_refl _) _
      have HBO := Lib.hid hbO
      have b0 : O.cell? ⟨wr.heap.size, 0, none⟩ = some (.int .i64 s1) := by rw [← hO]; simp [go_sem]
      have b1 : O.cell? ⟨wr.heap.size, 1, none⟩ = some (.slice TA tl tc) := by rw [← hO]; simp [go_sem]
      clear hbO
      go_wp2_with (first
        | (at_builtin; refine Kd.R_append_rows (Kd.int .i64) (w0 := w) (W := O) w.heap.size rfl (.tmp 22) (.tmp 24) 27 3 (.int .i64 0) 8 rfl Try.underlying27 infoInt rfl (by decide) (by decide) (.slice A4 m4 e4) ((r.take kk).flatMap (·.2)) ts TA tl tc (fun _ => True) (fun _ => False) rfl rfl (Kd.R_below HO.out HBO.out) (Rr := (Kd.int .i64).K O) (Kd.C_below HC.out HBO.out) (fun _ _ hh => hh) (fun _ q => q.elim) (fun _ _ => trivial) (Below_trans BW.out HBO.out) (Nat.le_trans hcb HBO.out.size) HB9.out ?_; intro v1 w3 hR3 hB3 hg3 hat3; obtain ⟨A1, c1, e1_⟩ := Kd.R_slice hR3; subst e1_; obtain ⟨m1, hm1⟩ : ∃ m1, ((r.take kk).flatMap (·.2) ++ ts).length = m1 := ⟨_, rfl⟩; rw [hm1] at hR3 ⊢; clear hm1; rw [← HLen.out] at hR3; have HR3 := Lib.hid hR3; have HB3 := Lib.hid hB3; clear hR3 hB3 hg3 hat3)
        | fail)
      go_roundg (n - (kk + 1))
      case measure => omega
      case rel => exact ⟨kk + 1, A1, _, c1, by omega, by omega, by go_num, rfl, ⟨HB3.out⟩, ⟨HR3.out⟩⟩
    · have hltz : ¬ (kk : Int) < (n : Int) := by omega
      have : kk = n := by omega
      subst this
      go_wp2
      go_ret
      refine ⟨_, rfl, ?_, BW.out⟩
      have := HO.out
      rw [← HN.out, List.take_length] at this
      exact this
end
end Go.Proofs.Ytgiimdoabkcoaaa.Co
