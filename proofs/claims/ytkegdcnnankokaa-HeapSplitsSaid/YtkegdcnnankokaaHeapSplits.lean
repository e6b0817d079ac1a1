/-
HeapSplits walked: what is due at one time, and then at a later one, is what is due at that.
-/
import Derived.Test.YtkegdcnnankokaaHeapSorts
namespace Go.Proofs.Ytkegdcnnankokaa.Hpi
set_option linter.unusedVariables false
set_option linter.unusedSimpArgs false
open Go.Maps Go.RowKit Go.Proofs.YtkegdcnnankokaaW.PrintWords Go.Proofs.YtkegdcnnankokaaW.PrintLast Go.Proofs.YtkegdcnnankokaaW.PrintMore Hp
open Hps (low_step low_foot lives_any)
theorem foot_apart {w : World} {F F' G : Nat → Prop} (K : ∀ k, F' k → F k ∨ w.heap.size ≤ k) (hG : ∀ k, G k → k < w.heap.size) (D : ∀ k, F k → ¬ G k) : ∀ k, F' k → ¬ G k := fun k hk hg => (K k hk).elim (fun q => D k q hg) (fun q => absurd (hG k hg) (Nat.not_lt.2 q))
theorem due_rep {w : World} {b N seq : Nat} {F : Nat → Prop} {l s : List (It Int)} (H : HpAt w b F N 200 l seq) (R : Rep l s) (hs : s.length ≤ 100) (hN : N ≤ 500000) (now : Int) :
    Calls Try.prog 39 #[.pointer (some ⟨b, 0, none⟩), .int .i64 now] w fun e w' => ∃ v, e = .returned v ∧ ∃ F' l', HpAt w' b F' (N + 40300) 200 l' seq ∧ Rep l' (s.dropWhile (fun e => decide (e.f0 ≤ now))) ∧ Fr F w w' ∧ (∀ k, F' k → F k ∨ w.heap.size ≤ k) ∧
      Kd.R (Kd.int .i64) 3 w' w.heap.size (fun k => ¬ F' k) v ((s.takeWhile (fun e => decide (e.f0 ≤ now))).map (·.f2)) := by
  obtain ⟨i1, i2, i3⟩ := rep_due (now := now) R H.2.2.1
  have hl : l.length ≤ 100 := by rw [R.len]; exact hs
  refine (due_any H now (c := 403) rfl (by omega)).mono ?_
  rintro e w' ⟨v, rfl, F', N', hN', H', G, K, Q⟩
  rw [i1] at Q
  exact ⟨v, rfl, F', _, H'.more (by omega) (Nat.le_refl _), i2, G, K, Q⟩
theorem take_split {lo hi : Int} (h : lo ≤ hi) : ∀ s : List (It Int), s.takeWhile (fun e => decide (e.f0 ≤ lo)) ++ (s.dropWhile (fun e => decide (e.f0 ≤ lo))).takeWhile (fun e => decide (e.f0 ≤ hi)) = s.takeWhile (fun e => decide (e.f0 ≤ hi)) ∧ (s.dropWhile (fun e => decide (e.f0 ≤ lo))).dropWhile (fun e => decide (e.f0 ≤ hi)) = s.dropWhile (fun e => decide (e.f0 ≤ hi))
  | [] => ⟨rfl, rfl⟩
  | a :: s => by
    obtain ⟨h1, h2⟩ := take_split h s
    by_cases hl : a.f0 ≤ lo
    · rw [List.takeWhile_cons_of_pos (p := fun e : It Int => decide (e.f0 ≤ lo)) (by simpa using hl), List.dropWhile_cons_of_pos (p := fun e : It Int => decide (e.f0 ≤ lo)) (by simpa using hl), List.takeWhile_cons_of_pos (p := fun e : It Int => decide (e.f0 ≤ hi)) (by simp; omega), List.dropWhile_cons_of_pos (p := fun e : It Int => decide (e.f0 ≤ hi)) (by simp; omega)]
      exact ⟨by rw [List.cons_append, h1], h2⟩
    · rw [List.takeWhile_cons_of_neg (p := fun e : It Int => decide (e.f0 ≤ lo)) (by simpa using hl), List.dropWhile_cons_of_neg (p := fun e : It Int => decide (e.f0 ≤ lo)) (by simpa using hl)]
      exact ⟨rfl, rfl⟩
theorem split_sum (hi : Int) (s : List (It Int)) : ((s.takeWhile (fun e => decide (e.f0 ≤ hi))).map (·.f2)).length + (s.dropWhile (fun e => decide (e.f0 ≤ hi))).length = s.length := by
  rw [List.length_map, ← List.length_append, List.takeWhile_append_dropWhile]
theorem num_s {n : Nat} (hn : n ≤ 100) : 805 * n ≤ 80500 ∧ 2 * n ≤ 200 := by omega
theorem num_p {i n : Nat} (h : i < n) (hn : n ≤ 100) : n ≤ 200 ∧ 805 * i + 2 * i + 2 ≤ 805 * (i + 1) ∧ 2 * i + 1 ≤ 2 * (i + 1) := by omega
theorem num_x {a b x d s i : Nat} (h1 : a + b = x) (h2 : x + d = s) (h3 : s = i) (h4 : i ≤ 100) : (a + b) * 8 ≤ 140737488355328 ∧ wrap64 ((x : Int) + (d : Int)) = (i : Int) ∧ x ≤ 100 := by
  refine ⟨by omega, ?_, by omega⟩
  rw [show (x : Int) + (d : Int) = ((x + d : Nat) : Int) by push_cast; rfl, show x + d = i by omega]
  exact wrap_nat (by omega) (by omega)
theorem drop_le (p : It Int → Bool) (s : List (It Int)) : (s.dropWhile p).length ≤ s.length := (List.dropWhile_suffix p).length_le
theorem len_eq {w : World} {h N M seq : Nat} {F : Nat → Prop} {l s : List (It Int)} (H : HpAt w h F N M l seq) (R : Rep l s) : Calls Try.prog 40 #[.pointer (some ⟨h, 0, none⟩)] w fun e w' => e = .returned (.int .i64 (s.length : Int)) ∧ w' = w := by
  rw [← R.len]; exact len_any H
/-- behind the appending: the other heap, this one, and all that is older. -/
theorem mid {b b1 N M N2 M2 s s2 q : Nat} {w wr w1 w2 w7 : World} {Fg Fh F1 F2 : Nat → Prop} {Lh L2 : List (It Int)} {v : Value} {xs : List Int} (hB : Below b w wr) (hFg : ∀ k, Fg k → b ≤ k) (hq : wr.heap.size = q) (hbq : b ≤ q) (HH : HpAt wr b1 Fh N M Lh s) (DD : ∀ k, Fg k → ¬ Fh k)
    (G1 : Fr Fg wr w1) (K1 : ∀ k, F1 k → Fg k ∨ wr.heap.size ≤ k) (G2 : Fr F1 w1 w2) (K2 : ∀ k, F2 k → F1 k ∨ w1.heap.size ≤ k) (H2 : HpAt w2 b F2 N2 M2 L2 s2)
    (Q : (Kd.int .i64).R 3 w2 q (fun k => ¬ F2 k) v xs) (g : w2.grownBy w7 v.ownBlock) :
    HpAt w7 b1 Fh N M Lh s ∧ HpAt w7 b F2 N2 M2 L2 s2 ∧ Below b w w7 ∧ (∀ k, F2 k → ¬ Fh k) ∧ wr.heap.size ≤ w7.heap.size := by
  subst hq
  have hb : b ≤ wr.heap.size := hbq
  have A1 : ∀ k, F1 k → ¬ Fh k := foot_apart K1 HH.lt DD
  have L1 : ∀ k, Fh k → k < w1.heap.size := fun k h => Nat.lt_of_lt_of_le (HH.lt k h) G1.size
  have A2 : ∀ k, F2 k → ¬ Fh k := foot_apart K2 L1 A1
  have own : ∀ k, v.ownBlock = some k → wr.heap.size ≤ k := Kd.R_base Q
  have Fz : Fr (fun k => v.ownBlock = some k) w2 w7 := Fr.of_grown g (fun k hk => hk)
  have C1 := low_foot hb hFg K1
  have B1 := low_step hB hFg G1 hb
  have hb1 := Nat.le_trans hb G1.size
  have B2 := low_step B1 C1 G2 hb1
  have hb2 := Nat.le_trans hb1 G2.size
  have B7 := low_step B2 (fun k hk => Nat.le_trans hb (own k hk)) Fz hb2
  exact ⟨((HH.kept G1 (fun k h1 h2 => DD k h2 h1)).kept G2 (fun k h1 h2 => A1 k h2 h1)).kept Fz (fun k hk e => Nat.lt_irrefl _ (Nat.lt_of_lt_of_le (HH.lt k hk) (own k e))), H2.kept Fz (fun k hk e => Q.1 k e hk), B7, A2, Nat.le_trans G1.size (Nat.le_trans G2.size Fz.size)⟩
/-- behind the other heap's due. -/
theorem last {b b1 N M N2 M2 s s2 q : Nat} {w wr w7 w8 : World} {Fh F2 ok : Nat → Prop} {Lh L2 : List (It Int)} {v : Value} {xs : List Int} (B7 : Below b w w7) (hFh : ∀ k, Fh k → b ≤ k) (hq : wr.heap.size = q) (hbq : b ≤ q) (HH : HpAt wr b1 Fh N M Lh s) (hs : wr.heap.size ≤ w7.heap.size)
    (H2 : HpAt w7 b F2 N2 M2 L2 s2) (A2 : ∀ k, F2 k → ¬ Fh k) (G8 : Fr Fh w7 w8) (Q : (Kd.int .i64).R 3 w7 q ok v xs) : HpAt w8 b F2 N2 M2 L2 s2 ∧ Below b w w8 ∧ (Kd.int .i64).R 3 w8 q ok v xs := by
  subst hq
  exact ⟨H2.kept G8 A2, low_step B7 hFh G8 (Nat.le_trans hbq hs), Kd.R_mono (Kd.R_step (Kd.R_bound Q) (fun k hk hlt => G8.block k hlt (fun hf => Nat.lt_irrefl _ (Nat.lt_of_lt_of_le (HH.lt k hf) hk.2.1)))) (fun k hk => hk.1)⟩
set_option maxRecDepth 100000 in
set_option maxHeartbeats 8000000 in
theorem heapSplits_any (A : Option Addr) (c : Nat) (l : List Int) (a0 a1 : Int) (w : World) (hr : Kd.C (Kd.int .i64) w A l.length l) (hc : l.length ≤ c) :
    Calls Try.prog 11 #[.slice A l.length c, .int .i64 a0, .int .i64 a1] w fun e w' => e = .returned (.bool true) ∧ Below w.heap.size w w' := by
  obtain ⟨j0, hj0⟩ : ∃ j : Int, min (l.length : Int) 100 = j := ⟨_, rfl⟩
  obtain ⟨n, hn⟩ : ∃ n, (l.take j0.toNat).length = n := ⟨_, rfl⟩
  have hn200 : n ≤ 100 := by rw [← hn, List.length_take]; omega
  have hjn : j0.toNat = n := by rw [← hn, List.length_take]; omega
  have hcut := cut_to (P := Try.prog) 30 3 .i64 Try.underlying30 (info_parts infoT).choose_spec.1 A l.length c j0 (by omega) (by omega) hc
  have hrT := Kd.C_take (m := j0.toNat) hr (by omega)
  rw [hjn] at hcut hrT
  obtain ⟨T, hT⟩ : ∃ T, l.take n = T := ⟨_, rfl⟩
  have hTn : T.length = n := by rw [← hT]; rw [hjn] at hn; exact hn
  have hj2 : (if 100 < (l.length : Int) then 100 else (l.length : Int)) = j0 := by split <;> omega
  rw [hT] at hrT
  obtain ⟨lo, hlo⟩ : ∃ lo, (if a1 < a0 then a1 else a0) = lo := ⟨_, rfl⟩
  obtain ⟨up, hup⟩ : ∃ up, (if a0 < a1 then a1 else a0) = up := ⟨_, rfl⟩
  have hlh : lo ≤ up := by rw [← hlo, ← hup]; split <;> split <;> omega
  have HN := Aside0.mk hn200
  have HLH := Aside0.mk hlh
  clear hj0 hn hjn hT hn200 hlh
  go_enter Try.func11, Try.ntmps11
  go_upto_region 3 with (fail)
  obtain ⟨W0, hW0⟩ : ∃ W0, w.alloc (.cells #[.slice none 0 0, .map none, .int .i64 0] 67) = W0 := ⟨_, rfl⟩
  obtain ⟨b, hb⟩ : ∃ b, w.heap.size = b := ⟨_, rfl⟩
  have Hg0 := made w
  have G0 : Fr (fun _ => False) w W0 := hW0 ▸ Fr.of_below _ ((Below.refl w.heap.size w).alloc (Nat.le_refl _) _)
  have B0 : Below b w W0 := G0.to_below (by rw [hb]; exact Nat.le_refl _) (fun _ q => q.elim)
  have hs1 : w.heap.size + 1 = W0.heap.size := by rw [← hW0]; simp
  rw [hs1, hW0, hb]
  rw [hW0, hb] at Hg0
  clear hW0
  obtain ⟨W1, hW1⟩ : ∃ W1, W0.alloc (.cells #[.slice none 0 0, .map none, .int .i64 0] 67) = W1 := ⟨_, rfl⟩
  obtain ⟨b1, hb1⟩ : ∃ b1, W0.heap.size = b1 := ⟨_, rfl⟩
  have Hh0 := made W0
  have G1 : Fr (fun _ => False) W0 W1 := hW1 ▸ Fr.of_below _ ((Below.refl W0.heap.size W0).alloc (Nat.le_refl _) _)
  have B1 : Below b w W1 := B0.trans (G1.to_below (hb ▸ B0.size) (fun _ q => q.elim))
  have hbb : b < b1 := by omega
  rw [hW1, hb1] at Hh0 ⊢
  have Hg1 := Hg0.kept G1 (fun _ _ q => q)
  clear hW1
  have hlv := fun (V : World) => Aside0.mk (lives_any V)
  go_wp2
  go_loopw [25] (fun v25 wr => ∃ (i : Nat) (Fg Fh : Nat → Prop) (Lg Lh : List (It Int)), v25 = .int .i64 (i : Int) ∧ i ≤ n ∧ HpAt wr b Fg (805 * i) (2 * i) Lg i ∧ HpAt wr b1 Fh (805 * i) (2 * i) Lh i ∧ Rep Lg (sTo T i) ∧ Rep Lh (sTo T i) ∧ Below b w wr ∧ (∀ k, Fg k → b ≤ k) ∧ (∀ k, Fh k → b ≤ k) ∧ ∀ k, Fg k → ¬ Fh k) (fun v25 _ => match v25 with | .int _ z => n - z.toNat | _ => 0)
  case atStart => exact ⟨0, _, _, [], [], rfl, Nat.zero_le _, Hg1, Hh0, rep_nil, rep_nil, B1, fun k hk => by rw [hk]; exact Nat.le_refl _, fun k hk => by rw [hk]; exact Nat.le_of_lt hbb, fun k hk hk2 => absurd (hk.symm.trans hk2) (Nat.ne_of_lt hbb)⟩
  case round =>
    obtain ⟨i, Fg, Fh, Lg, Lh, rfl, hle, hHg, hHh, hRg, hRh, hB, hFg, hFh, hD⟩ := hrel
    by_cases hin : i < n
    · have hd : decide ((i : Int) < (n : Int)) = true := by simpa using hin
      have hz : (0 : Int) ≤ (i : Int) := by omega
      have hiT : i < T.length := by rw [hTn]; exact hin
      obtain ⟨ad, e, hx⟩ := Kd.at_int (Kd.C_below hrT (hb ▸ hB)) (i : Int) (by omega) (by omega)
      subst e
      rw [rd_at hiT, Int.toNat_natCast] at hx
      have hTi : T[i] = T.getD i 0 := by simp [hiT]
      rw [hTi] at hx
      obtain ⟨x, hxx⟩ : ∃ x, T.getD i 0 = x := ⟨_, rfl⟩
      obtain ⟨n1, n2, n3⟩ := num_p hin HN.out
      have P1 := Aside0.mk (put_one hHg hRg hin n1)
      have P2 := fun (V : World) (H' : HpAt V b1 Fh (805 * i) (2 * i) Lh i) => Aside0.mk (put_one H' hRh hin n1)
      rw [hxx] at hx P1 P2
      have hi1 : wrap64 ((i : Int) + 1) = ((i + 1 : Nat) : Int) := wrap_up (by have := HN.out; omega)
      have HI1 := Aside0.mk hi1
      have N2 := Aside0.mk n2
      have N3 := Aside0.mk n3
      have DD := Aside0.mk hD
      have HB := Aside0.mk hB
      have HX0 := Aside0.mk hHh
      have AP := fun (V : World) (G1 : Fr Fg wr V) => hHh.kept G1 (fun k h1 h2 => DD.out k h2 h1)
      clear hxx hTi hi1 n1 n2 n3 hD hHg hHh hRg hRh hB
      go_wp2_with (first
        | (go_at_call 36; first | (refine ((P2 w1 (AP w1 G1)).out).mono ?_; rintro e w2 ⟨rfl, F2, L2, H2, R2, G2, K2⟩) | (refine (P1.out).mono ?_; rintro e w1 ⟨rfl, F1, L1, H1, R1, G1, K1⟩))
        | fail)
      go_roundw
      case rel =>
        have hsz := hb ▸ HB.out.size
        have B1 := low_step HB.out hFg G1 hsz
        have C1 := low_foot hsz hFg K1
        have A1 := foot_apart K1 HX0.out.lt DD.out
        have A2 := foot_apart K2 H1.lt (fun k h1 h2 => A1 k h2 h1)
        exact ⟨i + 1, F1, F2, L1, L2, by rw [HI1.out], hin, (H1.kept G2 A1).more N2.out N3.out, H2.more N2.out N3.out, R1, R2, low_step B1 hFh G2 (hb ▸ B1.size), C1, low_foot (hb ▸ B1.size) hFh K2, fun k h1 h2 => A2 k h2 h1⟩
      case measure => rw [HI1.out]; exact (show n - (i + 1) < n - i from Nat.sub_lt_sub_left hin (Nat.lt_succ_self i))
    · have hd : decide ((i : Int) < (n : Int)) = false := by simpa using hin
      obtain rfl : i = n := by omega
      obtain ⟨c1, c2⟩ := num_s HN.out
      obtain ⟨S, hS⟩ : ∃ S, sTo T i = S := ⟨_, rfl⟩
      have hSl : S.length = i := by rw [← hS]; exact sTo_len T i
      rw [hS] at hRg hRh
      obtain ⟨s1, s2⟩ := take_split HLH.out S
      have s3 := split_sum up S
      have s4 : S.length ≤ 100 := hSl ▸ HN.out
      have s5 := drop_le (fun e => decide (e.f0 ≤ lo)) S
      have D1 := due_rep (hHg.more c1 c2) hRg s4 (by decide) lo
      have D3 := fun (V : World) (H' : HpAt V b1 Fh 80500 200 Lh i) => due_rep H' hRh s4 (by decide) up
      obtain ⟨S1, hS1⟩ : ∃ S1, S.dropWhile (fun e => decide (e.f0 ≤ lo)) = S1 := ⟨_, rfl⟩
      rw [hS1] at s1 s2 D1 s5
      have D2 := fun (V : World) (F : Nat → Prop) (l : List (It Int)) (H' : HpAt V b F (80500 + 40300) 200 l i) (R' : Rep l S1) => due_rep H' R' (Nat.le_trans s5 s4) (by decide) up
      rw [s2] at D2
      have s6 := congrArg (List.map (fun e : It Int => e.f2)) s1
      rw [List.map_append] at s6
      obtain ⟨X1, hX1⟩ : ∃ X1, (S.takeWhile (fun e => decide (e.f0 ≤ lo))).map (·.f2) = X1 := ⟨_, rfl⟩
      obtain ⟨X2, hX2⟩ : ∃ X2, (S1.takeWhile (fun e => decide (e.f0 ≤ up))).map (·.f2) = X2 := ⟨_, rfl⟩
      obtain ⟨X, hX⟩ : ∃ X, (S.takeWhile (fun e => decide (e.f0 ≤ up))).map (·.f2) = X := ⟨_, rfl⟩
      obtain ⟨D, hDD⟩ : ∃ D, S.dropWhile (fun e => decide (e.f0 ≤ up)) = D := ⟨_, rfl⟩
      rw [hX1, hX2, hX] at s6
      rw [hX1] at D1
      rw [hX2, hDD] at D2
      rw [hX, hDD] at D3 s3
      have hXl : X1.length + X2.length = X.length := by rw [← s6, List.length_append]
      obtain ⟨hroom, hsum, hXm⟩ := num_x hXl s3 hSl HN.out
      obtain ⟨q, hq⟩ : ∃ q, wr.heap.size = q := ⟨_, rfl⟩
      have hbq : b ≤ q := by rw [← hq]; exact hb ▸ hB.size
      rw [hq] at D1
      have E1 := Aside0.mk D1
      have E2 := fun (V : World) (F : Nat → Prop) (l : List (It Int)) (H' : HpAt V b F (80500 + 40300) 200 l i) (R' : Rep l S1) => Aside0.mk (D2 V F l H' R')
      have E3 := fun (V : World) (H' : HpAt V b1 Fh 80500 200 Lh i) => Aside0.mk (D3 V H')
      have HHM := Aside0.mk (hHh.more c1 c2)
      have MD := fun (w1 w2 w7 : World) (F1 F2 : Nat → Prop) (L2 : List (It Int)) (v : Value) (xs : List Int) (G1 : Fr Fg wr w1) (K1 : ∀ k, F1 k → Fg k ∨ q ≤ k) (G2 : Fr F1 w1 w2) (K2 : ∀ k, F2 k → F1 k ∨ w1.heap.size ≤ k) (H2 : HpAt w2 b F2 (80500 + 40300 + 40300) 200 L2 i) (Q : (Kd.int .i64).R 3 w2 q (fun k => ¬ F2 k) v xs) (g : w2.grownBy w7 v.ownBlock) =>
        mid hB hFg hq hbq HHM.out hD G1 (by rw [hq]; exact K1) G2 K2 H2 Q g
      have LS := fun (w7 w8 : World) (F2 ok : Nat → Prop) (L2 : List (It Int)) (v : Value) (xs : List Int) (B7 : Below b w w7) (hs : wr.heap.size ≤ w7.heap.size) (H2 : HpAt w7 b F2 (80500 + 40300 + 40300) 200 L2 i) (A2 : ∀ k, F2 k → ¬ Fh k) (G8 : Fr Fh w7 w8) (Q : (Kd.int .i64).R 3 w7 q ok v xs) =>
        last B7 hFh hq hbq HHM.out hs H2 A2 G8 Q
      have S6 := Aside0.mk s6
      have HRM := Aside0.mk hroom
      have HQ := Aside0.mk hq
      clear D1 D2 D3 hHg hHh hRg hRh hB hFg hFh hD hle hin s1 s2 s3 s4 s5 s6 hS hS1 hX1 hX2 hX hDD hroom hq hXl hSl c1 c2 hTn
      go_wp2_with (first
        | (go_at_call 39; first
            | (refine ((E3 w7 m1).out).mono ?_; rintro e w8 ⟨v12, rfl, F8, L8, H8, R8, G8, K8, Q8⟩; obtain ⟨A8, c8, rfl⟩ := Kd.R_slice Q8; obtain ⟨l1, l2, l3⟩ := LS w7 w8 F2 _ L2 _ X m3 m5 m2 m4 G8 ho7; have LG := Aside0.mk (len_eq l1 R2); have LH := Aside0.mk (len_eq H8 R8); clear E1 E2 E3 MD LS)
            | (refine ((E2 w1 F1 L1 H1 R1).out).mono ?_; rintro e w2 ⟨v48, rfl, F2, L2, H2, R2, G2, K2, Q2⟩; obtain ⟨A48, c48, rfl⟩ := Kd.R_slice Q2)
            | (refine (E1.out).mono ?_; rintro e w1 ⟨v43, rfl, F1, L1, H1, R1, G1, K1, Q1⟩; obtain ⟨A43, c43, rfl⟩ := Kd.R_slice Q1))
        | ((with_reducible refine gate_builtin (b := .append) (xs := #[.tmp 43, .tmp 48]) rfl ?_); at_builtin; refine Kd.R_append_row (Value.int .i64) (0 : Int) (h1 := fun _ => rfl) (w0 := w2) (W := w2) q rfl (.tmp 43) (.tmp 48) 30 3 (.int .i64 0) 8 rfl Try.underlying30 infoT rfl (by decide) (.slice A43 X1.length c43) X1 X2 A48 X2.length c48 (fun k => ¬ F2 k) rfl rfl ?aF ?aO ?aR ?aB ?aS ?aL ?_; (case aF => exact fun k hk hf => absurd (H2.lt k hf) (Nat.not_lt.2 hk)); (case aO => exact due_keep (kk := 0) Q1 H1 K2 G2); (case aR => exact (Kd.R_reads' Q2).2.2); (case aB => exact Below.refl _ _); (case aS => exact HQ.out ▸ Nat.le_trans G1.size G2.size); (case aL => exact HRM.out); intro v7 w7 ho7 hb7 hg7 hat7; rw [S6.out] at ho7; obtain ⟨m1, m2, m3, m4, m5⟩ := MD w1 w2 w7 F1 F2 L2 (.slice A43 X1.length c43) X1 G1 K1 G2 K2 H2 (due_keep (kk := 0) Q1 H1 K2 G2) hg7; obtain ⟨A7, c7, rfl⟩ := Kd.R_slice ho7; clear hb7 hat7)
        | (go_at_call 40; first
            | (have mk_ := mark1; refine (LH.out).mono ?_; rintro e w9 ⟨rfl, hw9⟩; rw [hw9]; clear hw9)
            | (have mark1 : True := trivial; refine (LG.out).mono ?_; rintro e w9 ⟨rfl, hw9⟩; rw [hw9]; clear hw9))
        | fail)
      have R7 := (Kd.R_reads' l3).2.2
      have R8c := (Kd.R_reads' Q8).2.2
      have B8 := Aside0.mk l2
      have XM := Aside0.mk hXm
      have B8s := Aside0.mk (show b ≤ w8.heap.size from hb ▸ l2.size)
      clear ho7 Q1 Q2 Q8 l1 l2 l3 LG LH H1 H2 H8 m1 m2 m3 m4 m5 hsum hg7 R1 R2 R8 G1 G2 G8 K1 K2 K8 HHM hXm
      go_loopw [79] (fun v79 wq => ∃ j : Nat, v79 = .int .i64 (j : Int) ∧ j ≤ X.length ∧ Fr (fun _ => False) w8 wq) (fun v79 _ => match v79 with | .int _ z => X.length - z.toNat | _ => 0)
      case atStart => exact ⟨0, rfl, Nat.zero_le _, Fr.refl _ _⟩
      case round =>
        obtain ⟨j, rfl, hj, hfr⟩ := hrel
        have bel := hfr.to_below (Nat.le_refl _) (fun _ q_ => q_.elim)
        by_cases hjx : j < X.length
        · have hd2 : decide ((j : Int) < (X.length : Int)) = true := by simpa using hjx
          have hz : (0 : Int) ≤ (j : Int) := by omega
          obtain ⟨ad7, e, hx7⟩ := Kd.at_int (Kd.C_below R7 bel) (j : Int) hz (by omega)
          subst e
          obtain ⟨ad8, e, hx8⟩ := Kd.at_int (Kd.C_below R8c bel) (j : Int) hz (by omega)
          subst e
          rw [rd_at hjx, Int.toNat_natCast] at hx7 hx8
          obtain ⟨x, hxx⟩ : ∃ x, X[j] = x := ⟨_, rfl⟩
          rw [hxx] at hx7 hx8
          have hi1 : wrap64 ((j : Int) + 1) = ((j + 1 : Nat) : Int) := wrap_up (Nat.le_trans (Nat.le_of_lt hjx) (Nat.le_trans XM.out (by decide)))
          have HI1 := Aside0.mk hi1
          have hk0 : decide ((j : Int) < 0) = false := decide_eq_false (Int.not_lt.2 hz)
          have hk1 : decide ((X.length : Int) ≤ (j : Int)) = false := decide_eq_false (Int.not_le.2 (Int.ofNat_lt.2 hjx))
          have hk2 : (X.length ≤ j) = False := eq_false (Nat.not_le.2 hjx)
          have FR := Aside0.mk hfr
          clear hxx hi1 hj hfr bel R7 R8c
          go_wp2
          go_quiet (fail)
          go_wp2
          go_roundw
          case rel => exact ⟨j + 1, by rw [HI1.out], hjx, FR.out.trans (G := fun _ => False) ⟨rfl, rfl, rfl, Nat.le_refl _, fun _ _ _ => rfl⟩ (fun _ _ q => q.elim)⟩
          case measure => rw [HI1.out]; exact (show X.length - (j + 1) < X.length - j from Nat.sub_lt_sub_left hjx (Nat.lt_succ_self j))
        · have hd2 : decide ((j : Int) < (X.length : Int)) = false := by simpa using hjx
          obtain rfl : j = X.length := Nat.le_antisymm hj (Nat.le_of_not_lt hjx)
          have FB := Aside0.mk bel
          clear hjx hj hfr bel R7 R8c
          go_wp2_with (first
            | (go_at_call 38; refine ((hlv _).out).mono ?_; rintro e w9 ⟨rfl, B9⟩)
            | fail)
          go_ret
          have BX := B8.out.trans (FB.out.mono B8s.out)
          exact ⟨rfl, hb.symm ▸ BX.trans (B9.mono (hb ▸ BX.size))⟩
end Go.Proofs.Ytkegdcnnankokaa.Hpi
