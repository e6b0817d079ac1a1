/-
HeapSorts walked: what is popped comes in the order of its times.
-/
import Derived.Test.YtkegdcnnankokaaHiDue
import Derived.Test.YtkegdcnnankokaaHeapLives
namespace Go.Proofs.Ytkegdcnnankokaa.Hpi
set_option linter.unusedVariables false
set_option linter.unusedSimpArgs false
open Go.Maps Go.RowKit Go.Proofs.YtkegdcnnankokaaW.PrintWords Go.Proofs.YtkegdcnnankokaaW.PrintLast Go.Proofs.YtkegdcnnankokaaW.PrintMore Hp
open Hps (low_step low_foot lives_any)
theorem made (w : World) : HpAt (w.alloc (.cells #[.slice none 0 0, .map none, .int .i64 0] 67)) w.heap.size (fun k => k = w.heap.size) 0 0 [] 0 :=
  ⟨Nat.le_refl _, Nat.le_refl _, fun i j hi => absurd hi (by simp), fun i hi => absurd hi (by simp), .inl ⟨rfl, Array.getElem?_push_size, rfl⟩⟩
/-- what is in the heap behind some puts, in its order: each thing is its own count. -/
def sTo (T : List Int) : Nat → List (It Int)
  | 0 => []
  | i + 1 => ins ⟨T.getD i 0, (i : Int), (i : Int)⟩ (sTo T i)
theorem sTo_mem {T : List Int} {e : It Int} : ∀ {i : Nat}, e ∈ sTo T i → ∃ k : Nat, k < i ∧ e = ⟨T.getD k 0, (k : Int), (k : Int)⟩
  | 0, h => absurd h (by simp [sTo])
  | i + 1, h => by
    rcases (mem_ins _ _ _).1 h with h | h
    · obtain ⟨k, hk, he⟩ := sTo_mem h
      exact ⟨k, by omega, he⟩
    · exact ⟨i, by omega, h⟩
theorem sTo_len (T : List Int) : ∀ i, (sTo T i).length = i
  | 0 => rfl
  | i + 1 => by show (ins _ (sTo T i)).length = _; rw [len_ins, sTo_len T i]
theorem has_new {T : List Int} {i : Nat} {l : List (It Int)} (R : Rep l (sTo T i)) : hasX l (i : Int) = false := by
  rw [rep_has R, List.any_eq_false]
  intro e he q
  obtain ⟨k, hk, rfl⟩ := sTo_mem he
  have : (k : Int) = (i : Int) := by simpa using q
  omega
theorem has_old {T : List Int} {i : Nat} {l : List (It Int)} (R : Rep l (sTo T (i + 1))) : hasX l (i : Int) = true := by
  rw [rep_has R, List.any_eq_true]
  exact ⟨_, (mem_ins _ _ _).2 (.inr rfl), by simp⟩
theorem rep_next {T : List Int} {i : Nat} {l : List (It Int)} (R : Rep l (sTo T i)) : Rep (upP (l ++ [⟨T.getD i 0, (i : Int), (i : Int)⟩]) l.length) (sTo T (i + 1)) := by
  refine rep_put R (fun a ha q => ?_)
  obtain ⟨k, hk, rfl⟩ := sTo_mem ha
  have : (k : Int) = (i : Int) := q
  omega
theorem wf_i {i : Nat} (h : i ≤ 1000000) : wfk (i : Int) := wf_small h
theorem num_a {i n : Nat} (h : i < n) (hn : n ≤ 200) : 805 * i + 2 * i + 3 ≤ 1000000 ∧ (805 * i + 2 * i + 2) + (2 * i + 1) + 3 ≤ 1000000 ∧ i ≤ 1000000 ∧ (805 * i + 2 * i + 2) + (2 * i + 1) + 2 ≤ 805 * (i + 1) ∧ 2 * i + 1 + 1 ≤ 2 * (i + 1) := by omega
theorem num_b {j n : Nat} (h : j ≤ n) (hn : n ≤ 200) : (161000 + 803 * j) + 2 * 400 + 4 ≤ 1000000 ∧ (161000 + 803 * j) + 2 * 400 + 3 ≤ 161000 + 803 * (j + 1) := by omega
theorem num_c {n : Nat} (hn : n ≤ 200) : 805 * n ≤ 161000 + 803 * 0 ∧ 2 * n ≤ 400 := by omega
/-- the first loop's two calls. -/
theorem put_one {w : World} {b : Nat} {F : Nat → Prop} {T : List Int} {i n : Nat} {l : List (It Int)} (H : HpAt w b F (805 * i) (2 * i) l i) (R : Rep l (sTo T i)) (h : i < n) (hn : n ≤ 200) :
    Calls Try.prog 36 #[.pointer (some ⟨b, 0, none⟩), .int .i64 (T.getD i 0), .int .i64 (i : Int)] w fun e w' => e = .returned (.bool true) ∧ ∃ F' l', HpAt w' b F' (805 * i + 2 * i + 2) (2 * i + 1) l' (i + 1) ∧ Rep l' (sTo T (i + 1)) ∧ Fr F w w' ∧ ∀ k, F' k → F k ∨ w.heap.size ≤ k := by
  obtain ⟨n1, n2, n3, n4, n5⟩ := num_a h hn
  refine (put_any H (T.getD i 0) (i : Int) (wf_i n3) n1).mono ?_
  rintro e w' ⟨rfl, F', H', G, K⟩
  rw [has_new R] at H' ⊢
  exact ⟨rfl, F', _, H', rep_next R, G, K⟩
theorem put_two {w : World} {b : Nat} {F : Nat → Prop} {T : List Int} {i n : Nat} {l : List (It Int)} (H : HpAt w b F (805 * i + 2 * i + 2) (2 * i + 1) l (i + 1)) (R : Rep l (sTo T (i + 1))) (h : i < n) (hn : n ≤ 200) :
    Calls Try.prog 36 #[.pointer (some ⟨b, 0, none⟩), .int .i64 (T.getD i 0), .int .i64 (i : Int)] w fun e w' => e = .returned (.bool false) ∧ ∃ F', HpAt w' b F' (805 * (i + 1)) (2 * (i + 1)) l (i + 1) ∧ Fr F w w' ∧ ∀ k, F' k → F k ∨ w.heap.size ≤ k := by
  obtain ⟨n1, n2, n3, n4, n5⟩ := num_a h hn
  refine (put_any H (T.getD i 0) (i : Int) (wf_i n3) n2).mono ?_
  rintro e w' ⟨rfl, F', H', G, K⟩
  rw [has_old R] at H' ⊢
  exact ⟨rfl, F', H'.more n4 n5, G, K⟩
theorem pop_one {w : World} {b j n seq : Nat} {F : Nat → Prop} {l t : List (It Int)} {a : It Int} (H : HpAt w b F (161000 + 803 * j) 400 l seq) (R : Rep l (a :: t)) (h : j ≤ n) (hn : n ≤ 200) :
    Calls Try.prog 37 #[.pointer (some ⟨b, 0, none⟩)] w fun e w' => e = .returned (.tuple #[.int .i64 a.f0, .int .i64 a.f2, .bool true]) ∧ ∃ F' l', HpAt w' b F' (161000 + 803 * (j + 1)) 400 l' seq ∧ Rep l' t ∧ Fr F w w' ∧ ∀ k, F' k → F k ∨ w.heap.size ≤ k := by
  obtain ⟨n1, n2⟩ := num_b h hn
  obtain ⟨p1, p2⟩ := rep_first R
  refine (pop_any H n1).mono ?_
  rintro e w' ⟨rfl, F', H', G, K⟩
  have e7 : popP l = removeP l 0 := by unfold popP; rw [if_neg (by omega)]
  rw [e7] at H'
  refine ⟨?_, F', _, H'.more n2 (Nat.le_refl _), rep_pop R H.2.2.1, G, K⟩
  unfold firstV
  rw [if_neg (by omega), p2]
theorem pop_none {w : World} {b j n seq : Nat} {F : Nat → Prop} {l : List (It Int)} (H : HpAt w b F (161000 + 803 * j) 400 l seq) (R : Rep l []) (h : j ≤ n) (hn : n ≤ 200) :
    Calls Try.prog 37 #[.pointer (some ⟨b, 0, none⟩)] w fun e w' => e = .returned (.tuple #[.int .i64 0, .int .i64 0, .bool false]) ∧ Fr F w w' := by
  obtain ⟨n1, n2⟩ := num_b h hn
  refine (pop_any H n1).mono ?_
  rintro e w' ⟨rfl, F', H', G, K⟩
  refine ⟨?_, G⟩
  unfold firstV
  rw [if_pos (rep_pop_nil R).2]
/-- what is popped at a place, and what was popped ahead of it. -/
theorem pop_at {T : List Int} {n j : Nat} {l : List (It Int)} (R : Rep l ((sTo T n).drop j)) (hj : j < n) : ∃ (k : Nat) (t : List (It Int)), k < n ∧ (sTo T n).drop j = ⟨T.getD k 0, (k : Int), (k : Int)⟩ :: t ∧ (sTo T n).drop (j + 1) = t := by
  have hl : j < (sTo T n).length := by rw [sTo_len]; exact hj
  have h := List.drop_eq_getElem_cons hl
  obtain ⟨k, hk, he⟩ := sTo_mem (List.getElem_mem hl)
  exact ⟨k, _, hk, by rw [h, he], rfl⟩
set_option maxRecDepth 100000 in
set_option maxHeartbeats 8000000 in
theorem heapSorts_any (A : Option Addr) (c : Nat) (l : List Int) (w : World) (hr : Kd.C (Kd.int .i64) w A l.length l) (hc : l.length ≤ c) :
    Calls Try.prog 10 #[.slice A l.length c] w fun e w' => e = .returned (.bool true) ∧ Below w.heap.size w w' := by
  obtain ⟨j0, hj0⟩ : ∃ j : Int, min (l.length : Int) 200 = j := ⟨_, rfl⟩
  obtain ⟨n, hn⟩ : ∃ n, (l.take j0.toNat).length = n := ⟨_, rfl⟩
  have hn200 : n ≤ 200 := by rw [← hn, List.length_take]; omega
  have hjn : j0.toNat = n := by rw [← hn, List.length_take]; omega
  have hcut := cut_to (P := Try.prog) 30 3 .i64 Try.underlying30 (info_parts infoT).choose_spec.1 A l.length c j0 (by omega) (by omega) hc
  have hrT := Kd.C_take (m := j0.toNat) hr (by omega)
  rw [hjn] at hcut hrT
  obtain ⟨T, hT⟩ : ∃ T, l.take n = T := ⟨_, rfl⟩
  have hTn : T.length = n := by rw [← hT]; rw [hjn] at hn; exact hn
  have hj2 : (if 200 < (l.length : Int) then 200 else (l.length : Int)) = j0 := by split <;> omega
  rw [hT] at hrT
  have HN := Aside0.mk hn200
  clear hj0 hn hjn hT hn200
  go_enter Try.func10, Try.ntmps10
  go_upto_region 3 with (fail)
  obtain ⟨W0, hW0⟩ : ∃ W0, w.alloc (.cells #[.slice none 0 0, .map none, .int .i64 0] 67) = W0 := ⟨_, rfl⟩
  obtain ⟨b, hb⟩ : ∃ b, w.heap.size = b := ⟨_, rfl⟩
  have H0 := made w
  have G0 : Fr (fun _ => False) w W0 := hW0 ▸ Fr.of_below _ ((Below.refl w.heap.size w).alloc (Nat.le_refl _) _)
  have B0 : Below b w W0 := G0.to_below (by rw [hb]; exact Nat.le_refl _) (fun _ q => q.elim)
  rw [hW0, hb] at H0 ⊢
  clear hW0
  have hlv := fun (V : World) => Aside0.mk (lives_any V)
  go_wp2
  go_loopw [24] (fun v24 wr => ∃ (i : Nat) (F : Nat → Prop) (L : List (It Int)), v24 = .int .i64 (i : Int) ∧ i ≤ n ∧ HpAt wr b F (805 * i) (2 * i) L i ∧ Rep L (sTo T i) ∧ Below b w wr ∧ ∀ k, F k → b ≤ k) (fun v24 _ => match v24 with | .int _ z => n - z.toNat | _ => 0)
  case atStart => exact ⟨0, _, [], rfl, Nat.zero_le _, H0, rep_nil, B0, fun k hk => by rw [hk]; exact Nat.le_refl _⟩
  case round =>
    obtain ⟨i, F, L, rfl, hi, hH, hR, hB, hF⟩ := hrel
    by_cases hin : i < n
    · have hd : decide ((i : Int) < (n : Int)) = true := by simpa using hin
      have hz : (0 : Int) ≤ (i : Int) := by omega
      have hiT : i < T.length := by rw [hTn]; exact hin
      obtain ⟨ad, e, hx⟩ := Kd.at_int (Kd.C_below hrT (hb ▸ hB)) (i : Int) (by omega) (by omega)
      subst e
      rw [rd_at hiT, Int.toNat_natCast] at hx
      have hTi : T[i] = T.getD i 0 := by simp [hiT]
      rw [hTi] at hx
      obtain ⟨x, hxx⟩ : ∃ x, T.getD i 0 = x := ⟨_, rfl⟩
      have P1 := Aside0.mk (put_one hH hR hin HN.out)
      have P2 := fun (V : World) (F' : Nat → Prop) (L' : List (It Int)) (H' : HpAt V b F' (805 * i + 2 * i + 2) (2 * i + 1) L' (i + 1)) (R' : Rep L' (sTo T (i + 1))) => Aside0.mk (put_two H' R' hin HN.out)
      rw [hxx] at hx P1 P2
      have hi1 : wrap64 ((i : Int) + 1) = ((i + 1 : Nat) : Int) := wrap_up (by have := HN.out; omega)
      have HI1 := Aside0.mk hi1
      clear hxx hTi hi1
      go_wp2_with (first
        | (go_at_call 36; first | (refine (P1.out).mono ?_; rintro e w1 ⟨rfl, F1, L1, H1, R1, G1, K1⟩) | (refine ((P2 w1 F1 L1 H1 R1).out).mono ?_; rintro e w2 ⟨rfl, F2, H2, G2, K2⟩))
        | fail)
      go_roundw
      case rel =>
        have B1 := low_step hB hF G1 (hb ▸ hB.size)
        have C1 := low_foot (hb ▸ hB.size) hF K1
        exact ⟨i + 1, F2, L1, by rw [HI1.out], hin, H2, R1, low_step B1 C1 G2 (hb ▸ B1.size), low_foot (hb ▸ B1.size) C1 K2⟩
      case measure => rw [HI1.out]; exact (show n - (i + 1) < n - i from Nat.sub_lt_sub_left hin (Nat.lt_succ_self i))
    · have hd : decide ((i : Int) < (n : Int)) = false := by simpa using hin
      obtain rfl : i = n := by omega
      obtain ⟨c1, c2⟩ := num_c HN.out
      have hH1 := Aside0.mk (hH.more c1 c2)
      have hR1 := Aside0.mk hR
      have hB1 := Aside0.mk hB
      have hF1 := Aside0.mk hF
      clear hH hR hB hF hi hin c1 c2
      go_wp2
      go_loopw [6, 7, 43] (fun v6 v7 v43 wr => ∃ (j : Nat) (lf lx : Int) (F : Nat → Prop) (L : List (It Int)), v6 = .int .i64 lf ∧ v7 = .int .i64 lx ∧ v43 = .int .i64 (j : Int) ∧ j ≤ i ∧ HpAt wr b F (161000 + 803 * j) 400 L i ∧ Rep L ((sTo T i).drop j) ∧ Below b w wr ∧ (∀ k, F k → b ≤ k) ∧ (0 < j → ∀ e ∈ (sTo T i).drop j, lf < e.f0 ∨ (lf = e.f0 ∧ lx < e.f1))) (fun _ _ v43 _ => match v43 with | .int _ z => i - z.toNat | _ => 0)
      case atStart => exact ⟨0, 0, -1, _, _, rfl, rfl, rfl, Nat.zero_le _, hH1.out, by rw [List.drop_zero]; exact hR1.out, hB1.out, hF1.out, fun q => absurd q (Nat.lt_irrefl 0)⟩
      case round =>
        obtain ⟨j, lf, lx, F, L, rfl, rfl, rfl, hj, hH, hR, hB, hF, hpr⟩ := hrel
        by_cases hji : j < i
        · have hd : decide ((j : Int) < (i : Int)) = true := by simpa using hji
          obtain ⟨k, t, hk, hdr, hdt⟩ := pop_at hR hji
          rw [hdr] at hR hpr
          have P1 := Aside0.mk (pop_one hH hR hj HN.out)
          have hks : k < T.length := by rw [hTn]; exact hk
          have hkz : (0 : Int) ≤ (k : Int) := by omega
          obtain ⟨ad, e, hx⟩ := Kd.at_int hrT (k : Int) (by omega) (by omega)
          subst e
          rw [rd_at hks, Int.toNat_natCast] at hx
          have hTk : T[k] = T.getD k 0 := by simp [hks]
          rw [hTk] at hx
          obtain ⟨x, hxx⟩ : ∃ x, T.getD k 0 = x := ⟨_, rfl⟩
          have hsrt : ∀ e ∈ t, x < e.f0 ∨ (x = e.f0 ∧ (k : Int) < e.f1) := by
            have h1 := (List.pairwise_cons.1 hR.srt).1
            rw [hxx] at h1
            exact h1
          have hpr0 : 0 < j → lf < x ∨ (lf = x ∧ lx < (k : Int)) := fun q => by
            have := hpr q _ List.mem_cons_self
            rw [hxx] at this
            exact this
          rw [hxx] at P1 hx
          have keep := fun (V : World) (hV : Below b w V) => Aside0.mk (((show Below w.heap.size w V from hb.symm ▸ hV).cell (World.block_lt_of_cell? _ _ hx)).trans hx)
          have hk2 : (i ≤ k) = False := eq_false (by omega)
          have hi1 : wrap64 ((j : Int) + 1) = ((j + 1 : Nat) : Int) := wrap_up (by have := HN.out; omega)
          have HI1 := Aside0.mk hi1
          have hk0 : decide ((k : Int) < 0) = false := decide_eq_false (by omega)
          have hk1 : decide ((i : Int) ≤ (k : Int)) = false := decide_eq_false (by omega)
          have HB := Aside0.mk hB
          have HF := Aside0.mk hF
          have HS := Aside0.mk hsrt
          have HDT := Aside0.mk hdt
          have fin : ∀ (w1 : World) (F1 : Nat → Prop) (L1 : List (It Int)), HpAt w1 b F1 (161000 + 803 * (j + 1)) 400 L1 i → Rep L1 t → Fr F wr w1 → (∀ k, F1 k → F k ∨ wr.heap.size ≤ k) →
              ∃ (j_1 : Nat) (lf lx_1 : Int) (F : Nat → Prop) (L : List (It Int)), Value.int .i64 x = Value.int .i64 lf ∧ Value.int .i64 (k : Int) = Value.int .i64 lx_1 ∧ Value.int .i64 (wrap64 ((j : Int) + 1)) = Value.int .i64 (j_1 : Int) ∧ j_1 ≤ i ∧ HpAt w1 b F (161000 + 803 * j_1) 400 L i ∧ Rep L ((sTo T i).drop j_1) ∧ Below b w w1 ∧ (∀ k, F k → b ≤ k) ∧ (0 < j_1 → ∀ e ∈ (sTo T i).drop j_1, lf < e.f0 ∨ (lf = e.f0 ∧ lx_1 < e.f1)) := by
            intro w1 F1 L1 H1 R1 G1 K1
            exact ⟨j + 1, x, k, F1, L1, rfl, rfl, by rw [HI1.out], hji, H1, by rw [HDT.out]; exact R1, low_step HB.out HF.out G1 (hb ▸ HB.out.size), low_foot (hb ▸ HB.out.size) HF.out K1, fun _ => by rw [HDT.out]; exact HS.out⟩
          have hmea : i - (j + 1) < i - j := Nat.sub_lt_sub_left hji (Nat.lt_succ_self j)
          have FIN := Aside0.mk fin
          clear hxx hTk hi1 hsrt hB hF hdt hdr hpr hR hH hj fin hx
          by_cases hj0 : 0 < j
          · have t1 : decide ((0 : Int) < (j : Int)) = true := by simpa using hj0
            rcases hpr0 hj0 with hp | ⟨hp, hp2⟩
            · have s1 : decide (x < lf) = false := decide_eq_false (by omega)
              have s2 : (x == lf) = false := by rw [beq_eq_false_iff_ne]; omega
              clear hpr0 hp
              go_wp2_with (first
                | (go_at_call 37; refine (P1.out).mono ?_; rintro e w1 ⟨rfl, F1, L1, H1, R1, G1, K1⟩; have hx1 := (keep w1 (low_step HB.out HF.out G1 (hb ▸ HB.out.size))).out)
                | fail)
              go_roundw
              case rel => exact FIN.out w1 F1 L1 H1 R1 G1 K1
              case measure => rw [HI1.out]; exact hmea
            · subst hp
              have s1 : decide (lf < lf) = false := decide_eq_false (by omega)
              have s3 : decide ((k : Int) ≤ lx) = false := decide_eq_false (by omega)
              clear hpr0 hp2
              go_wp2_with (first
                | (go_at_call 37; refine (P1.out).mono ?_; rintro e w1 ⟨rfl, F1, L1, H1, R1, G1, K1⟩; have hx1 := (keep w1 (low_step HB.out HF.out G1 (hb ▸ HB.out.size))).out)
                | fail)
              go_roundw
              case rel => exact FIN.out w1 F1 L1 H1 R1 G1 K1
              case measure => rw [HI1.out]; exact hmea
          · obtain rfl : j = 0 := by omega
            clear hpr0 hj0
            go_wp2_with (first
              | (go_at_call 37; refine (P1.out).mono ?_; rintro e w1 ⟨rfl, F1, L1, H1, R1, G1, K1⟩; have hx1 := (keep w1 (low_step HB.out HF.out G1 (hb ▸ HB.out.size))).out)
              | fail)
            go_roundw
            case rel =>
              have q_ := FIN.out w1 F1 L1 H1 R1 G1 K1
              have e_ : wrap64 (((0 : Nat) : Int) + 1) = 1 := HI1.out
              rw [e_] at q_
              exact q_
            case measure => exact (show i - 1 < i - 0 from hmea)
        · have hd : decide ((j : Int) < (i : Int)) = false := by simpa using hji
          obtain rfl : j = i := by omega
          have hnil : (sTo T j).drop j = [] := by rw [List.drop_eq_nil_iff, sTo_len]; exact Nat.le_refl _
          rw [hnil] at hR
          have P1 := Aside0.mk (pop_none hH hR hj HN.out)
          have HB := Aside0.mk hB
          have HF := Aside0.mk hF
          clear hpr hji hj hB hF hH hR hnil
          go_wp2_with (first
            | (go_at_call 37; refine (P1.out).mono ?_; rintro e w1 ⟨rfl, G1⟩)
            | (go_at_call 38; refine ((hlv _).out).mono ?_; rintro e w2 ⟨rfl, B2⟩)
            | fail)
          go_ret
          have B1 := low_step HB.out HF.out G1 (hb ▸ HB.out.size)
          exact ⟨rfl, hb.symm ▸ B1.trans (B2.mono (hb ▸ B1.size))⟩
end Go.Proofs.Ytkegdcnnankokaa.Hpi
