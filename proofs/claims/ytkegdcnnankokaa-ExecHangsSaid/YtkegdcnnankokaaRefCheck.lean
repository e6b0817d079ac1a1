/-
The reference's Check (pinfoldref09): it answers what prog.Check answers.
-/
import Derived.Test.YtkegdcnnankokaaRefA
namespace Go.Proofs.Ytkegdcnnankokaa
set_option linter.unusedVariables false
set_option linter.unusedSimpArgs false
open Go.RowKit

set_option maxHeartbeats 1000000 in
theorem rcheck_prio (prio : Int) (A : Option Addr) (n c : Nat) (w : World) (h : prio < 0 ∨ 3 < prio) :
    Calls Try.prog 62 #[.agg #[.int .i64 prio, .slice A n c]] w (twoPost w (26, 0)) := by
  by_cases h1 : prio < 0
  · go_enter Try.func62, Try.ntmps62
    go_wp2_with fail
    go_ret2
    refine ⟨rfl, ?_⟩
    repeat (first | exact bel_refl _ | with_reducible apply bel_alloc | with_reducible apply bel_ext | with_reducible apply bel_drew | with_reducible apply bel_drewN | ((with_reducible refine bel_set ?_ (by simp <;> omega))) | ((with_reducible refine bel_trans ?_ (by assumption))))
  · have h2 : 3 < prio := by omega
    go_enter Try.func62, Try.ntmps62
    go_wp2_with fail
    go_ret2
    refine ⟨rfl, ?_⟩
    repeat (first | exact bel_refl _ | with_reducible apply bel_alloc | with_reducible apply bel_ext | with_reducible apply bel_drew | with_reducible apply bel_drewN | ((with_reducible refine bel_set ?_ (by simp <;> omega))) | ((with_reducible refine bel_trans ?_ (by assumption))))

set_option maxHeartbeats 1000000 in
theorem rcheck_len (prio : Int) (A : Option Addr) (n c : Nat) (w : World) (h : ¬ prio < 0) (h3 : ¬ 3 < prio) (hn : n = 0 ∨ 64 < n) :
    Calls Try.prog 62 #[.agg #[.int .i64 prio, .slice A n c]] w (twoPost w (33, 0)) := by
  by_cases h1 : n = 0
  · subst h1
    go_enter Try.func62, Try.ntmps62
    go_wp2_with fail
    go_ret2
    refine ⟨rfl, ?_⟩
    repeat (first | exact bel_refl _ | with_reducible apply bel_alloc | with_reducible apply bel_ext | with_reducible apply bel_drew | with_reducible apply bel_drewN | ((with_reducible refine bel_set ?_ (by simp <;> omega))) | ((with_reducible refine bel_trans ?_ (by assumption))))
  · have h2 : 64 < n := by omega
    have h1' : ¬ (n : Int) < 1 := by omega
    clear hn h1
    go_enter Try.func62, Try.ntmps62
    go_wp2_with fail
    go_ret2
    refine ⟨rfl, ?_⟩
    repeat (first | exact bel_refl _ | with_reducible apply bel_alloc | with_reducible apply bel_ext | with_reducible apply bel_drew | with_reducible apply bel_drewN | ((with_reducible refine bel_set ?_ (by simp <;> omega))) | ((with_reducible refine bel_trans ?_ (by assumption))))

theorem op_cases (op : Int) (h1 : 1 ≤ op) (h2 : op ≤ 14) :
    ((op == 4) = true ∧ (op == 7) = false ∧ (op == 9) = false ∧ (op == 10) = false ∧ (op == 12) = false ∧ shN op = true ∧ ∀ n len, numErr op n len = if n < 0 ∨ len ≤ n then 32 else 0) ∨
    ((op == 4) = false ∧ (op == 5) = true ∧ (op == 7) = false ∧ (op == 9) = false ∧ (op == 10) = false ∧ (op == 12) = false ∧ shN op = true ∧ ∀ n len, numErr op n len = if n < 0 ∨ len ≤ n then 32 else 0) ∨
    ((op == 4) = false ∧ (op == 5) = false ∧ (op == 7) = true ∧ shN op = true ∧ ∀ n len, numErr op n len = if n < 0 ∨ 15 < n then 26 else 0) ∨
    ((op == 4) = false ∧ (op == 5) = false ∧ (op == 7) = false ∧ (op == 9) = true ∧ shN op = true ∧ ∀ n len, numErr op n len = if n < 0 ∨ 15 < n then 26 else 0) ∨
    ((op == 4) = false ∧ (op == 5) = false ∧ (op == 7) = false ∧ (op == 9) = false ∧ (op == 10) = true ∧ shN op = true ∧ ∀ n len, numErr op n len = if n < 0 ∨ 15 < n then 26 else 0) ∨
    ((op == 4) = false ∧ (op == 5) = false ∧ (op == 7) = false ∧ (op == 9) = false ∧ (op == 10) = false ∧ (op == 12) = true ∧ shN op = true ∧ ∀ n len, numErr op n len = if n < 0 ∨ 15 < n then 26 else 0) ∨
    ((op == 4) = false ∧ (op == 5) = false ∧ (op == 7) = false ∧ (op == 9) = false ∧ (op == 10) = false ∧ (op == 12) = false ∧ shN op = true ∧ ∀ n len, numErr op n len = 0) ∨
    ((op == 4) = false ∧ (op == 5) = false ∧ (op == 7) = false ∧ (op == 9) = false ∧ (op == 10) = false ∧ (op == 12) = false ∧ shN op = false ∧ ∀ n len, numErr op n len = if n < 0 ∨ 0 < n then 26 else 0) := by
  have h : op = 1 ∨ op = 2 ∨ op = 3 ∨ op = 4 ∨ op = 5 ∨ op = 6 ∨ op = 7 ∨ op = 8 ∨ op = 9 ∨ op = 10 ∨ op = 11 ∨ op = 12 ∨ op = 13 ∨ op = 14 := by omega
  rcases h with rfl | rfl | rfl | rfl | rfl | rfl | rfl | rfl | rfl | rfl | rfl | rfl | rfl | rfl <;> simp [shN, numErr, mostN]

set_option maxRecDepth 100000 in
set_option maxHeartbeats 2000000 in
theorem rcheck_loop (prio : Int) (A : Option Addr) (c : Nat) (l : List Ins) (w : World) (h : ¬ prio < 0) (h3 : ¬ 3 < prio) (hn : 0 < l.length) (hn' : l.length ≤ 64) (hc : l.length ≤ c) (hA : InsAt w A l) (hwf : InsWf l) :
    Calls Try.prog 62 #[.agg #[.int .i64 prio, .slice A l.length c]] w (twoPost w (checkL l)) := by
  have h1' : ¬ (l.length : Int) < 1 := by omega
  have HA := Lib.hid hA
  clear hA
  go_enter Try.func62, Try.ntmps62
  go_wp2_with fail
  go_loopw [30] (fun i wr => ∃ k : Nat, k ≤ l.length ∧ i = .int .i64 k ∧ (∀ j (hj : j < l.length), j < k → l[j].err l.length = 0) ∧ Below (w.heap.size + 1) (w.alloc (.cells #[.int .i64 prio, .slice A l.length c] 43)) wr) (fun i _ => l.length - (intOf i).toNat)
  case atStart => exact ⟨0, Nat.zero_le _, rfl, fun _ _ h => absurd h (by omega), Below.refl _ _⟩
  case round =>
    obtain ⟨k, hk, rfl, hall, hbr⟩ := hrel
    have Hall := Lib.hid hall
    clear hall
    have hs := hbr.size
    simp only [World.size_alloc] at hs
    have hz : w.heap.size < wr.heap.size := by omega
    have q0 : wr.cell? ⟨w.heap.size, 0, none⟩ = some (.int .i64 prio) := (hbr.cell (p := ⟨w.heap.size, 0, none⟩) (by simp)).trans (by simp)
    have q1 : wr.cell? ⟨w.heap.size, 1, none⟩ = some (.slice A l.length c) := (hbr.cell (p := ⟨w.heap.size, 1, none⟩) (by simp)).trans (by simp)
    have HB := Lib.hid (show Below w.heap.size w wr from bel_trans (bel_alloc (bel_refl w) _) (by simpa using hbr))
    by_cases hlt : k < l.length
    · obtain ⟨ad, hAd, c0, c1, c2, c3⟩ := (HA.out.below HB.out) k hlt
      subst hAd
      have hw := hwf l[k] (List.getElem_mem hlt)
      obtain ⟨hw1, hw2⟩ := hw
      have hfin : l[k].err l.length ≠ 0 → checkL l = (l[k].err l.length, (k : Int)) := by
        intro he
        have := firstErr_at l.length l 0 k hlt Hall.out he
        simp only [checkL, this]; simp
      have hnext : l[k].err l.length = 0 → ∀ j (hj : j < l.length), j < k + 1 → l[j].err l.length = 0 := by
        intro he j hj hjk
        by_cases hjk' : j < k
        · exact Hall.out j hj hjk'
        · obtain rfl : j = k := by omega
          exact he
      have hE : l[k].err l.length = insErr l[k].op l[k].a l[k].b l[k].n l.length := rfl
      have Hnext := Lib.hid hnext
      rw [hE] at hfin
      have Hfin := Lib.hid hfin
      have HE := Lib.hid hE
      clear hE hfin hnext
      generalize l[k].op = op at *
      generalize l[k].a = a at *
      generalize l[k].b = b at *
      generalize l[k].n = n at *
      by_cases ho : op < 1 ∨ 14 < op
      · rcases ho with ho | ho
        all_goals
          go_wp2_with fail
          refine (shape_any _ _).mono ?_
          rintro e w1 ⟨rfl, hbw1⟩
          obtain ⟨hcw1, hfw1⟩ := bcell hbw1; have hsw1 := hbw1.size; simp only [World.size_alloc] at hsw1; have hzw1 : w.heap.size < w1.heap.size := (by omega); have hyw1 : wr.heap.size < w1.heap.size := by omega
          have HR := Lib.hid (fun m => bel_drewN ((hbr.alloc (by omega) _).trans (hbw1.mono (by simp; omega))) m)
          clear hbr
          go_wp2_with fail
          go_ret2
          refine ⟨?_, ?_⟩
          · have hx : insErr op a b n l.length = 30 := by unfold insErr; rw [if_pos (by omega)]
            rw [Hfin.out (by rw [hx]; decide), hx]; rfl
          · clear hcw1 hfw1
            have hB2 := HB.out
            repeat (first | exact bel_refl _ | with_reducible apply bel_alloc | with_reducible apply bel_ext | with_reducible apply bel_drew | with_reducible apply bel_drewN | ((with_reducible refine bel_set ?_ (by simp <;> omega))) | ((with_reducible refine bel_trans ?_ (by assumption))))
      have ho1 : ¬ op < 1 := by omega
      have ho2 : ¬ 14 < op := by omega
      clear ho
      cases ha : regOK (shA op) a with
      | false =>
        go_wp2_with fail
        refine (shape_any _ _).mono ?_
        rintro e w1 ⟨rfl, hbw1⟩
        obtain ⟨hcw1, hfw1⟩ := bcell hbw1; have hsw1 := hbw1.size; simp only [World.size_alloc] at hsw1; have hzw1 : w.heap.size < w1.heap.size := (by omega); have hyw1 : wr.heap.size < w1.heap.size := by omega
        have HR := Lib.hid (fun m => bel_drewN ((hbr.alloc (by omega) _).trans (hbw1.mono (by simp; omega))) m)
        clear hbr
        go_wp2_with fail
        go_quiet ((first | (go_at_call_of 82 (Value.int IntKind.u8 65); exact Calls.quiet_of_same (hasA _ _)) | (go_at_call_of 82 (Value.int IntKind.u8 66); exact Calls.quiet_of_same (hasBB _ _)) | (go_at_call_of 82 (Value.int IntKind.u8 78); exact Calls.quiet_of_same (hasN _ _)) | (go_at_call_of 81 (Value.bool (shA op)); first | exact Calls.quiet_of_same (reg_no _ _ _ ha) | exact Calls.quiet_of_same (reg_yes _ _ _ ha)) | (go_at_call_of 81 (Value.bool (shB op)); first | exact Calls.quiet_of_same (reg_no _ _ _ hb) | exact Calls.quiet_of_same (reg_yes _ _ _ hb))))
        go_wp2_with fail
        go_ret2
        refine ⟨?_, ?_⟩
        · have hx : insErr op a b n l.length = 31 := by unfold insErr; rw [if_neg (by omega), if_pos (.inl ha)]
          rw [Hfin.out (by rw [hx]; decide), hx]; rfl
        · clear hcw1 hfw1
          have hB2 := HB.out
          repeat (first | exact bel_refl _ | with_reducible apply bel_alloc | with_reducible apply bel_ext | with_reducible apply bel_drew | with_reducible apply bel_drewN | ((with_reducible refine bel_set ?_ (by simp <;> omega))) | ((with_reducible refine bel_trans ?_ (by assumption))))
      | true =>
        cases hb : regOK (shB op) b with
        | false =>
          go_wp2_with fail
          refine (shape_any _ _).mono ?_
          rintro e w1 ⟨rfl, hbw1⟩
          obtain ⟨hcw1, hfw1⟩ := bcell hbw1; have hsw1 := hbw1.size; simp only [World.size_alloc] at hsw1; have hzw1 : w.heap.size < w1.heap.size := (by omega); have hyw1 : wr.heap.size < w1.heap.size := by omega
          have HR := Lib.hid (fun m => bel_drewN ((hbr.alloc (by omega) _).trans (hbw1.mono (by simp; omega))) m)
          clear hbr
          go_wp2_with fail
          go_quiet ((first | (go_at_call_of 82 (Value.int IntKind.u8 65); exact Calls.quiet_of_same (hasA _ _)) | (go_at_call_of 82 (Value.int IntKind.u8 66); exact Calls.quiet_of_same (hasBB _ _)) | (go_at_call_of 82 (Value.int IntKind.u8 78); exact Calls.quiet_of_same (hasN _ _)) | (go_at_call_of 81 (Value.bool (shA op)); first | exact Calls.quiet_of_same (reg_no _ _ _ ha) | exact Calls.quiet_of_same (reg_yes _ _ _ ha)) | (go_at_call_of 81 (Value.bool (shB op)); first | exact Calls.quiet_of_same (reg_no _ _ _ hb) | exact Calls.quiet_of_same (reg_yes _ _ _ hb))))
          go_wp2_with fail
          go_ret2
          refine ⟨?_, ?_⟩
          · have hx : insErr op a b n l.length = 31 := by unfold insErr; rw [if_neg (by omega), if_pos (.inr hb)]
            rw [Hfin.out (by rw [hx]; decide), hx]; rfl
          · clear hcw1 hfw1
            have hB2 := HB.out
            repeat (first | exact bel_refl _ | with_reducible apply bel_alloc | with_reducible apply bel_ext | with_reducible apply bel_drew | with_reducible apply bel_drewN | ((with_reducible refine bel_set ?_ (by simp <;> omega))) | ((with_reducible refine bel_trans ?_ (by assumption))))
        | true =>
          go_wp2_with fail
          refine (shape_any _ _).mono ?_
          rintro e w1 ⟨rfl, hbw1⟩
          obtain ⟨hcw1, hfw1⟩ := bcell hbw1; have hsw1 := hbw1.size; simp only [World.size_alloc] at hsw1; have hzw1 : w.heap.size < w1.heap.size := (by omega); have hyw1 : wr.heap.size < w1.heap.size := by omega
          have HR := Lib.hid (fun m => bel_drewN ((hbr.alloc (by omega) _).trans (hbw1.mono (by simp; omega))) m)
          clear hbr
          have hcases := op_cases op ho1 ho2
          go_wp2_with fail
          go_quiet ((first | (go_at_call_of 82 (Value.int IntKind.u8 65); exact Calls.quiet_of_same (hasA _ _)) | (go_at_call_of 82 (Value.int IntKind.u8 66); exact Calls.quiet_of_same (hasBB _ _)) | (go_at_call_of 82 (Value.int IntKind.u8 78); exact Calls.quiet_of_same (hasN _ _)) | (go_at_call_of 81 (Value.bool (shA op)); first | exact Calls.quiet_of_same (reg_no _ _ _ ha) | exact Calls.quiet_of_same (reg_yes _ _ _ ha)) | (go_at_call_of 81 (Value.bool (shB op)); first | exact Calls.quiet_of_same (reg_no _ _ _ hb) | exact Calls.quiet_of_same (reg_yes _ _ _ hb))))
          have hx0 : insErr op a b n l.length = numErr op n l.length := by unfold insErr; rw [if_neg (by omega), if_neg (by rw [ha, hb]; simp)]
          have Hx0 := Lib.hid hx0
          clear hx0
          rcases hcases with ⟨g4, g7, g9, g10, g12, gN, hN⟩ | ⟨g4, g5, g7, g9, g10, g12, gN, hN⟩ | ⟨g4, g5, g7, gN, hN⟩ | ⟨g4, g5, g7, g9, gN, hN⟩ | ⟨g4, g5, g7, g9, g10, gN, hN⟩ | ⟨g4, g5, g7, g9, g10, g12, gN, hN⟩ | ⟨g4, g5, g7, g9, g10, g12, gN, hN⟩ | ⟨g4, g5, g7, g9, g10, g12, gN, hN⟩
          · skip
            by_cases n0 : n < 0
            · skip
              go_wp2_with (go_at_call_of 82 (Value.int IntKind.u8 78); refine (hasN _ _).mono ?_; rintro e w2 ⟨rfl, rfl⟩)
              go_ret2
              refine ⟨?_, ?_⟩
              · have hx : insErr op a b n l.length = 32 := by rw [Hx0.out, hN]; exact if_pos (by omega)
                rw [Hfin.out (by rw [hx]; decide), hx]; rfl
              · clear hcw1 hfw1
                have hB2 := HB.out
                repeat (first | exact bel_refl _ | with_reducible apply bel_alloc | with_reducible apply bel_ext | with_reducible apply bel_drew | with_reducible apply bel_drewN | ((with_reducible refine bel_set ?_ (by simp <;> omega))) | ((with_reducible refine bel_trans ?_ (by assumption))))
            · skip
              by_cases n1 : (l.length : Int) ≤ n
              · skip
                go_wp2_with (go_at_call_of 82 (Value.int IntKind.u8 78); refine (hasN _ _).mono ?_; rintro e w2 ⟨rfl, rfl⟩)
                go_ret2
                refine ⟨?_, ?_⟩
                · have hx : insErr op a b n l.length = 32 := by rw [Hx0.out, hN]; exact if_pos (by omega)
                  rw [Hfin.out (by rw [hx]; decide), hx]; rfl
                · clear hcw1 hfw1
                  have hB2 := HB.out
                  repeat (first | exact bel_refl _ | with_reducible apply bel_alloc | with_reducible apply bel_ext | with_reducible apply bel_drew | with_reducible apply bel_drewN | ((with_reducible refine bel_set ?_ (by simp <;> omega))) | ((with_reducible refine bel_trans ?_ (by assumption))))
              · skip
                go_wp2_with (go_at_call_of 82 (Value.int IntKind.u8 78); refine (hasN _ _).mono ?_; rintro e w2 ⟨rfl, rfl⟩)
                go_roundw
                case rel =>
                  have hx : insErr op a b n l.length = 0 := by rw [Hx0.out, hN]; exact if_neg (by omega)
                  refine ⟨k + 1, by omega, by go_num, Hnext.out (by rw [HE.out]; exact hx), ?_⟩
                  exact HR.out nq
                case measure => simp [intOf]; omega
          · skip
            by_cases n0 : n < 0
            · skip
              go_wp2_with (go_at_call_of 82 (Value.int IntKind.u8 78); refine (hasN _ _).mono ?_; rintro e w2 ⟨rfl, rfl⟩)
              go_ret2
              refine ⟨?_, ?_⟩
              · have hx : insErr op a b n l.length = 32 := by rw [Hx0.out, hN]; exact if_pos (by omega)
                rw [Hfin.out (by rw [hx]; decide), hx]; rfl
              · clear hcw1 hfw1
                have hB2 := HB.out
                repeat (first | exact bel_refl _ | with_reducible apply bel_alloc | with_reducible apply bel_ext | with_reducible apply bel_drew | with_reducible apply bel_drewN | ((with_reducible refine bel_set ?_ (by simp <;> omega))) | ((with_reducible refine bel_trans ?_ (by assumption))))
            · skip
              by_cases n1 : (l.length : Int) ≤ n
              · skip
                go_wp2_with (go_at_call_of 82 (Value.int IntKind.u8 78); refine (hasN _ _).mono ?_; rintro e w2 ⟨rfl, rfl⟩)
                go_ret2
                refine ⟨?_, ?_⟩
                · have hx : insErr op a b n l.length = 32 := by rw [Hx0.out, hN]; exact if_pos (by omega)
                  rw [Hfin.out (by rw [hx]; decide), hx]; rfl
                · clear hcw1 hfw1
                  have hB2 := HB.out
                  repeat (first | exact bel_refl _ | with_reducible apply bel_alloc | with_reducible apply bel_ext | with_reducible apply bel_drew | with_reducible apply bel_drewN | ((with_reducible refine bel_set ?_ (by simp <;> omega))) | ((with_reducible refine bel_trans ?_ (by assumption))))
              · skip
                go_wp2_with (go_at_call_of 82 (Value.int IntKind.u8 78); refine (hasN _ _).mono ?_; rintro e w2 ⟨rfl, rfl⟩)
                go_roundw
                case rel =>
                  have hx : insErr op a b n l.length = 0 := by rw [Hx0.out, hN]; exact if_neg (by omega)
                  refine ⟨k + 1, by omega, by go_num, Hnext.out (by rw [HE.out]; exact hx), ?_⟩
                  exact HR.out nq
                case measure => simp [intOf]; omega
          · skip
            by_cases n0 : n < 0
            · skip
              go_wp2_with (go_at_call_of 82 (Value.int IntKind.u8 78); refine (hasN _ _).mono ?_; rintro e w2 ⟨rfl, rfl⟩)
              go_ret2
              refine ⟨?_, ?_⟩
              · have hx : insErr op a b n l.length = 26 := by rw [Hx0.out, hN]; exact if_pos (by omega)
                rw [Hfin.out (by rw [hx]; decide), hx]; rfl
              · clear hcw1 hfw1
                have hB2 := HB.out
                repeat (first | exact bel_refl _ | with_reducible apply bel_alloc | with_reducible apply bel_ext | with_reducible apply bel_drew | with_reducible apply bel_drewN | ((with_reducible refine bel_set ?_ (by simp <;> omega))) | ((with_reducible refine bel_trans ?_ (by assumption))))
            · skip
              by_cases n1 : 15 < n
              · skip
                go_wp2_with (go_at_call_of 82 (Value.int IntKind.u8 78); refine (hasN _ _).mono ?_; rintro e w2 ⟨rfl, rfl⟩)
                go_ret2
                refine ⟨?_, ?_⟩
                · have hx : insErr op a b n l.length = 26 := by rw [Hx0.out, hN]; exact if_pos (by omega)
                  rw [Hfin.out (by rw [hx]; decide), hx]; rfl
                · clear hcw1 hfw1
                  have hB2 := HB.out
                  repeat (first | exact bel_refl _ | with_reducible apply bel_alloc | with_reducible apply bel_ext | with_reducible apply bel_drew | with_reducible apply bel_drewN | ((with_reducible refine bel_set ?_ (by simp <;> omega))) | ((with_reducible refine bel_trans ?_ (by assumption))))
              · skip
                go_wp2_with (go_at_call_of 82 (Value.int IntKind.u8 78); refine (hasN _ _).mono ?_; rintro e w2 ⟨rfl, rfl⟩)
                go_roundw
                case rel =>
                  have hx : insErr op a b n l.length = 0 := by rw [Hx0.out, hN]; exact if_neg (by omega)
                  refine ⟨k + 1, by omega, by go_num, Hnext.out (by rw [HE.out]; exact hx), ?_⟩
                  exact HR.out nq
                case measure => simp [intOf]; omega
          · skip
            by_cases n0 : n < 0
            · skip
              go_wp2_with (go_at_call_of 82 (Value.int IntKind.u8 78); refine (hasN _ _).mono ?_; rintro e w2 ⟨rfl, rfl⟩)
              go_ret2
              refine ⟨?_, ?_⟩
              · have hx : insErr op a b n l.length = 26 := by rw [Hx0.out, hN]; exact if_pos (by omega)
                rw [Hfin.out (by rw [hx]; decide), hx]; rfl
              · clear hcw1 hfw1
                have hB2 := HB.out
                repeat (first | exact bel_refl _ | with_reducible apply bel_alloc | with_reducible apply bel_ext | with_reducible apply bel_drew | with_reducible apply bel_drewN | ((with_reducible refine bel_set ?_ (by simp <;> omega))) | ((with_reducible refine bel_trans ?_ (by assumption))))
            · skip
              by_cases n1 : 15 < n
              · skip
                go_wp2_with (go_at_call_of 82 (Value.int IntKind.u8 78); refine (hasN _ _).mono ?_; rintro e w2 ⟨rfl, rfl⟩)
                go_ret2
                refine ⟨?_, ?_⟩
                · have hx : insErr op a b n l.length = 26 := by rw [Hx0.out, hN]; exact if_pos (by omega)
                  rw [Hfin.out (by rw [hx]; decide), hx]; rfl
                · clear hcw1 hfw1
                  have hB2 := HB.out
                  repeat (first | exact bel_refl _ | with_reducible apply bel_alloc | with_reducible apply bel_ext | with_reducible apply bel_drew | with_reducible apply bel_drewN | ((with_reducible refine bel_set ?_ (by simp <;> omega))) | ((with_reducible refine bel_trans ?_ (by assumption))))
              · skip
                go_wp2_with (go_at_call_of 82 (Value.int IntKind.u8 78); refine (hasN _ _).mono ?_; rintro e w2 ⟨rfl, rfl⟩)
                go_roundw
                case rel =>
                  have hx : insErr op a b n l.length = 0 := by rw [Hx0.out, hN]; exact if_neg (by omega)
                  refine ⟨k + 1, by omega, by go_num, Hnext.out (by rw [HE.out]; exact hx), ?_⟩
                  exact HR.out nq
                case measure => simp [intOf]; omega
          · skip
            by_cases n0 : n < 0
            · skip
              go_wp2_with (go_at_call_of 82 (Value.int IntKind.u8 78); refine (hasN _ _).mono ?_; rintro e w2 ⟨rfl, rfl⟩)
              go_ret2
              refine ⟨?_, ?_⟩
              · have hx : insErr op a b n l.length = 26 := by rw [Hx0.out, hN]; exact if_pos (by omega)
                rw [Hfin.out (by rw [hx]; decide), hx]; rfl
              · clear hcw1 hfw1
                have hB2 := HB.out
                repeat (first | exact bel_refl _ | with_reducible apply bel_alloc | with_reducible apply bel_ext | with_reducible apply bel_drew | with_reducible apply bel_drewN | ((with_reducible refine bel_set ?_ (by simp <;> omega))) | ((with_reducible refine bel_trans ?_ (by assumption))))
            · skip
              by_cases n1 : 15 < n
              · skip
                go_wp2_with (go_at_call_of 82 (Value.int IntKind.u8 78); refine (hasN _ _).mono ?_; rintro e w2 ⟨rfl, rfl⟩)
                go_ret2
                refine ⟨?_, ?_⟩
                · have hx : insErr op a b n l.length = 26 := by rw [Hx0.out, hN]; exact if_pos (by omega)
                  rw [Hfin.out (by rw [hx]; decide), hx]; rfl
                · clear hcw1 hfw1
                  have hB2 := HB.out
                  repeat (first | exact bel_refl _ | with_reducible apply bel_alloc | with_reducible apply bel_ext | with_reducible apply bel_drew | with_reducible apply bel_drewN | ((with_reducible refine bel_set ?_ (by simp <;> omega))) | ((with_reducible refine bel_trans ?_ (by assumption))))
              · skip
                go_wp2_with (go_at_call_of 82 (Value.int IntKind.u8 78); refine (hasN _ _).mono ?_; rintro e w2 ⟨rfl, rfl⟩)
                go_roundw
                case rel =>
                  have hx : insErr op a b n l.length = 0 := by rw [Hx0.out, hN]; exact if_neg (by omega)
                  refine ⟨k + 1, by omega, by go_num, Hnext.out (by rw [HE.out]; exact hx), ?_⟩
                  exact HR.out nq
                case measure => simp [intOf]; omega
          · skip
            by_cases n0 : n < 0
            · skip
              go_wp2_with (go_at_call_of 82 (Value.int IntKind.u8 78); refine (hasN _ _).mono ?_; rintro e w2 ⟨rfl, rfl⟩)
              go_ret2
              refine ⟨?_, ?_⟩
              · have hx : insErr op a b n l.length = 26 := by rw [Hx0.out, hN]; exact if_pos (by omega)
                rw [Hfin.out (by rw [hx]; decide), hx]; rfl
              · clear hcw1 hfw1
                have hB2 := HB.out
                repeat (first | exact bel_refl _ | with_reducible apply bel_alloc | with_reducible apply bel_ext | with_reducible apply bel_drew | with_reducible apply bel_drewN | ((with_reducible refine bel_set ?_ (by simp <;> omega))) | ((with_reducible refine bel_trans ?_ (by assumption))))
            · skip
              by_cases n1 : 15 < n
              · skip
                go_wp2_with (go_at_call_of 82 (Value.int IntKind.u8 78); refine (hasN _ _).mono ?_; rintro e w2 ⟨rfl, rfl⟩)
                go_ret2
                refine ⟨?_, ?_⟩
                · have hx : insErr op a b n l.length = 26 := by rw [Hx0.out, hN]; exact if_pos (by omega)
                  rw [Hfin.out (by rw [hx]; decide), hx]; rfl
                · clear hcw1 hfw1
                  have hB2 := HB.out
                  repeat (first | exact bel_refl _ | with_reducible apply bel_alloc | with_reducible apply bel_ext | with_reducible apply bel_drew | with_reducible apply bel_drewN | ((with_reducible refine bel_set ?_ (by simp <;> omega))) | ((with_reducible refine bel_trans ?_ (by assumption))))
              · skip
                go_wp2_with (go_at_call_of 82 (Value.int IntKind.u8 78); refine (hasN _ _).mono ?_; rintro e w2 ⟨rfl, rfl⟩)
                go_roundw
                case rel =>
                  have hx : insErr op a b n l.length = 0 := by rw [Hx0.out, hN]; exact if_neg (by omega)
                  refine ⟨k + 1, by omega, by go_num, Hnext.out (by rw [HE.out]; exact hx), ?_⟩
                  exact HR.out nq
                case measure => simp [intOf]; omega
          · skip
            go_wp2_with (go_at_call_of 82 (Value.int IntKind.u8 78); refine (hasN _ _).mono ?_; rintro e w2 ⟨rfl, rfl⟩)
            go_roundw
            case rel =>
              have hx : insErr op a b n l.length = 0 := by rw [Hx0.out, hN]
              refine ⟨k + 1, by omega, by go_num, Hnext.out (by rw [HE.out]; exact hx), ?_⟩
              exact HR.out nq
            case measure => simp [intOf]; omega
          · skip
            by_cases n0 : n = 0
            · have n0' : (n != 0) = false := by rw [n0]; rfl
              have N0 := Lib.hid n0
              clear n0
              go_wp2_with (go_at_call_of 82 (Value.int IntKind.u8 78); refine (hasN _ _).mono ?_; rintro e w2 ⟨rfl, rfl⟩)
              go_roundw
              case rel =>
                have hx : insErr op a b n l.length = 0 := by rw [Hx0.out, hN]; exact if_neg (by have := N0.out; omega)
                refine ⟨k + 1, by omega, by go_num, Hnext.out (by rw [HE.out]; exact hx), ?_⟩
                exact HR.out nq
              case measure => simp [intOf]; omega
            · have n0' : (n != 0) = true := by rw [bne_iff_ne]; exact n0
              go_wp2_with (go_at_call_of 82 (Value.int IntKind.u8 78); refine (hasN _ _).mono ?_; rintro e w2 ⟨rfl, rfl⟩)
              go_ret2
              refine ⟨?_, ?_⟩
              · have hx : insErr op a b n l.length = 26 := by rw [Hx0.out, hN]; exact if_pos (by omega)
                rw [Hfin.out (by rw [hx]; decide), hx]; rfl
              · clear hcw1 hfw1
                have hB2 := HB.out
                repeat (first | exact bel_refl _ | with_reducible apply bel_alloc | with_reducible apply bel_ext | with_reducible apply bel_drew | with_reducible apply bel_drewN | ((with_reducible refine bel_set ?_ (by simp <;> omega))) | ((with_reducible refine bel_trans ?_ (by assumption))))
    · obtain rfl : k = l.length := by omega
      have hfin : checkL l = if lastOp l = 4 ∨ lastOp l = 14 then (0, 0) else (32, (l.length : Int) - 1) := by
        simp only [checkL, firstErr_none l.length l 0 (fun j hj => Hall.out j hj hj)]
      obtain ⟨ad, hAd, c0, c1, c2, c3⟩ := (HA.out.below HB.out) (l.length - 1) (by omega)
      subst hAd
      have hl : lastOp l = l[l.length - 1].op := by simp [lastOp, List.getD, List.getElem?_eq_getElem (show l.length - 1 < l.length by omega)]
      rw [← hl] at c0
      clear hl c1 c2 c3
      generalize lastOp l = o at c0 hfin
      have Hfin := Lib.hid hfin
      clear hfin
      have e1 : ((l.length : Int) - 1).toNat = l.length - 1 := by omega
      by_cases h4 : o = 4
      · subst h4
        go_wp2_with fail
        go_ret2
        exact ⟨by rw [Hfin.out]; rfl, HB.out⟩
      · have h4' : (o != 4) = true := by rw [bne_iff_ne]; exact h4
        by_cases h14 : o = 14
        · subst h14
          go_wp2_with fail
          go_ret2
          exact ⟨by rw [Hfin.out]; rfl, HB.out⟩
        · have h14' : (o != 14) = true := by rw [bne_iff_ne]; exact h14
          go_wp2_with fail
          go_region
          all_goals go_wp2_with fail
          all_goals go_ret2
          all_goals exact ⟨by rw [Hfin.out, if_neg (by omega)]; rfl, bel_drew HB.out⟩

theorem rcheck_any (prio : Int) (A : Option Addr) (c : Nat) (l : List Ins) (w : World) (hc : l.length ≤ c) (hA : InsAt w A l) (hwf : InsWf l) :
    Calls Try.prog 62 #[.agg #[.int .i64 prio, .slice A l.length c]] w (twoPost w (checkS prio l)) := by
  unfold checkS
  by_cases h : prio < 0 ∨ 3 < prio
  · rw [if_pos h]; exact rcheck_prio prio A _ c w h
  · rw [if_neg h]
    by_cases h2 : l.length = 0 ∨ 64 < l.length
    · rw [if_pos h2]; exact rcheck_len prio A _ c w (by omega) (by omega) h2
    · rw [if_neg h2]; exact rcheck_loop prio A c l w (by omega) (by omega) (by omega) (by omega) hc hA hwf

end Go.Proofs.Ytkegdcnnankokaa
