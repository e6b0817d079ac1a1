/-
The reference's Step (pinfoldref10) for every program, place and registers.
-/
import Derived.Test.YtkegdcnnankokaaRefStep
namespace Go.Proofs.Ytkegdcnnankokaa
set_option linter.unusedVariables false
set_option linter.unusedSimpArgs false
open Go.RowKit

set_option maxRecDepth 100000 in
set_option maxHeartbeats 4000000 in
theorem rstep_bad (prio pc : Int) (r : Regs) (A : Option Addr) (c : Nat) (l : List Ins) (w : World) (hc : l.length ≤ c) (hA : InsAt w A l) (hwf : InsWf l) (E : Int × Int) (hE : checkS prio l = E)
    (h : (E.1 != 0) = true ∨ ((E.1 != 0) = false ∧ pc < 0) ∨ ((E.1 != 0) = false ∧ 0 ≤ pc ∧ (l.length : Int) ≤ pc)) :
    Calls Try.prog 30 #[.agg #[.int .i64 prio, .slice A l.length c], .int .i64 pc, .agg #[.int .i32 (r).r0, .int .i32 (r).r1, .int .i32 (r).r2, .int .i32 (r).r3]] w (resPost w ⟨pc, r, 14, 0, -1⟩) := by
  have HC := fun w (hA : InsAt w A l) => rcheck_any prio A c l w hc hA hwf
  rw [hE] at HC
  have HA := Lib.hid hA
  clear hA hE hwf
  obtain ⟨E1, E2⟩ := E
  simp only at h
  have HC' := Lib.hid HC
  clear HC
  rcases h with h | ⟨h, h2⟩ | ⟨h, h2, h3⟩
  all_goals
    go_enter Try.func30, Try.ntmps30
    go_wp2_with fail
    refine (HC'.out _ (HA.out.below (by repeat (first | exact bel_refl _ | with_reducible apply bel_alloc | with_reducible apply bel_ext | with_reducible apply bel_drew | with_reducible apply bel_drewN | ((with_reducible refine bel_set ?_ (by simp <;> omega))) | ((with_reducible refine bel_trans ?_ (by assumption))))))).mono ?_
    rintro e wx1 ⟨rfl, hb1⟩; obtain ⟨os1, d1, rfl⟩ := World.ext_of_below hb1; clear hb1
    go_wp2_with fail
    all_goals (first | go_region | skip)
    all_goals go_wp2
    all_goals
      refine bodyPost_ret (v := .tuple #[.int .i64 _, .agg #[_, _, _, _], .agg #[_, _, _]]) (by simp [results, Try.results30, go_sem] <;> first | rfl | decide) rfl ⟨rfl, ?_⟩
      repeat (first | exact bel_refl _ | with_reducible apply bel_alloc | with_reducible apply bel_ext | with_reducible apply bel_drew | with_reducible apply bel_drewN | ((with_reducible refine bel_set ?_ (by simp <;> omega))) | ((with_reducible refine bel_trans ?_ (by assumption))))

theorem rstep_good (prio : Int) (r : Regs) (hr : r.ok) (A : Option Addr) (c : Nat) (l : List Ins) (w : World) (hc : l.length ≤ c) (hA : InsAt w A l) (hwf : InsWf l) (E2 : Int) (hE : checkS prio l = (0, E2))
    (k : Nat) (hk : k < l.length) :
    Calls Try.prog 30 #[.agg #[.int .i64 prio, .slice A l.length c], .int .i64 k, .agg #[.int .i32 (r).r0, .int .i32 (r).r1, .int .i32 (r).r2, .int .i32 (r).r3]] w (resPost w (stepS l[k] k r)) := by
  have hok := checkS_ok (prio := prio) (l := l) (by rw [hE])
  have hlen := hok.2.1
  have HC := fun w (hA : InsAt w A l) => rcheck_any prio A c l w hc hA hwf
  rw [hE] at HC
  obtain ⟨ad, rfl, c0, c1, c2, c3⟩ := hA k hk
  have HC' := Lib.hid HC
  obtain ⟨⟨o1, o2⟩, ⟨a1, a2⟩, ⟨b1, b2⟩, hj⟩ := insOK_parts (hok.2.2 k hk)
  generalize l[k] = x at *
  obtain ⟨op, a, b, n⟩ := x
  simp only at o1 o2 a1 a2 b1 b2 hj c0 c1 c2 c3
  have ho : op = 1 ∨ op = 2 ∨ op = 3 ∨ op = 4 ∨ op = 5 ∨ op = 6 ∨ op = 7 ∨ op = 8 ∨ op = 9 ∨ op = 10 ∨ op = 11 ∨ op = 12 ∨ op = 13 ∨ op = 14 := by omega
  rcases ho with rfl | rfl | rfl | rfl | rfl | rfl | rfl | rfl | rfl | rfl | rfl | rfl | rfl | rfl
  · exact rstep1 prio r ad c l w hc hA E2 HC' k hk hlen a b n a1 a2 c0 c1 c2 c3
  · exact rstep2 prio r ad c l w hc hA E2 HC' k hk hlen a b n a1 a2 b1 b2 (in32_get hr a) (in32_get hr b) c0 c1 c2 c3
  · exact rstep3 prio r ad c l w hc hA E2 HC' k hk hlen a b n a1 a2 b1 b2 (in32_get hr a) (in32_get hr b) c0 c1 c2 c3
  · obtain ⟨n1, n2⟩ := hj (.inl rfl)
    exact rstep4 prio r ad c l w hc hA E2 HC' k hk hlen a b n n1 (by omega) c0 c1 c2 c3
  · obtain ⟨n1, n2⟩ := hj (.inr rfl)
    by_cases hz : r.get a = 0
    · have e : stepS ⟨5, a, b, n⟩ k r = ⟨k + 1, r, 0, 0, 0⟩ := by simp [stepS, hz]
      rw [e]; exact rstep5z prio r ad c l w hc hA E2 HC' k hk hlen a b n a1 a2 n1 (by omega) hz c0 c1 c2 c3
    · have e : stepS ⟨5, a, b, n⟩ k r = ⟨n, r, 0, 0, 0⟩ := by simp [stepS, hz]
      rw [e]; exact rstep5n prio r ad c l w hc hA E2 HC' k hk hlen a b n a1 a2 n1 (by omega) hz c0 c1 c2 c3
  · exact rstep6 prio r ad c l w hc hA E2 HC' k hk hlen a b n c0 c1 c2 c3
  · exact rstep7 prio r ad c l w hc hA E2 HC' k hk hlen a b n c0 c1 c2 c3
  · exact rstep8 prio r ad c l w hc hA E2 HC' k hk hlen a b n a1 a2 c0 c1 c2 c3
  · exact rstep9 prio r ad c l w hc hA E2 HC' k hk hlen a b n c0 c1 c2 c3
  · exact rstep10 prio r ad c l w hc hA E2 HC' k hk hlen a b n c0 c1 c2 c3
  · exact rstep11 prio r ad c l w hc hA E2 HC' k hk hlen a b n a1 a2 c0 c1 c2 c3
  · exact rstep12 prio r ad c l w hc hA E2 HC' k hk hlen a b n c0 c1 c2 c3
  · exact rstep13 prio r ad c l w hc hA E2 HC' k hk hlen a b n a1 a2 c0 c1 c2 c3
  · exact rstep14 prio r ad c l w hc hA E2 HC' k hk hlen a b n a1 a2 c0 c1 c2 c3

theorem rstep_top (prio pc : Int) (r : Regs) (hr : r.ok) (A : Option Addr) (c : Nat) (l : List Ins) (w : World) (hc : l.length ≤ c) (hA : InsAt w A l) (hwf : InsWf l) :
    Calls Try.prog 30 #[.agg #[.int .i64 prio, .slice A l.length c], .int .i64 pc, .agg #[.int .i32 (r).r0, .int .i32 (r).r1, .int .i32 (r).r2, .int .i32 (r).r3]] w (resPost w (stepTop prio l pc r)) := by
  unfold stepTop
  by_cases h : (checkS prio l).1 ≠ 0 ∨ pc < 0 ∨ (l.length : Int) ≤ pc
  · rw [if_pos h]
    refine rstep_bad prio pc r A c l w hc hA hwf _ rfl ?_
    by_cases h1 : (checkS prio l).1 = 0
    · have h1' : ((checkS prio l).1 != 0) = false := by rw [h1]; rfl
      right
      rcases h with h | h | h
      · exact absurd h1 h
      · exact .inl ⟨h1', h⟩
      · exact .inr ⟨h1', by omega, h⟩
    · exact .inl (by rw [bne_iff_ne]; exact h1)
  · rw [if_neg h]
    obtain ⟨k, rfl⟩ := Int.eq_ofNat_of_zero_le (show 0 ≤ pc by omega)
    have hk : k < l.length := by omega
    have e : l.getD (Int.toNat (k : Int)) default = l[k] := by simp [List.getD, List.getElem?_eq_getElem hk]
    rw [e]
    exact rstep_good prio r hr A c l w hc hA hwf (checkS prio l).2 (by rw [← show (checkS prio l).1 = 0 by omega]) k hk

end Go.Proofs.Ytkegdcnnankokaa
