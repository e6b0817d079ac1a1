/-
The document's example of heap: walked, by the contracts.
-/
import Derived.Test.YtkegdcnnankokaaHsDue
import Derived.Test.YtkegdcnnankokaaHeapLaw
namespace Go.Proofs.Ytkegdcnnankokaa.Hps
set_option linter.unusedVariables false
set_option linter.unusedSimpArgs false
open Go.Maps Go.RowKit Go.Proofs.YtkegdcnnankokaaW.PrintWords Go.Proofs.YtkegdcnnankokaaW.PrintLast Go.Proofs.YtkegdcnnankokaaW.PrintMore Hp
def sA : ByteArray := ⟨#[97]⟩
def sB : ByteArray := ⟨#[98]⟩
def sC : ByteArray := ⟨#[99]⟩
def sD : ByteArray := ⟨#[100]⟩
/-- an empty heap, just made. -/
theorem made (w : World) : HpAt (w.alloc (.cells #[.slice none 0 0, .map none, .int .i64 0] 123)) w.heap.size (fun k => k = w.heap.size) 0 0 [] 0 :=
  ⟨Nat.le_refl _, Nat.le_refl _, fun i j hi => absurd hi (by simp), fun i hi => absurd hi (by simp), .inl ⟨rfl, Array.getElem?_push_size, rfl⟩⟩
/-- what is put in, where it was not. -/
theorem put_new {w : World} {h N M seq : Nat} {F : Nat → Prop} {l s : List (It ByteArray)} (H : HpAt w h F N M l seq) (R : Rep l s) (hs : ∀ a ∈ s, a.f1 < (seq : Int)) (when : Int) (x : ByteArray) (hx : wfk x) (hn : s.any (fun e => decide (e.f2 = x)) = false) (hb : N + M + 3 ≤ 1000000) {t : List (It ByteArray)} (ht : ins ⟨when, (seq : Int), x⟩ s = t) :
    Calls Try.prog 66 #[.pointer (some ⟨h, 0, none⟩), .int .i64 when, .string x] w fun e w' => e = .returned (.bool true) ∧ ∃ F' l', HpAt w' h F' (N + M + 2) (M + 1) l' (seq + 1) ∧ Rep l' t ∧ (∀ a ∈ t, a.f1 < ((seq + 1 : Nat) : Int)) ∧ Fr F w w' ∧ ∀ k, F' k → F k ∨ w.heap.size ≤ k := by
  have hh := rep_has R x
  rw [hn] at hh
  refine (put_any H when x hx hb).mono ?_
  rintro e w' ⟨rfl, F', H', G, K⟩
  rw [hh] at H' ⊢
  refine ⟨rfl, F', _, H', ht ▸ rep_put R (p := ⟨when, (seq : Int), x⟩) (fun a ha q => ?_), fun a ha => ?_, G, K⟩
  · have := hs a ha
    have q' : a.f1 = (seq : Int) := q
    omega
  · rw [← ht, mem_ins] at ha
    rcases ha with ha | rfl
    · have := hs a ha; push_cast; omega
    · show (seq : Int) < _; push_cast; omega
theorem low_step {b : Nat} {w w1 w2 : World} {F : Nat → Prop} (B : Below b w w1) (C : ∀ k, F k → b ≤ k) (G : Fr F w1 w2) (hb : b ≤ w1.heap.size) : Below b w w2 := B.trans (G.to_below hb C)
theorem low_foot {b : Nat} {w1 : World} {F F' : Nat → Prop} (hb : b ≤ w1.heap.size) (C : ∀ k, F k → b ≤ k) (K : ∀ k, F' k → F k ∨ w1.heap.size ≤ k) : ∀ k, F' k → b ≤ k := fun k hk => (K k hk).elim (C k) (fun q => Nat.le_trans hb q)
theorem t1 : ins (⟨5, ((0 : Nat) : Int), sA⟩ : It ByteArray) [] = [⟨5, 0, sA⟩] := rfl
theorem t2 : ins (⟨3, ((1 : Nat) : Int), sB⟩ : It ByteArray) [⟨5, 0, sA⟩] = [⟨3, 1, sB⟩, ⟨5, 0, sA⟩] := rfl
theorem t3 : ins (⟨5, ((2 : Nat) : Int), sC⟩ : It ByteArray) [⟨3, 1, sB⟩, ⟨5, 0, sA⟩] = [⟨3, 1, sB⟩, ⟨5, 0, sA⟩, ⟨5, 2, sC⟩] := rfl
theorem t4 : ins (⟨3, ((3 : Nat) : Int), sD⟩ : It ByteArray) [⟨3, 1, sB⟩, ⟨5, 0, sA⟩, ⟨5, 2, sC⟩] = [⟨3, 1, sB⟩, ⟨3, 3, sD⟩, ⟨5, 0, sA⟩, ⟨5, 2, sC⟩] := rfl
set_option maxRecDepth 100000 in
set_option maxHeartbeats 8000000 in
theorem lives_any (w : World) : Calls Try.prog 38 #[] w fun e w' => e = .returned (.bool true) ∧ Below w.heap.size w w' := by
  go_enter Try.func38, Try.ntmps38
  go_upto_region 2 with (fail)
  obtain ⟨W0, hW0⟩ : ∃ W0, w.alloc (.cells #[.slice none 0 0, .map none, .int .i64 0] 123) = W0 := ⟨_, rfl⟩
  obtain ⟨b, hb⟩ : ∃ b, w.heap.size = b := ⟨_, rfl⟩
  have H0 := made w
  have G0 : Fr (fun _ => False) w W0 := hW0 ▸ Fr.of_below _ ((Below.refl w.heap.size w).alloc (Nat.le_refl _) _)
  rw [hW0, hb] at H0 ⊢
  have R0 : Rep ([] : List (It ByteArray)) [] := rep_nil
  have S0 : ∀ a ∈ ([] : List (It ByteArray)), a.f1 < ((0 : Nat) : Int) := fun a ha => absurd ha (by simp)
  have B0 : Below b w W0 := G0.to_below (by rw [hb]; exact Nat.le_refl _) (fun _ q => q.elim)
  have C0 : ∀ k, k = b → b ≤ k := fun k hk => by rw [hk]; exact Nat.le_refl _
  clear hW0
  have P1 := Aside0.mk (put_new H0 R0 S0 5 sA (show wfk sA from by unfold wfk; decide) (by decide) (by decide) t1)
  go_upto_region 3 with (first
    | (go_at_call 66; refine (P1.out).mono ?_; rintro e w1 ⟨rfl, F1, l1, H1, R1, S1, G1, K1⟩)
    | fail)
  have B1 := low_step B0 C0 G1 (hb ▸ B0.size)
  have C1 := low_foot (hb ▸ B0.size) C0 K1
  have P2 := Aside0.mk (put_new H1 R1 S1 3 sB (show wfk sB from by unfold wfk; decide) (by decide) (by decide) t2)
  go_upto_region 4 with (first
    | (go_at_call 66; refine (P2.out).mono ?_; rintro e w2 ⟨rfl, F2, l2, H2, R2, S2, G2, K2⟩)
    | fail)
  have B2 := low_step B1 C1 G2 (hb ▸ B1.size)
  have C2 := low_foot (hb ▸ B1.size) C1 K2
  have P3 := Aside0.mk (put_new H2 R2 S2 5 sC (show wfk sC from by unfold wfk; decide) (by decide) (by decide) t3)
  go_upto_region 5 with (first
    | (go_at_call 66; refine (P3.out).mono ?_; rintro e w3 ⟨rfl, F3, l3, H3, R3, S3, G3, K3⟩)
    | fail)
  have B3 := low_step B2 C2 G3 (hb ▸ B2.size)
  have C3 := low_foot (hb ▸ B2.size) C2 K3
  have P4 := Aside0.mk (put_new H3 R3 S3 3 sD (show wfk sD from by unfold wfk; decide) (by decide) (by decide) t4)
  go_upto_region 6 with (first
    | (go_at_call 66; refine (P4.out).mono ?_; rintro e w4 ⟨rfl, F4, l4, H4, R4, S4, G4, K4⟩)
    | fail)
  have B4 := low_step B3 C3 G4 (hb ▸ B3.size)
  have C4 := low_foot (hb ▸ B3.size) C3 K4
  obtain ⟨i1, R5, A5⟩ := rep_due (now := 4) R4 H4.2.2.1
  have hl4 : l4.length = 4 := R4.len
  have D4 := Aside0.mk (due_any H4 4 (c := 11) rfl (by rw [hl4]; decide))
  rw [hl4] at D4
  obtain ⟨l5, hl5⟩ : ∃ l5, (dueP 4 l4).2 = l5 := ⟨_, rfl⟩
  have i2 : (dueP 4 l4).1 = [sB, sD] := i1
  have R5' : Rep l5 [⟨5, 0, sA⟩, ⟨5, 2, sC⟩] := hl5 ▸ R5
  rw [i2, hl5] at D4
  rw [hl5] at A5
  clear i1 i2 R5 hl5
  go_upto_region 7 with (first
    | (go_at_call 67; refine (D4.out).mono ?_; rintro e w5 ⟨v5, rfl, F5, N5, hN5, H5, G5, K5, Q5⟩)
    | fail)
  have B5 := low_step B4 C4 G5 (hb ▸ B4.size)
  have C5 := low_foot (hb ▸ B4.size) C4 K5
  obtain ⟨hp1, hp2⟩ := rep_first R5'
  have P6 := Aside0.mk (pop_any H5 (by have : N5 ≤ 0 + 0 + 2 + (0 + 1) + 2 + (0 + 1 + 1) + 2 + (0 + 1 + 1 + 1) + 2 + 4 * 11 := hN5; omega))
  have e6 : firstV l5 = .tuple #[.int .i64 5, .string ⟨#[97]⟩, .bool true] := by unfold firstV; rw [if_neg (by omega), hp2]; rfl
  have e7 : popP l5 = removeP l5 0 := by unfold popP; rw [if_neg (by omega)]
  have R7 := rep_pop R5' A5
  have h7 : (removeP l5 0).length = 1 := R7.len
  rw [e6, e7] at P6
  clear e6 e7 hp1 hp2
  go_upto_region 8 with (first
    | (go_at_call 68; refine (P6.out).mono ?_; rintro e w6 ⟨rfl, F6, H6, G6, K6⟩)
    | fail)
  have B6 := low_step B5 C5 G6 (hb ▸ B5.size)
  have Q6 : Kd.R Kd.string 9 w6 w4.heap.size (fun k => ¬ F6 k) v5 [sB, sD] := due_keep (kk := 0) Q5 H5 K6 G6
  obtain ⟨g, cap, rfl, _, _, _, _⟩ := Kd.R_form Q6 (by decide)
  obtain ⟨c0, _, m0, hc0, _⟩ := Kd.R_elem Q6 sA 0 (by decide) (by decide)
  obtain ⟨c1, _, m1, hc1, _⟩ := Kd.R_elem Q6 sA 1 (by decide) (by decide)
  obtain rfl : c0 = [.string sB] := m0
  obtain rfl : c1 = [.string sD] := m1
  have q0 : w6.cell? ⟨g, 0, none⟩ = some (.string ⟨#[98]⟩) := hc0 0 _ rfl
  have q1 : w6.cell? ⟨g, 1, none⟩ = some (.string ⟨#[100]⟩) := hc1 0 _ rfl
  have L7 := Aside0.mk (len_any H6)
  rw [h7] at L7
  go_wp2_with (first
    | (go_at_call 69; refine (L7.out).mono ?_; rintro e w9 ⟨rfl, hw9⟩; rw [hw9]; clear hw9)
    | fail)
  go_ret
  exact ⟨rfl, hb.symm ▸ B6⟩
end Go.Proofs.Ytkegdcnnankokaa.Hps
