/-
A lock's row and waits; the locks' Len and at.
-/
import Derived.Test.YtgiimdoabkcoaaaCoIdx
namespace Go.Proofs.Ytgiimdoabkcoaaa.Co
set_option linter.unusedVariables false
set_option linter.unusedSimpArgs false
open Go.RowKit Go.Proofs.YtgiimdoabkcoaaaW.PrintWords Go.Proofs.YtgiimdoabkcoaaaW.PrintLast Go.Proofs.YtgiimdoabkcoaaaW.PrintMore
/-- how large all may be. -/
def Sm (M : Nat) (x : LS) : Prop := x.round.length ≤ M ∧ ∀ p ∈ x.round, p.2.length ≤ M
def lkp (lb i : Nat) : Value := .pointer (some ⟨lb, i * 5, none⟩)
theorem fz_of_heap {w : World} {b : Nat} {cs : Array Value} {t : TypeId} (h : w.heap[b]? = some (.cells cs t (0, 0))) (i : Nat) : w.frozen? ⟨b, i, none⟩ = false := by
  unfold World.frozen?
  simp only [h]
  simp
theorem LocksAt.lt {w : World} {F : Nat → Prop} {h lb : Nat} {xs : List LS} (L : LocksAt w F h lb xs) : lb < w.heap.size := by
  obtain ⟨cap, _, row⟩ := L.ex
  exact Kd.S_lt row lb rfl
/-- one of the locks: its cells. -/
theorem LocksAt.c {w : World} {F : Nat → Prop} {h lb : Nat} {xs : List LS} (L : LocksAt w F h lb xs) (i : Nat) (hi : i < xs.length) :
    ∃ (oki : Nat → Prop) (v : Value), w.cell? ⟨lb, i * 5, none⟩ = some (.bool (xs.getD i ls0).held) ∧ w.cell? ⟨lb, i * 5 + 1, none⟩ = some (.int .i64 (xs.getD i ls0).owner) ∧ w.cell? ⟨lb, i * 5 + 2, none⟩ = some (.int .i64 (xs.getD i ls0).socket) ∧ w.cell? ⟨lb, i * 5 + 3, none⟩ = some (.int .i64 (xs.getD i ls0).passes) ∧ w.cell? ⟨lb, i * 5 + 4, none⟩ = some v ∧
      SRow w oki v (xs.getD i ls0).round ∧ (∀ k, oki k → F k) ∧ ∀ j, w.frozen? ⟨lb, j, none⟩ = false := by
  obtain ⟨oki, v, cur, h1, h2, h3, h4, h5, _⟩ := L.at i hi
  exact ⟨oki, v, cell_of_heap h1 (h3 0 (by omega)), cell_of_heap h1 (h3 1 (by omega)), cell_of_heap h1 (h3 2 (by omega)), cell_of_heap h1 (h3 3 (by omega)), cell_of_heap h1 (h3 4 (by omega)), h4, fun k hk => (h5 k hk).1, fz_of_heap h1⟩
section
variable {w : World} {F : Nat → Prop} {h lb : Nat} {xs : List LS}
set_option maxHeartbeats 2000000 in
theorem row_any (L : LocksAt w F h lb xs) (i : Nat) (hi : i < xs.length) (hs : Sm 1000000 (xs.getD i ls0)) (s : Int) :
    Calls Try.prog 100 #[lkp lb i, .int .i64 s] w fun e w' => e = .returned (.int .i64 (oI (rowI (xs.getD i ls0).round s))) ∧ Below w.heap.size w w' := by
  obtain ⟨oki, v, _, _, _, _, c4, hv, _, _⟩ := L.c i hi
  have hlt := L.lt
  have hne : lb ≠ w.heap.size := by omega
  obtain ⟨r, hr⟩ : ∃ r, (xs.getD i ls0).round = r := ⟨_, rfl⟩
  have hcall := Lib.hid (idx_any (Kd.R_below (Kd.S_R hv) ((Below.refl w.heap.size w).alloc (Nat.le_refl _) (.cells #[.int .i64 s] 3))) 131 #[.pointer (some ⟨w.heap.size, 0, none⟩)] (fun p => decide (p.1 = s)) (enters_of Try.func131 (by kernel_rfl) rfl)
    (fun W hb x _ vv _ _ => row1_any s w.heap.size W (hb.cell (p := ⟨w.heap.size, 0, none⟩) (by simp) |>.trans (by simp)) x vv) hs.1)
  have h0 : (Below w.heap.size w (w.alloc (.cells #[.int .i64 s] 3))) := (Below.refl w.heap.size w).alloc (Nat.le_refl _) _
  have H0 := Lib.hid h0
  have HS := Lib.hid hs
  clear hs hv L h0
  rw [hr] at hcall ⊢
  unfold rowI
  clear hr
  generalize oI (r.findIdx? (fun p => decide (p.1 = s))) = z at hcall ⊢
  unfold lkp
  go_enter Try.func100, Try.ntmps100
  go_wp2_with (first | (go_at_call 130; refine (hcall.out).mono ?_; rintro e w1 ⟨rfl, hb⟩) | fail)
  go_ret
  exact ⟨rfl, Below_trans H0.out hb⟩
set_option maxHeartbeats 2000000 in
theorem waits_any (L : LocksAt w F h lb xs) (i : Nat) (hi : i < xs.length) (hs : Sm 1000000 (xs.getD i ls0)) (t : Int) :
    Calls Try.prog 99 #[lkp lb i, .int .i64 t] w fun e w' => e = .returned (.bool (waitsB (xs.getD i ls0).round t)) ∧ Below w.heap.size w w' := by
  obtain ⟨oki, v, _, _, _, _, c4, hv, _, _⟩ := L.c i hi
  have hlt := L.lt
  have hne : lb ≠ w.heap.size := by omega
  obtain ⟨r, hr⟩ : ∃ r, (xs.getD i ls0).round = r := ⟨_, rfl⟩
  have hcall := Lib.hid (has_any (Kd.R_below (Kd.S_R hv) ((Below.refl w.heap.size w).alloc (Nat.le_refl _) (.cells #[.int .i64 t] 3))) 128 #[.pointer (some ⟨w.heap.size, 0, none⟩)] (fun p => p.2.contains t) (enters_of Try.func128 (by kernel_rfl) rfl)
    (fun W hb x hx vv okx hR => waits1_any t w.heap.size W (hb.cell (p := ⟨w.heap.size, 0, none⟩) (by simp) |>.trans (by simp)) x vv okx hR (hs.2 x hx)) hs.1)
  have h0 : (Below w.heap.size w (w.alloc (.cells #[.int .i64 t] 3))) := (Below.refl w.heap.size w).alloc (Nat.le_refl _) _
  have H0 := Lib.hid h0
  have HS := Lib.hid hs
  clear hs hv L h0
  rw [hr] at hcall ⊢
  unfold waitsB
  clear hr
  generalize r.any (fun p => p.2.contains t) = z at hcall ⊢
  unfold lkp
  go_enter Try.func99, Try.ntmps99
  go_wp2_with (first | (go_at_call 127; refine (hcall.out).mono ?_; rintro e w1 ⟨rfl, hb⟩) | fail)
  go_ret
  exact ⟨rfl, Below_trans H0.out hb⟩
theorem len_any (L : LocksAt w F h lb xs) : Calls Try.prog 56 #[.pointer (some ⟨h, 0, none⟩)] w fun e w' => e = .returned (.int .i64 (xs.length : Int)) ∧ w' = w := by
  obtain ⟨cap, hd, _⟩ := L.ex
  have h0 : w.cell? ⟨h, 0, none⟩ = some (.slice (some ⟨lb, 0, none⟩) xs.length cap) := cell_of_heap hd rfl
  go_enter Try.func56, Try.ntmps56
  go_wp2
  go_ret
  exact ⟨rfl, rfl⟩
/-- the place of a lock, or nowhere. -/
def atV (lb : Nat) (len : Nat) (n : Int) : Value := if 0 ≤ n ∧ n < (len : Int) then lkp lb n.toNat else .pointer none
theorem at_any (L : LocksAt w F h lb xs) (n : Int) : Calls Try.prog 98 #[.pointer (some ⟨h, 0, none⟩), .int .i64 n] w fun e w' => e = .returned (atV lb xs.length n) ∧ w' = w := by
  have hLen := Lib.hid (len_any L)
  obtain ⟨cap, hd, row⟩ := L.ex
  have h0 : w.cell? ⟨h, 0, none⟩ = some (.slice (some ⟨lb, 0, none⟩) xs.length cap) := cell_of_heap hd rfl
  clear L row hd
  generalize xs.length = m at h0 hLen ⊢
  unfold atV lkp
  by_cases h1 : 0 ≤ n
  · by_cases h2 : n < (m : Int)
    · rw [if_pos ⟨h1, h2⟩]
      have b1 : decide (n < 0) = false := by simp [h1]
      have b2 : decide ((m : Int) ≤ n) = false := by simp [h2]
      go_enter Try.func98, Try.ntmps98
      go_wp2_with (first | (go_at_call 56; refine (hLen.out).mono ?_; rintro e w1 ⟨rfl, hw9⟩; rw [hw9]; clear hw9) | fail)
      go_ret
      exact ⟨rfl, rfl⟩
    · rw [if_neg (fun q => h2 q.2)]
      have b1 : decide (n < 0) = false := by simp [h1]
      have b2 : decide ((m : Int) ≤ n) = true := by simp; omega
      go_enter Try.func98, Try.ntmps98
      go_wp2_with (first | (go_at_call 56; refine (hLen.out).mono ?_; rintro e w1 ⟨rfl, hw9⟩; rw [hw9]; clear hw9) | fail)
      go_ret
      exact ⟨rfl, rfl⟩
  · rw [if_neg (fun q => h1 q.1)]
    have b1 : decide (n < 0) = true := by simp; omega
    go_enter Try.func98, Try.ntmps98
    go_wp2_with (first | (go_at_call 56; refine (hLen.out).mono ?_; rintro e w1 ⟨rfl, hw9⟩; rw [hw9]; clear hw9) | fail)
    go_ret
    exact ⟨rfl, rfl⟩
end
end Go.Proofs.Ytgiimdoabkcoaaa.Co
