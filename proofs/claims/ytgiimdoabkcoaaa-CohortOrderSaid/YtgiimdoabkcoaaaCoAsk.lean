/-
New locks; Owner and Socket; the locks that there aren't.
-/
import Derived.Test.YtgiimdoabkcoaaaCoGive
namespace Go.Proofs.Ytgiimdoabkcoaaa.Co
set_option linter.unusedVariables false
set_option linter.unusedSimpArgs false
open Go.RowKit Go.Proofs.YtgiimdoabkcoaaaW.PrintWords Go.Proofs.YtgiimdoabkcoaaaW.PrintLast Go.Proofs.YtgiimdoabkcoaaaW.PrintMore
attribute [local go_sem] max2_int min2_int
theorem infoLock : (Try.prog.info? 152).map (fun i => (i.zero, i.size, i.bytes)) = some (some (.agg #[.bool false, .int .i64 0, .int .i64 0, .int .i64 0, .slice none 0 0]), 5, 56) := by kernel_rfl
theorem own_head {α : Type} {d : Kd α} {e base n c b : Nat} {w : World} {ok : Nat → Prop} {A : Option Addr} {xs : List α} (h : Kd.S d e w base ok (.slice A n c) xs) (hb : (Value.slice A n c).ownBlock = some b) : ∃ lb, A = some ⟨lb, 0, none⟩ := by
  cases A with
  | none => cases hb
  | some ad =>
    obtain ⟨g, hg⟩ := Kd.R_head (Kd.S_R h)
    exact ⟨g, by rw [hg]⟩
def clampN (n : Int) : Int := max 0 (min n 16)
theorem clampN_b (n : Int) : 0 ≤ clampN n ∧ clampN n ≤ 16 := by unfold clampN; omega
section
variable {w : World} {F : Nat → Prop} {h lb : Nat} {xs : List LS}
set_option maxRecDepth 100000 in
set_option maxHeartbeats 8000000 in
theorem new_any (w : World) (n : Int) : Calls Try.prog 47 #[.int .i64 n] w fun e w' => ∃ h lb, e = .returned (.pointer (some ⟨h, 0, none⟩)) ∧ LocksAt w' (fun k => w.heap.size ≤ k) h lb (List.replicate (clampN n).toNat ls0) ∧ Below w.heap.size w w' := by
  obtain ⟨hc0, hc1⟩ := clampN_b n
  have hmx : max 0 (min n 16) = clampN n := rfl
  obtain ⟨m, hm⟩ : ∃ m, clampN n = m := ⟨_, rfl⟩
  rw [hm] at hc0 hc1 hmx ⊢
  clear hm
  go_enter Try.func47, Try.ntmps47
  have hl : m.toNat * 56 ≤ 281474976710656 := by omega
  go_wp2_with (first | (refine Kd.S_make kLock (w0 := w) w.heap.size 152 rfl rfl 145 _ _ rfl m rfl rfl Try.underlying145 _ 56 infoLock rfl (by decide) (by decide) ls0 (ok := fun k => w.heap.size ≤ k) (okp := fun _ => False) (kLock_mk (x := ls0) (Kd.S_nil kRow 154 _ _ _)) (fun _ q => q.elim) (Nat.le_refl _) hc0 hl (Below.refl _ _) (Nat.le_refl _) ?_; intro v1 w1 hS hB hg hb; obtain ⟨b, hb1, hb2⟩ := hb; obtain ⟨A, c, hv⟩ := Kd.S_slice hS; rw [hv] at hS hb1; obtain ⟨lb, hlb⟩ : ∃ lb, A = some ⟨lb, 0, none⟩ := own_head hS hb1; rw [hlb] at hv hS; rw [hv]; obtain ⟨m9, hm9⟩ : ∃ m9, (List.replicate m.toNat ls0).length = m9 := ⟨_, rfl⟩; rw [hm9] at hS ⊢; have HS := Lib.hid hS; have HB := Lib.hid hB; have HM := Lib.hid hm9; clear hS hB hg hb1 hb2 hv hlb hm9) | fail)
  go_ret
  refine ⟨w1.heap.size, lb, rfl, ⟨HB.out.size, c, ?_, ?_⟩, (HB.out).alloc HB.out.size _⟩
  · rw [HM.out]; exact Array.getElem?_push_size
  · rw [HM.out]
    exact Kd.S_mono (Kd.S_lower (Kd.S_alloc HS.out _) (Nat.zero_le _)) (fun _ q => q)
set_option maxRecDepth 100000 in
set_option maxHeartbeats 8000000 in
theorem owner_any (L : LocksAt w F h lb xs) (n : Int) : Calls Try.prog 49 #[.pointer (some ⟨h, 0, none⟩), .int .i64 n] w fun e w' => e = .returned (if 0 ≤ n ∧ n < (xs.length : Int) ∧ (xs.getD n.toNat ls0).held = true then .tuple #[.int .i64 (xs.getD n.toNat ls0).owner, .bool true] else .tuple #[.int .i64 0, .bool false]) ∧ w' = w := by
  have hAt := at_any L n
  unfold atV at hAt
  by_cases hn : 0 ≤ n ∧ n < (xs.length : Int)
  · rw [if_pos hn] at hAt
    obtain ⟨i, rfl⟩ : ∃ i : Nat, n = (i : Int) := ⟨n.toNat, by omega⟩
    rw [Int.toNat_natCast] at hAt ⊢
    obtain ⟨_, _, c0, c1, _, _, _, _, _, _⟩ := L.c i (by omega)
    generalize xs.getD i ls0 = x at *
    have HAt := Lib.hid hAt
    clear hAt L
    unfold lkp at HAt
    cases hh : x.held with
    | true =>
      rw [if_pos ⟨hn.1, hn.2, rfl⟩]
      rw [hh] at c0
      clear hn
      go_enter Try.func49, Try.ntmps49
      go_wp2_with (first | (go_at_call 98; refine (HAt.out).mono ?_; rintro e w1 ⟨rfl, hw9⟩; rw [hw9]; clear hw9) | fail)
      go_ret2
      exact ⟨rfl, rfl⟩
    | false =>
      rw [if_neg (fun q => by simp at q)]
      rw [hh] at c0
      clear hn
      go_enter Try.func49, Try.ntmps49
      go_wp2_with (first | (go_at_call 98; refine (HAt.out).mono ?_; rintro e w1 ⟨rfl, hw9⟩; rw [hw9]; clear hw9) | fail)
      go_ret2
      exact ⟨rfl, rfl⟩
  · rw [if_neg hn] at hAt
    rw [if_neg (fun q => hn ⟨q.1, q.2.1⟩)]
    have HAt := Lib.hid hAt
    clear hAt L hn
    go_enter Try.func49, Try.ntmps49
    go_wp2_with (first | (go_at_call 98; refine (HAt.out).mono ?_; rintro e w1 ⟨rfl, hw9⟩; rw [hw9]; clear hw9) | fail)
    go_ret2
    exact ⟨rfl, rfl⟩
set_option maxRecDepth 100000 in
set_option maxHeartbeats 8000000 in
theorem socket_any (L : LocksAt w F h lb xs) {i : Nat} (hi : i < xs.length) : Calls Try.prog 52 #[.pointer (some ⟨h, 0, none⟩), .int .i64 (i : Int)] w fun e w' => e = .returned (.int .i64 (xs.getD i ls0).socket) ∧ w' = w := by
  have hAt := at_any L (i : Int)
  unfold atV at hAt
  rw [if_pos ⟨by omega, by omega⟩, Int.toNat_natCast] at hAt
  obtain ⟨_, _, _, _, c2, _, _, _, _, _⟩ := L.c i hi
  generalize xs.getD i ls0 = x at *
  have HAt := Lib.hid hAt
  clear hAt L
  unfold lkp at HAt
  go_enter Try.func52, Try.ntmps52
  go_wp2_with (first | (go_at_call 98; refine (HAt.out).mono ?_; rintro e w1 ⟨rfl, hw9⟩; rw [hw9]; clear hw9) | fail)
  go_ret
  exact ⟨rfl, rfl⟩
end
/-! no locks at all -/
theorem nil_len (w : World) : Calls Try.prog 56 #[.pointer none] w fun e w' => e = .returned (.int .i64 0) ∧ w' = w := by
  go_enter Try.func56, Try.ntmps56
  go_wp2
  go_ret
  exact ⟨rfl, rfl⟩
theorem nil_at (w : World) : Calls Try.prog 98 #[.pointer none, .int .i64 0] w fun e w' => e = .returned (.pointer none) ∧ w' = w := by
  have hLen := Lib.hid (nil_len w)
  go_enter Try.func98, Try.ntmps98
  go_wp2_with (first | (go_at_call 56; refine (hLen.out).mono ?_; rintro e w1 ⟨rfl, hw9⟩; rw [hw9]; clear hw9) | fail)
  go_ret
  exact ⟨rfl, rfl⟩
set_option maxRecDepth 100000 in
set_option maxHeartbeats 8000000 in
theorem nil_take (w : World) (t s : Int) : Calls Try.prog 48 #[.pointer none, .int .i64 0, .int .i64 t, .int .i64 s] w fun e w' => e = .returned (tkV false 3) ∧ w' = w := by
  have HAt := Lib.hid (nil_at w)
  go_enter Try.func48, Try.ntmps48
  go_wp2_with (first | (go_at_call 98; refine (HAt.out).mono ?_; rintro e w1 ⟨rfl, hw9⟩; rw [hw9]; clear hw9) | fail)
  go_ret2
  exact ⟨rfl, rfl⟩
set_option maxRecDepth 100000 in
set_option maxHeartbeats 8000000 in
theorem nil_give (w : World) (t : Int) : Calls Try.prog 50 #[.pointer none, .int .i64 0, .int .i64 t] w fun e w' => e = .returned (gvV 0 false 3) ∧ w' = w := by
  have HAt := Lib.hid (nil_at w)
  go_enter Try.func50, Try.ntmps50
  go_wp2_with (first | (go_at_call 98; refine (HAt.out).mono ?_; rintro e w1 ⟨rfl, hw9⟩; rw [hw9]; clear hw9) | fail)
  go_ret3
  exact ⟨rfl, rfl⟩
set_option maxRecDepth 100000 in
theorem nil_owner (w : World) : Calls Try.prog 49 #[.pointer none, .int .i64 0] w fun e w' => e = .returned (.tuple #[.int .i64 0, .bool false]) ∧ w' = w := by
  have HAt := Lib.hid (nil_at w)
  go_enter Try.func49, Try.ntmps49
  go_wp2_with (first | (go_at_call 98; refine (HAt.out).mono ?_; rintro e w1 ⟨rfl, hw9⟩; rw [hw9]; clear hw9) | fail)
  go_ret2
  exact ⟨rfl, rfl⟩
set_option maxRecDepth 100000 in
theorem nil_waiting (w : World) : Calls Try.prog 53 #[.pointer none, .int .i64 0] w fun e w' => e = .returned (.slice none 0 0) ∧ w' = w := by
  have HAt := Lib.hid (nil_at w)
  go_enter Try.func53, Try.ntmps53
  go_wp2_with (first | (go_at_call 98; refine (HAt.out).mono ?_; rintro e w1 ⟨rfl, hw9⟩; rw [hw9]; clear hw9) | fail)
  go_ret
  exact ⟨rfl, rfl⟩
set_option maxRecDepth 100000 in
theorem nil_owned (w : World) (t : Int) : Calls Try.prog 57 #[.pointer none, .int .i64 t] w fun e w' => e = .returned (.slice none 0 0) ∧ w' = w := by
  have hLen := Lib.hid (nil_len w)
  go_enter Try.func57, Try.ntmps57
  go_wp2_with (first | (go_at_call 56; refine (hLen.out).mono ?_; rintro e w1 ⟨rfl, hw9⟩; rw [hw9]; clear hw9) | fail)
  go_loopg [4, 10] 0 (fun gg v4 v10 wr => v4 = .slice none 0 0 ∧ v10 = .int .i64 0 ∧ wr = w)
  case atStart => exact ⟨rfl, rfl, rfl⟩
  case round =>
    obtain ⟨rfl, rfl, rfl⟩ := hrel
    go_wp2
    go_ret
    exact ⟨rfl, rfl⟩
end Go.Proofs.Ytgiimdoabkcoaaa.Co
