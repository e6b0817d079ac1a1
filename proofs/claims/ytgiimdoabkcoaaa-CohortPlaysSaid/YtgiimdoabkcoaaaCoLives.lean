import Derived.Test.YtgiimdoabkcoaaaCoGive
/-
New locks; Owner and Socket; the locks that there aren't.
-/
namespace Go.Proofs.Ytgiimdoabkcoaaa.Co
set_option linter.unusedVariables false
set_option linter.unusedSimpArgs false
open Go.RowKit Go.Proofs.YtgiimdoabkcoaaaW.PrintWords Go.Proofs.YtgiimdoabkcoaaaW.PrintLast Go.Proofs.YtgiimdoabkcoaaaW.PrintMore
attribute [local go_sem] max2_int min2_int
theorem infoLock : (Try.prog.info? 152).map (fun i => (i.zero, i.size, i.bytes)) = some (some (.agg #[.bool false, .int .i64 0, .int .i64 0, .int .i64 0, .slice none 0 0]), 5, 56) := by kernel_rfl
theorem own_head {α : Type} {d : Kd α} {e base n c b : Nat} {w : World} {ok : Nat → Prop} {A : Option Addr} {xs : List α} (h : Kd.S d e w base ok (.slice A n c) xs) (hb : (Value.slice A n c).ownBlock = some b) : ∃ lb, A = some ⟨lb, 0, none⟩ := by
  cases A with
  | none => cases hb
  | some ad =>
    obtain ⟨g, hg⟩ := Kd.R_head (Kd.S_R h)
    exact ⟨g, by rw [hg]⟩
def clampN (n : Int) : Int := max 0 (min n 16)
theorem clampN_b (n : Int) : 0 ≤ clampN n ∧ clampN n ≤ 16 := by unfold clampN; omega
section
variable {w : World} {F : Nat → Prop} {h lb : Nat} {xs : List LS}
set_option maxRecDepth 100000 in
set_option maxHeartbeats 8000000 in
theorem new_any (w : World) (n : Int) : Calls Try.prog 47 #[.int .i64 n] w fun e w' => ∃ h lb, e = .returned (.pointer (some ⟨h, 0, none⟩)) ∧ LocksAt w' (fun k => w.heap.size ≤ k) h lb (List.replicate (clampN n).toNat ls0) ∧ Below w.heap.size w w' := by
  obtain ⟨hc0, hc1⟩ := clampN_b n
  have hmx : max 0 (min n 16) = clampN n := rfl
  obtain ⟨m, hm⟩ : ∃ m, clampN n = m := ⟨_, rfl⟩
  rw [hm] at hc0 hc1 hmx ⊢
  clear hm
  go_enter Try.func47, Try.ntmps47
  have hl : m.toNat * 56 ≤ 281474976710656 := by omega
  go_wp2_with (first | (refine Kd.S_make kLock (w0 := w) w.heap.size 152 rfl rfl 145 _ _ rfl m rfl rfl Try.underlying145 _ 56 infoLock rfl (by decide) (by decide) ls0 (ok := fun k => w.heap.size ≤ k) (okp := fun _ => False) (kLock_mk (x := ls0) (Kd.S_nil kRow 154 _ _ _)) (fun _ q => q.elim) (Nat.le_refl _) hc0 hl (Below.refl _ _) (Nat.le_refl _) ?_; intro v1 w1 hS hB hg hb; obtain ⟨b, hb1, hb2⟩ := hb; obtain ⟨A, c, hv⟩ := Kd.S_slice hS; rw [hv] at hS hb1; obtain ⟨lb, hlb⟩ : ∃ lb, A = some ⟨lb, 0, none⟩ := own_head hS hb1; rw [hlb] at hv hS; rw [hv]; obtain ⟨m9, hm9⟩ : ∃ m9, (List.replicate m.toNat ls0).length = m9 := ⟨_, rfl⟩; rw [hm9] at hS ⊢; have HS := Lib.hid hS; have HB := Lib.hid hB; have HM := Lib.hid hm9; clear hS hB hg hb1 hb2 hv hlb hm9) | fail)
  go_ret
  refine ⟨w1.heap.size, lb, rfl, ⟨HB.out.size, c, ?_, ?_⟩, (HB.out).alloc HB.out.size _⟩
  · rw [HM.out]; exact Array.getElem?_push_size
  · rw [HM.out]
    exact Kd.S_mono (Kd.S_lower (Kd.S_alloc HS.out _) (Nat.zero_le _)) (fun _ q => q)
set_option maxRecDepth 100000 in
set_option maxHeartbeats 8000000 in
theorem owner_any (L : LocksAt w F h lb xs) (n : Int) : Calls Try.prog 49 #[.pointer (some ⟨h, 0, none⟩), .int .i64 n] w fun e w' => e = .returned (if 0 ≤ n ∧ n < (xs.length : Int) ∧ (xs.getD n.toNat ls0).held = true then .tuple #[.int .i64 (xs.getD n.toNat ls0).owner, .bool true] else .tuple #[.int .i64 0, .bool false]) ∧ w' = w := by
  have hAt := at_any L n
  unfold atV at hAt
  by_cases hn : 0 ≤ n ∧ n < (xs.length : Int)
  · rw [if_pos hn] at hAt
    obtain ⟨i, rfl⟩ : ∃ i : Nat, n = (i : Int) := ⟨n.toNat, by omega⟩
    rw [Int.toNat_natCast] at hAt ⊢
    obtain ⟨_, _, c0, c1, _, _, _, _, _, _⟩ := L.c i (by omega)
    generalize xs.getD i ls0 = x at *
    have HAt := Lib.hid hAt
    clear hAt L
    unfold lkp at HAt
    cases hh : x.held with
    | true =>
      rw [if_pos ⟨hn.1, hn.2, rfl⟩]
      rw [hh] at c0
      clear hn
      go_enter Try.func49, Try.ntmps49
      go_wp2_with (first | (go_at_call 98; refine (HAt.out).mono ?_; rintro e w1 ⟨rfl, hw9⟩; rw [hw9]; clear hw9) | fail)
      go_ret2
      exact ⟨rfl, rfl⟩
    | false =>
      rw [if_neg (fun q => by simp at q)]
      rw [hh] at c0
      clear hn
      go_enter Try.func49, Try.ntmps49
      go_wp2_with (first | (go_at_call 98; refine (HAt.out).mono ?_; rintro e w1 ⟨rfl, hw9⟩; rw [hw9]; clear hw9) | fail)
      go_ret2
      exact ⟨rfl, rfl⟩
  · rw [if_neg hn] at hAt
    rw [if_neg (fun q => hn ⟨q.1, q.2.1⟩)]
    have HAt := Lib.hid hAt
    clear hAt L hn
    go_enter Try.func49, Try.ntmps49
    go_wp2_with (first | (go_at_call 98; refine (HAt.out).mono ?_; rintro e w1 ⟨rfl, hw9⟩; rw [hw9]; clear hw9) | fail)
    go_ret2
    exact ⟨rfl, rfl⟩
set_option maxRecDepth 100000 in
set_option maxHeartbeats 8000000 in
theorem socket_any (L : LocksAt w F h lb xs) {i : Nat} (hi : i < xs.length) : Calls Try.prog 52 #[.pointer (some ⟨h, 0, none⟩), .int .i64 (i : Int)] w fun e w' => e = .returned (.int .i64 (xs.getD i ls0).socket) ∧ w' = w := by
  have hAt := at_any L (i : Int)
  unfold atV at hAt
  rw [if_pos ⟨by omega, by omega⟩, Int.toNat_natCast] at hAt
  obtain ⟨_, _, _, _, c2, _, _, _, _, _⟩ := L.c i hi
  generalize xs.getD i ls0 = x at *
  have HAt := Lib.hid hAt
  clear hAt L
  unfold lkp at HAt
  go_enter Try.func52, Try.ntmps52
  go_wp2_with (first | (go_at_call 98; refine (HAt.out).mono ?_; rintro e w1 ⟨rfl, hw9⟩; rw [hw9]; clear hw9) | fail)
  go_ret
  exact ⟨rfl, rfl⟩
end
/-! no locks at all -/
theorem nil_len (w : World) : Calls Try.prog 56 #[.pointer none] w fun e w' => e = .returned (.int .i64 0) ∧ w' = w := by
  go_enter Try.func56, Try.ntmps56
  go_wp2
  go_ret
  exact ⟨rfl, rfl⟩
theorem nil_at (w : World) : Calls Try.prog 98 #[.pointer none, .int .i64 0] w fun e w' => e = .returned (.pointer none) ∧ w' = w := by
  have hLen := Lib.hid (nil_len w)
  go_enter Try.func98, Try.ntmps98
  go_wp2_with (first | (go_at_call 56; refine (hLen.out).mono ?_; rintro e w1 ⟨rfl, hw9⟩; rw [hw9]; clear hw9) | fail)
  go_ret
  exact ⟨rfl, rfl⟩
set_option maxRecDepth 100000 in
set_option maxHeartbeats 8000000 in
theorem nil_take (w : World) (t s : Int) : Calls Try.prog 48 #[.pointer none, .int .i64 0, .int .i64 t, .int .i64 s] w fun e w' => e = .returned (tkV false 3) ∧ w' = w := by
  have HAt := Lib.hid (nil_at w)
  go_enter Try.func48, Try.ntmps48
  go_wp2_with (first | (go_at_call 98; refine (HAt.out).mono ?_; rintro e w1 ⟨rfl, hw9⟩; rw [hw9]; clear hw9) | fail)
  go_ret2
  exact ⟨rfl, rfl⟩
set_option maxRecDepth 100000 in
set_option maxHeartbeats 8000000 in
theorem nil_give (w : World) (t : Int) : Calls Try.prog 50 #[.pointer none, .int .i64 0, .int .i64 t] w fun e w' => e = .returned (gvV 0 false 3) ∧ w' = w := by
  have HAt := Lib.hid (nil_at w)
  go_enter Try.func50, Try.ntmps50
  go_wp2_with (first | (go_at_call 98; refine (HAt.out).mono ?_; rintro e w1 ⟨rfl, hw9⟩; rw [hw9]; clear hw9) | fail)
  go_ret3
  exact ⟨rfl, rfl⟩
set_option maxRecDepth 100000 in
theorem nil_owner (w : World) : Calls Try.prog 49 #[.pointer none, .int .i64 0] w fun e w' => e = .returned (.tuple #[.int .i64 0, .bool false]) ∧ w' = w := by
  have HAt := Lib.hid (nil_at w)
  go_enter Try.func49, Try.ntmps49
  go_wp2_with (first | (go_at_call 98; refine (HAt.out).mono ?_; rintro e w1 ⟨rfl, hw9⟩; rw [hw9]; clear hw9) | fail)
  go_ret2
  exact ⟨rfl, rfl⟩
set_option maxRecDepth 100000 in
theorem nil_waiting (w : World) : Calls Try.prog 53 #[.pointer none, .int .i64 0] w fun e w' => e = .returned (.slice none 0 0) ∧ w' = w := by
  have HAt := Lib.hid (nil_at w)
  go_enter Try.func53, Try.ntmps53
  go_wp2_with (first | (go_at_call 98; refine (HAt.out).mono ?_; rintro e w1 ⟨rfl, hw9⟩; rw [hw9]; clear hw9) | fail)
  go_ret
  exact ⟨rfl, rfl⟩
set_option maxRecDepth 100000 in
theorem nil_owned (w : World) (t : Int) : Calls Try.prog 57 #[.pointer none, .int .i64 t] w fun e w' => e = .returned (.slice none 0 0) ∧ w' = w := by
  have hLen := Lib.hid (nil_len w)
  go_enter Try.func57, Try.ntmps57
  go_wp2_with (first | (go_at_call 56; refine (hLen.out).mono ?_; rintro e w1 ⟨rfl, hw9⟩; rw [hw9]; clear hw9) | fail)
  go_loopg [4, 10] 0 (fun gg v4 v10 wr => v4 = .slice none 0 0 ∧ v10 = .int .i64 0 ∧ wr = w)
  case atStart => exact ⟨rfl, rfl, rfl⟩
  case round =>
    obtain ⟨rfl, rfl, rfl⟩ := hrel
    go_wp2
    go_ret
    exact ⟨rfl, rfl⟩
end Go.Proofs.Ytgiimdoabkcoaaa.Co

/-
One lock in a machine of its own: Take, Give, Owner and Socket; the document's example.
-/
namespace Go.Proofs.Ytgiimdoabkcoaaa.Co
set_option linter.unusedVariables false
set_option linter.unusedSimpArgs false
open Go.RowKit Go.Proofs.YtgiimdoabkcoaaaW.PrintWords Go.Proofs.YtgiimdoabkcoaaaW.PrintLast Go.Proofs.YtgiimdoabkcoaaaW.PrintMore
/-- one lock, made since w0. -/
def C1 (w0 w : World) (h lb : Nat) (x : LS) : Prop := ∃ F, LocksAt w F h lb [x] ∧ (∀ k, F k → w0.heap.size ≤ k) ∧ Below w0.heap.size w0 w
section
variable {w0 w w1 : World} {h lb : Nat} {x x' : LS}
theorem C1.bel (c : C1 w0 w h lb x) : Below w0.heap.size w0 w := by obtain ⟨_, _, _, hb⟩ := c; exact hb
theorem C1.behind (c : C1 w0 w h lb x) (hb : Below w.heap.size w w1) : C1 w0 w1 h lb x := by
  obtain ⟨F, L, hF, h0⟩ := c
  exact ⟨F, L.behind hb, hF, h0.trans (hb.mono h0.size)⟩
theorem C1.next {F : Nat → Prop} (hF : ∀ k, F k → w0.heap.size ≤ k) (h0 : Below w0.heap.size w0 w) (L : LocksAt w1 (fun k => F k ∨ w.heap.size ≤ k) h lb [x']) (hr : Fr F w w1) : C1 w0 w1 h lb x' :=
  ⟨_, L, fun k q => q.elim (hF k) (Nat.le_trans h0.size), h0.trans (hr.to_below h0.size hF)⟩
theorem new_c1 (w : World) : Calls Try.prog 47 #[.int .i64 1] w fun e w' => ∃ h lb, e = .returned (.pointer (some ⟨h, 0, none⟩)) ∧ C1 w w' h lb ls0 := by
  refine (new_any w 1).mono ?_
  rintro e w' ⟨h, lb, rfl, L, hb⟩
  exact ⟨h, lb, rfl, _, L, fun _ q => q, hb⟩
theorem take_c1 (c : C1 w0 w h lb x) (hs : Sm 1000000 x) {t s : Int} {b : Bool} {er : Int} (he : takeP x t s = (x', b, er)) :
    Calls Try.prog 48 #[.pointer (some ⟨h, 0, none⟩), .int .i64 0, .int .i64 t, .int .i64 s] w fun e w' => e = .returned (tkV b er) ∧ C1 w0 w' h lb x' := by
  obtain ⟨F, L, hF, h0⟩ := c
  refine (take_some L (i := 0) (by simp) hs t s).mono ?_
  rintro e w' ⟨rfl, l1, f1⟩
  have hx : [x].getD 0 ls0 = x := rfl
  rw [hx, he] at l1 ⊢
  exact ⟨rfl, C1.next hF h0 l1 f1⟩
theorem give_c1 (c : C1 w0 w h lb x) (hs : Sm 1000000 x) (hok : Ok x) (hp : x.passes ≤ 1000000) {t n : Int} {b : Bool} {er : Int} (he : giveP x t = (x', n, b, er)) :
    Calls Try.prog 50 #[.pointer (some ⟨h, 0, none⟩), .int .i64 0, .int .i64 t] w fun e w' => e = .returned (gvV n b er) ∧ C1 w0 w' h lb x' := by
  obtain ⟨F, L, hF, h0⟩ := c
  refine (give_some L (i := 0) (by simp) hs hok hp t).mono ?_
  rintro e w' ⟨rfl, l1, f1⟩
  have hx : [x].getD 0 ls0 = x := rfl
  rw [hx, he] at l1 ⊢
  exact ⟨rfl, C1.next hF h0 l1 f1⟩
theorem owner_c1 (c : C1 w0 w h lb x) : Calls Try.prog 49 #[.pointer (some ⟨h, 0, none⟩), .int .i64 0] w fun e w' => e = .returned (.tuple #[.int .i64 (if x.held = true then x.owner else 0), .bool x.held]) ∧ w' = w := by
  obtain ⟨F, L, hF, h0⟩ := c
  refine (owner_any L 0).mono ?_
  rintro e w' ⟨rfl, rfl⟩
  refine ⟨?_, rfl⟩
  have hx : [x].getD (0 : Int).toNat ls0 = x := rfl
  rw [hx]
  cases hh : x.held with
  | true => rw [if_pos ⟨by omega, by simp, rfl⟩, if_pos rfl]
  | false => rw [if_neg (fun q => by simp at q), if_neg (by simp)]
theorem socket_c1 (c : C1 w0 w h lb x) : Calls Try.prog 52 #[.pointer (some ⟨h, 0, none⟩), .int .i64 0] w fun e w' => e = .returned (.int .i64 x.socket) ∧ w' = w := by
  obtain ⟨F, L, hF, h0⟩ := c
  exact socket_any L (i := 0) (by simp)
end
def y1 : LS := ⟨true, 1, 0, 0, []⟩
def y2 : LS := ⟨true, 1, 0, 0, [(1, [2])]⟩
def y3 : LS := ⟨true, 1, 0, 0, [(1, [2]), (0, [3])]⟩
def y4 : LS := ⟨true, 3, 0, 1, [(1, [2])]⟩
def y5 : LS := ⟨true, 2, 1, 0, []⟩
theorem ly1 : takeP ls0 1 0 = (y1, true, 0) := by rfl
theorem ly2 : takeP y1 2 1 = (y2, false, 0) := by rfl
theorem ly3 : takeP y2 3 0 = (y3, false, 0) := by rfl
theorem ly4 : giveP y3 1 = (y4, 3, true, 0) := by rfl
theorem ly5 : giveP y4 3 = (y5, 2, true, 0) := by rfl
theorem sm0 : Sm 1000000 ls0 := ⟨by simp [ls0], by simp [ls0]⟩
theorem smy1 : Sm 1000000 y1 := ⟨by simp [y1], by simp [y1]⟩
theorem smy2 : Sm 1000000 y2 := ⟨by simp [y2], by simp [y2]⟩
theorem smy3 : Sm 1000000 y3 := ⟨by simp [y3], by simp [y3]⟩
theorem smy4 : Sm 1000000 y4 := ⟨by simp [y4], by simp [y4]⟩
theorem oky3 : Ok y3 := ⟨by simp [y3], by simp [y3], by simp [y3], by simp [y3]⟩
theorem oky4 : Ok y4 := ⟨by simp [y4], by simp [y4], by simp [y4], by simp [y4]⟩
set_option maxRecDepth 100000 in
set_option maxHeartbeats 8000000 in
theorem lives_any (w : World) : Calls Try.prog 51 #[] w fun e w' => e = .returned (.bool true) ∧ Below w.heap.size w w' := by
  have p3 : y3.passes ≤ 1000000 := by decide
  have p4 : y4.passes ≤ 1000000 := by decide
  have h0 := Lib.hid (new_c1 w)
  go_enter Try.func51, Try.ntmps51
  go_wp2_with (first
    | (go_at_call 47; refine (h0.out).mono ?_; rintro e w1 ⟨h, lb, rfl, c⟩; have C0 := Lib.hid c; clear c)
    | (go_at_call 48; refine (take_c1 CB.out smy2 ly3).mono ?_; unfold tkV; rintro e w4 ⟨rfl, c⟩; have CC := Lib.hid c; clear c)
    | (go_at_call 48; refine (take_c1 CA.out smy1 ly2).mono ?_; unfold tkV; rintro e w3 ⟨rfl, c⟩; have CB := Lib.hid c; clear c)
    | (go_at_call 48; refine (take_c1 C0.out sm0 ly1).mono ?_; unfold tkV; rintro e w2 ⟨rfl, c⟩; have CA := Lib.hid c; clear c)
    | (go_at_call 50; refine (give_c1 CD.out smy4 oky4 p4 ly5).mono ?_; unfold gvV; rintro e w6 ⟨rfl, c⟩; have CE := Lib.hid c; clear c)
    | (go_at_call 50; refine (give_c1 CC.out smy3 oky3 p3 ly4).mono ?_; unfold gvV; rintro e w5 ⟨rfl, c⟩; have CD := Lib.hid c; clear c)
    | (go_at_call 52; refine (socket_c1 CE.out).mono ?_; rintro e w9 ⟨rfl, hw9⟩; rw [hw9]; clear hw9)
    | fail)
  go_ret
  exact ⟨rfl, CE.out.bel⟩
end Go.Proofs.Ytgiimdoabkcoaaa.Co
