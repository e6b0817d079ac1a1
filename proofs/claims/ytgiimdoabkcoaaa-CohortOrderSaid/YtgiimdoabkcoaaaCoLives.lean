/-
One lock in a machine of its own: Take, Give, Owner and Socket; the document's example.
-/
import Derived.Test.YtgiimdoabkcoaaaCoAsk
namespace Go.Proofs.Ytgiimdoabkcoaaa.Co
set_option linter.unusedVariables false
set_option linter.unusedSimpArgs false
open Go.RowKit Go.Proofs.YtgiimdoabkcoaaaW.PrintWords Go.Proofs.YtgiimdoabkcoaaaW.PrintLast Go.Proofs.YtgiimdoabkcoaaaW.PrintMore
/-- one lock, made since w0. -/
def C1 (w0 w : World) (h lb : Nat) (x : LS) : Prop := ∃ F, LocksAt w F h lb [x] ∧ (∀ k, F k → w0.heap.size ≤ k) ∧ Below w0.heap.size w0 w
section
variable {w0 w w1 : World} {h lb : Nat} {x x' : LS}
theorem C1.bel (c : C1 w0 w h lb x) : Below w0.heap.size w0 w := by obtain ⟨_, _, _, hb⟩ := c; exact hb
theorem C1.behind (c : C1 w0 w h lb x) (hb : Below w.heap.size w w1) : C1 w0 w1 h lb x := by
  obtain ⟨F, L, hF, h0⟩ := c
  exact ⟨F, L.behind hb, hF, h0.trans (hb.mono h0.size)⟩
theorem C1.next {F : Nat → Prop} (hF : ∀ k, F k → w0.heap.size ≤ k) (h0 : Below w0.heap.size w0 w) (L : LocksAt w1 (fun k => F k ∨ w.heap.size ≤ k) h lb [x']) (hr : Fr F w w1) : C1 w0 w1 h lb x' :=
  ⟨_, L, fun k q => q.elim (hF k) (Nat.le_trans h0.size), h0.trans (hr.to_below h0.size hF)⟩
theorem new_c1 (w : World) : Calls Try.prog 47 #[.int .i64 1] w fun e w' => ∃ h lb, e = .returned (.pointer (some ⟨h, 0, none⟩)) ∧ C1 w w' h lb ls0 := by
  refine (new_any w 1).mono ?_
  rintro e w' ⟨h, lb, rfl, L, hb⟩
  exact ⟨h, lb, rfl, _, L, fun _ q => q, hb⟩
theorem take_c1 (c : C1 w0 w h lb x) (hs : Sm 1000000 x) {t s : Int} {b : Bool} {er : Int} (he : takeP x t s = (x', b, er)) :
    Calls Try.prog 48 #[.pointer (some ⟨h, 0, none⟩), .int .i64 0, .int .i64 t, .int .i64 s] w fun e w' => e = .returned (tkV b er) ∧ C1 w0 w' h lb x' := by
  obtain ⟨F, L, hF, h0⟩ := c
  refine (take_some L (i := 0) (by simp) hs t s).mono ?_
  rintro e w' ⟨rfl, l1, f1⟩
  have hx : [x].getD 0 ls0 = x := rfl
  rw [hx, he] at l1 ⊢
  exact ⟨rfl, C1.next hF h0 l1 f1⟩
theorem give_c1 (c : C1 w0 w h lb x) (hs : Sm 1000000 x) (hok : Ok x) (hp : x.passes ≤ 1000000) {t n : Int} {b : Bool} {er : Int} (he : giveP x t = (x', n, b, er)) :
    Calls Try.prog 50 #[.pointer (some ⟨h, 0, none⟩), .int .i64 0, .int .i64 t] w fun e w' => e = .returned (gvV n b er) ∧ C1 w0 w' h lb x' := by
  obtain ⟨F, L, hF, h0⟩ := c
  refine (give_some L (i := 0) (by simp) hs hok hp t).mono ?_
  rintro e w' ⟨rfl, l1, f1⟩
  have hx : [x].getD 0 ls0 = x := rfl
  rw [hx, he] at l1 ⊢
  exact ⟨rfl, C1.next hF h0 l1 f1⟩
theorem owner_c1 (c : C1 w0 w h lb x) : Calls Try.prog 49 #[.pointer (some ⟨h, 0, none⟩), .int .i64 0] w fun e w' => e = .returned (.tuple #[.int .i64 (if x.held = true then x.owner else 0), .bool x.held]) ∧ w' = w := by
  obtain ⟨F, L, hF, h0⟩ := c
  refine (owner_any L 0).mono ?_
  rintro e w' ⟨rfl, rfl⟩
  refine ⟨?_, rfl⟩
  have hx : [x].getD (0 : Int).toNat ls0 = x := rfl
  rw [hx]
  cases hh : x.held with
  | true => rw [if_pos ⟨by omega, by simp, rfl⟩, if_pos rfl]
  | false => rw [if_neg (fun q => by simp at q), if_neg (by simp)]
theorem socket_c1 (c : C1 w0 w h lb x) : Calls Try.prog 52 #[.pointer (some ⟨h, 0, none⟩), .int .i64 0] w fun e w' => e = .returned (.int .i64 x.socket) ∧ w' = w := by
  obtain ⟨F, L, hF, h0⟩ := c
  exact socket_any L (i := 0) (by simp)
end
def y1 : LS := ⟨true, 1, 0, 0, []⟩
def y2 : LS := ⟨true, 1, 0, 0, [(1, [2])]⟩
def y3 : LS := ⟨true, 1, 0, 0, [(1, [2]), (0, [3])]⟩
def y4 : LS := ⟨true, 3, 0, 1, [(1, [2])]⟩
def y5 : LS := ⟨true, 2, 1, 0, []⟩
theorem ly1 : takeP ls0 1 0 = (y1, true, 0) := by rfl
theorem ly2 : takeP y1 2 1 = (y2, false, 0) := by rfl
theorem ly3 : takeP y2 3 0 = (y3, false, 0) := by rfl
theorem ly4 : giveP y3 1 = (y4, 3, true, 0) := by rfl
theorem ly5 : giveP y4 3 = (y5, 2, true, 0) := by rfl
theorem sm0 : Sm 1000000 ls0 := ⟨by simp [ls0], by simp [ls0]⟩
theorem smy1 : Sm 1000000 y1 := ⟨by simp [y1], by simp [y1]⟩
theorem smy2 : Sm 1000000 y2 := ⟨by simp [y2], by simp [y2]⟩
theorem smy3 : Sm 1000000 y3 := ⟨by simp [y3], by simp [y3]⟩
theorem smy4 : Sm 1000000 y4 := ⟨by simp [y4], by simp [y4]⟩
theorem oky3 : Ok y3 := ⟨by simp [y3], by simp [y3], by simp [y3], by simp [y3]⟩
theorem oky4 : Ok y4 := ⟨by simp [y4], by simp [y4], by simp [y4], by simp [y4]⟩
set_option maxRecDepth 100000 in
set_option maxHeartbeats 8000000 in
theorem lives_any (w : World) : Calls Try.prog 51 #[] w fun e w' => e = .returned (.bool true) ∧ Below w.heap.size w w' := by
  have p3 : y3.passes ≤ 1000000 := by decide
  have p4 : y4.passes ≤ 1000000 := by decide
  have h0 := Lib.hid (new_c1 w)
  go_enter Try.func51, Try.ntmps51
  go_wp2_with (first
    | (go_at_call 47; refine (h0.out).mono ?_; rintro e w1 ⟨h, lb, rfl, c⟩; have C0 := Lib.hid c; clear c)
    | (go_at_call 48; refine (take_c1 CB.out smy2 ly3).mono ?_; unfold tkV; rintro e w4 ⟨rfl, c⟩; have CC := Lib.hid c; clear c)
    | (go_at_call 48; refine (take_c1 CA.out smy1 ly2).mono ?_; unfold tkV; rintro e w3 ⟨rfl, c⟩; have CB := Lib.hid c; clear c)
    | (go_at_call 48; refine (take_c1 C0.out sm0 ly1).mono ?_; unfold tkV; rintro e w2 ⟨rfl, c⟩; have CA := Lib.hid c; clear c)
    | (go_at_call 50; refine (give_c1 CD.out smy4 oky4 p4 ly5).mono ?_; unfold gvV; rintro e w6 ⟨rfl, c⟩; have CE := Lib.hid c; clear c)
    | (go_at_call 50; refine (give_c1 CC.out smy3 oky3 p3 ly4).mono ?_; unfold gvV; rintro e w5 ⟨rfl, c⟩; have CD := Lib.hid c; clear c)
    | (go_at_call 52; refine (socket_c1 CE.out).mono ?_; rintro e w9 ⟨rfl, hw9⟩; rw [hw9]; clear hw9)
    | fail)
  go_ret
  exact ⟨rfl, CE.out.bel⟩
end Go.Proofs.Ytgiimdoabkcoaaa.Co
