/-
heap.Heap[string]: a heap as a whole; Len and First, walked.
-/
import Derived.Test.YtkegdcnnankokaaHsDown
import Derived.OwnWalk
namespace Go.Proofs.Ytkegdcnnankokaa.Hps
set_option linter.unusedVariables false
set_option linter.unusedSimpArgs false
open Go.Maps Go.RowKit Go.Proofs.YtkegdcnnankokaaW.PrintWords Go.Proofs.YtkegdcnnankokaaW.PrintLast Go.Proofs.YtkegdcnnankokaaW.PrintMore Hp
/-- the heap at block h has the list l; F: its blocks; N, M: how large its map's table, its list and its count may be. -/
def HpAt (w : World) (h : Nat) (F : Nat → Prop) (N M : Nat) (l : List (It ByteArray)) (seq : Nat) : Prop :=
  l.length ≤ M ∧ seq ≤ M ∧ Apart l ∧ (∀ i, i < l.length → wfk (gd l i).f2) ∧
  ((l = [] ∧ w.heap[h]? = some (.cells #[.slice none 0 0, .map none, .int .i64 (seq : Int)] 123 (0, 0)) ∧ F = fun k => k = h) ∨
   ∃ v mb n g, n ≤ N ∧ Raw w h v mb n (seq : Int) l g ∧ AtFull g l ∧ F = foot h v mb)
section
variable {w w1 : World} {h N M seq : Nat} {F : Nat → Prop} {l : List (It ByteArray)}
theorem HpAt.lt (H : HpAt w h F N M l seq) : ∀ k, F k → k < w.heap.size := by
  obtain ⟨_, _, _, _, ⟨_, h1, rfl⟩ | ⟨v, mb, n, g, _, R, _, rfl⟩⟩ := H
  · rintro k rfl; exact (Array.getElem?_eq_some_iff.1 h1).1
  · exact R.lt
theorem HpAt.kept {G : Nat → Prop} (H : HpAt w h F N M l seq) (hF : Fr G w w1) (hn : ∀ k, F k → ¬ G k) : HpAt w1 h F N M l seq := by
  obtain ⟨a1, a2, a3, a4, ⟨b1, b2, rfl⟩ | ⟨v, mb, n, g, b1, R, b2, rfl⟩⟩ := H
  · exact ⟨a1, a2, a3, a4, .inl ⟨b1, hF.heap b2 (hn h rfl), rfl⟩⟩
  · exact ⟨a1, a2, a3, a4, .inr ⟨v, mb, n, g, b1, R.kept hF hn, b2, rfl⟩⟩
theorem HpAt.behind (H : HpAt w h F N M l seq) (hb : Below w.heap.size w w1) : HpAt w1 h F N M l seq := H.kept (Fr.of_below (fun _ => False) hb) (fun _ _ q => q)
theorem HpAt.drewN (H : HpAt w h F N M l seq) (n : Nat) : HpAt (w.drewN n) h F N M l seq := H.kept (G := fun _ => False) ⟨rfl, rfl, rfl, Nat.le_refl _, fun _ _ _ => rfl⟩ (fun _ _ q => q)
theorem HpAt.more {N' M' : Nat} (H : HpAt w h F N M l seq) (h1 : N ≤ N') (h2 : M ≤ M') : HpAt w h F N' M' l seq := by
  obtain ⟨a1, a2, a3, a4, b⟩ := H
  refine ⟨Nat.le_trans a1 h2, Nat.le_trans a2 h2, a3, a4, b.imp id ?_⟩
  rintro ⟨v, mb, n, g, b1, c⟩
  exact ⟨v, mb, n, g, Nat.le_trans b1 h1, c⟩
theorem HpAt.hd (H : HpAt w h F N M l seq) : ∃ A c mv, w.heap[h]? = some (.cells #[.slice A l.length c, mv, .int .i64 (seq : Int)] 123 (0, 0)) := by
  obtain ⟨_, _, _, _, ⟨rfl, h1, rfl⟩ | ⟨v, mb, n, g, _, R, _, rfl⟩⟩ := H
  · exact ⟨none, 0, _, h1⟩
  · obtain ⟨A, c, rfl⟩ := Kd.R_slice R.row
    exact ⟨A, c, _, R.hd⟩
theorem HpAt.at0 (H : HpAt w h F N M l seq) (hl : 0 < l.length) : ∃ q c mv, w.heap[h]? = some (.cells #[.slice (some ⟨q, 0, none⟩) l.length c, mv, .int .i64 (seq : Int)] 123 (0, 0)) ∧ w.cell? ⟨q, 0, none⟩ = some (.int .i64 (gd l 0).f0) ∧ w.cell? ⟨q, 1, none⟩ = some (.int .i64 (gd l 0).f1) ∧ w.cell? ⟨q, 2, none⟩ = some (.string (gd l 0).f2) := by
  obtain ⟨_, _, _, _, ⟨rfl, h1, rfl⟩ | ⟨v, mb, n, g, _, R, _, rfl⟩⟩ := H
  · simp at hl
  · obtain ⟨q, cap, rfl, _, hql, cells, hqc⟩ := Kd.R_form R.row hl
    obtain ⟨c0, c1, c2⟩ := R.at3 hl
    rw [Nat.zero_mul] at c0
    rw [Nat.zero_mul, Nat.zero_add] at c1 c2
    exact ⟨q, cap, _, R.hd, c0, c1, c2⟩
set_option maxRecDepth 100000 in
theorem len_any (H : HpAt w h F N M l seq) : Calls Try.prog 69 #[.pointer (some ⟨h, 0, none⟩)] w fun e w' => e = .returned (.int .i64 (l.length : Int)) ∧ w' = w := by
  obtain ⟨A, c, mv, hd⟩ := H.hd
  have h0 : w.cell? ⟨h, 0, none⟩ = some (.slice A l.length c) := cell_of_heap hd rfl
  go_enter Try.func69, Try.ntmps69
  go_wp2
  go_ret
  exact ⟨rfl, rfl⟩
def firstV (l : List (It ByteArray)) : Value := if l.length = 0 then .tuple #[.int .i64 0, .string ⟨#[]⟩, .bool false] else .tuple #[.int .i64 (gd l 0).f0, .string (gd l 0).f2, .bool true]
set_option maxRecDepth 100000 in
theorem first_any (H : HpAt w h F N M l seq) : Calls Try.prog 86 #[.pointer (some ⟨h, 0, none⟩)] w fun e w' => e = .returned (firstV l) ∧ ∃ k, w' = w.drewN k := by
  have hLen := Aside0.mk (len_any H)
  unfold firstV
  by_cases hl : l.length = 0
  · rw [if_pos hl]
    have hb : ((l.length : Int) == 0) = true := by simp [hl]
    go_enter Try.func86, Try.ntmps86
    go_wp2_with (first
      | (go_at_call 69; refine (hLen.out).mono ?_; rintro e w1 ⟨rfl, rfl⟩)
      | fail)
    go_ret3
    exact ⟨rfl, 0, rfl⟩
  · rw [if_neg hl]
    have hb : ((l.length : Int) == 0) = false := by simp [hl]
    have hl0 : 0 < l.length := Nat.pos_of_ne_zero hl
    obtain ⟨q, c, mv, hd, c0, c1, c2⟩ := H.at0 hl0
    have h0 : w.cell? ⟨h, 0, none⟩ = some (.slice (some ⟨q, 0, none⟩) l.length c) := cell_of_heap hd rfl
    go_enter Try.func86, Try.ntmps86
    go_wp2_with (first
      | (go_at_call 69; refine (hLen.out).mono ?_; rintro e w1 ⟨rfl, rfl⟩)
      | fail)
    go_quiet (fail)
    go_wp2
    go_ret3
    exact ⟨rfl, nq, rfl⟩
end
end Go.Proofs.Ytkegdcnnankokaa.Hps
