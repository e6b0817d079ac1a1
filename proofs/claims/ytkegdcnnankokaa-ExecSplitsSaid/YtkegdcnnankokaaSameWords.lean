/-
pinfoldref10.SameWords over two rows that hold the same words: true.
-/
import Derived.Test.YtkegdcnnankokaaRunPost
import Derived.Deep.QuietTactic
import Derived.BigQuiet
namespace Go.Proofs.Ytkegdcnnankokaa
set_option linter.unusedVariables false
set_option linter.unusedSimpArgs false
open Go.RowKit

/-- whole numbers lie in memory, one behind the other, from A on. -/
def NumsAt (w : World) (k : IntKind) (A : Option Addr) (xs : List Int) : Prop := ∀ (i : Nat) (h : i < xs.length), ∃ ad, A = some ad ∧ w.cell? (ad.add i) = some (.int k xs[i])
theorem NumsAt.below {w w1 : World} {k : IntKind} {A : Option Addr} {xs : List Int} (h : NumsAt w k A xs) (hb : Below w.heap.size w w1) : NumsAt w1 k A xs := fun i hi => by
  obtain ⟨ad, e, c⟩ := h i hi
  exact ⟨ad, e, bel_cell hb c⟩
theorem OwnE.nums {W : World} {os : Array Obj} {e : TypeId} {k : IntKind} {v : Value} {xs : List Int} (h : OwnE W.heap.size os e 1 v xs.length (xs.map (Value.int k))) :
    ∃ A c, v = .slice A xs.length c ∧ xs.length ≤ c ∧ c ≤ maxLen ∧ ∀ d, NumsAt (W.ext os d) k A xs := by
  by_cases h0 : 0 < xs.length
  · obtain ⟨g, c, h1, h2, h3, h4, h5⟩ := h.cell h0 (by omega)
    refine ⟨_, c, h1, h2, h3, fun d i hi => ⟨_, rfl, ?_⟩⟩
    have := h5 d i (by simpa using hi)
    have e : ((⟨g, 0, none⟩ : Addr).add i) = ⟨g, i, none⟩ := by unfold Addr.add; split <;> simp_all
    rw [e, this]; simp
  · obtain ⟨A, c, h1, h2, h3⟩ := h.lenv
    exact ⟨A, c, h1, h2, h3, fun d i hi => absurd hi (by omega)⟩

set_option maxHeartbeats 1000000 in
theorem sameWords_true (A A' : Option Addr) (c c' : Nat) (xs : List Int) (w : World) (hx : xs.length ≤ 1000000) (hc : xs.length ≤ c) (hc' : xs.length ≤ c') (h1 : NumsAt w .i32 A xs) (h2 : NumsAt w .i32 A' xs) :
    Calls Try.prog 34 #[.slice A xs.length c, .slice A' xs.length c'] w fun e w' => e = .returned (.bool true) ∧ Below w.heap.size w w' := by
  have H1 := Lib.hid h1
  have H2 := Lib.hid h2
  clear h1 h2
  go_enter Try.func34, Try.ntmps34
  go_wp2_with fail
  go_loopw [13] (fun i wr => ∃ (k d : Nat), k ≤ xs.length ∧ i = .int .i64 k ∧ wr = w.ext #[] d) (fun i _ => xs.length - (intOf i).toNat)
  case atStart => exact ⟨0, _, Nat.zero_le _, rfl, World.ext_self _⟩
  case round =>
    obtain ⟨k, d, hk, rfl, rfl⟩ := hrel
    by_cases hlt : k < xs.length
    · obtain ⟨ad, e1, c1⟩ := H1.out k hlt
      obtain ⟨ad', e2, c2⟩ := H2.out k hlt
      subst e1 e2
      have i1 := World.inBlk_of_cell c1
      have i2 := World.inBlk_of_cell c2
      go_wp2_with fail
      go_quiet (fail)
      go_wp2_with fail
      go_roundw
      case rel => exact ⟨k + 1, _, by omega, by go_num, rfl⟩
      case measure => simp [intOf]; omega
    · have hge : ¬ (k : Int) < xs.length := by omega
      go_wp2_with fail
      go_ret
      exact ⟨rfl, World.below_ext _ _ _⟩

end Go.Proofs.Ytkegdcnnankokaa
