/-
One lock beside other things of the caller's; a map from whole numbers to whole numbers.
-/
import Derived.Test.YtgiimdoabkcoaaaCoWait
import Derived.Maps.OwnSet
import Derived.Maps.OwnOps
namespace Go.Proofs.Ytgiimdoabkcoaaa.Co
set_option linter.unusedVariables false
set_option linter.unusedSimpArgs false
open Go.Maps Go.RowKit Go.Proofs.YtgiimdoabkcoaaaW.PrintWords Go.Proofs.YtgiimdoabkcoaaaW.PrintLast Go.Proofs.YtgiimdoabkcoaaaW.PrintMore
/-- one lock, made since w0; X: other blocks made since then. -/
def CX (w0 w : World) (X : Nat → Prop) (h lb : Nat) (x : LS) : Prop := ∃ F, LocksAt w F h lb [x] ∧ (∀ k, F k → w0.heap.size ≤ k ∧ ¬ X k) ∧ (∀ k, X k → w0.heap.size ≤ k ∧ k < w.heap.size) ∧ Below w0.heap.size w0 w
section
variable {w0 w w1 : World} {X : Nat → Prop} {h lb : Nat} {x x' : LS}
theorem CX.bel (c : CX w0 w X h lb x) : Below w0.heap.size w0 w := by obtain ⟨_, _, _, _, hb⟩ := c; exact hb
theorem CX.of_c1 (c : C1 w0 w h lb x) : CX w0 w (fun _ => False) h lb x := by
  obtain ⟨F, L, hF, h0⟩ := c
  exact ⟨F, L, fun k q => ⟨hF k q, fun q => q⟩, fun _ q => q.elim, h0⟩
theorem CX.behind (c : CX w0 w X h lb x) (hb : Below w.heap.size w w1) : CX w0 w1 X h lb x := by
  obtain ⟨F, L, hF, hX, h0⟩ := c
  exact ⟨F, L.behind hb, hF, fun k q => ⟨(hX k q).1, Nat.lt_of_lt_of_le (hX k q).2 hb.size⟩, h0.trans (hb.mono h0.size)⟩
/-- the caller's other things change, or new ones are made. -/
theorem CX.other (c : CX w0 w X h lb x) (hF : Fr X w w1) {X1 : Nat → Prop} (hX1 : ∀ k, X1 k → X k ∨ (w.heap.size ≤ k ∧ k < w1.heap.size)) : CX w0 w1 X1 h lb x := by
  obtain ⟨F, L, hF0, hX, h0⟩ := c
  refine ⟨_, L.bound.kept hF (fun k q => (hF0 k q.1).2), fun k q => ⟨(hF0 k q.1).1, fun q1 => ?_⟩, fun k q => ?_, h0.trans (hF.to_below h0.size (fun k q => (hX k q).1))⟩
  · rcases hX1 k q1 with r | r
    · exact (hF0 k q.1).2 r
    · exact absurd q.2 (Nat.not_lt.2 r.1)
  · rcases hX1 k q with r | r
    · exact ⟨(hX k r).1, Nat.lt_of_lt_of_le (hX k r).2 hF.size⟩
    · exact ⟨Nat.le_trans h0.size r.1, r.2⟩
theorem CX.next {F : Nat → Prop} (hF : ∀ k, F k → w0.heap.size ≤ k ∧ ¬ X k) (hX : ∀ k, X k → w0.heap.size ≤ k ∧ k < w.heap.size) (h0 : Below w0.heap.size w0 w) (L : LocksAt w1 (fun k => F k ∨ w.heap.size ≤ k) h lb [x']) (hr : Fr F w w1) :
    CX w0 w1 X h lb x' ∧ Fr (fun k => w0.heap.size ≤ k ∧ ¬ X k) w w1 :=
  ⟨⟨_, L, fun k q => q.elim (hF k) (fun q => ⟨Nat.le_trans h0.size q, fun r => absurd (hX k r).2 (Nat.not_lt.2 q)⟩), fun k q => ⟨(hX k q).1, Nat.lt_of_lt_of_le (hX k q).2 hr.size⟩, h0.trans (hr.to_below h0.size (fun k q => (hF k q).1))⟩, hr.mono (fun k _ q => hF k q)⟩
theorem take_cx (c : CX w0 w X h lb x) (hs : Sm 1000000 x) (t s : Int) :
    Calls Try.prog 48 #[.pointer (some ⟨h, 0, none⟩), .int .i64 0, .int .i64 t, .int .i64 s] w fun e w' => e = .returned (tkV (takeP x t s).2.1 (takeP x t s).2.2) ∧ CX w0 w' X h lb (takeP x t s).1 ∧ Fr (fun k => w0.heap.size ≤ k ∧ ¬ X k) w w' := by
  obtain ⟨F, L, hF, hX, h0⟩ := c
  refine (take_some L (i := 0) (by simp) hs t s).mono ?_
  rintro e w' ⟨rfl, l1, f1⟩
  have hx : [x].getD 0 ls0 = x := rfl
  rw [hx] at l1 ⊢
  exact ⟨rfl, CX.next hF hX h0 l1 f1⟩
theorem give_cx (c : CX w0 w X h lb x) (hs : Sm 1000000 x) (hok : Ok x) (hp : x.passes ≤ 1000000) (t : Int) :
    Calls Try.prog 50 #[.pointer (some ⟨h, 0, none⟩), .int .i64 0, .int .i64 t] w fun e w' => e = .returned (gvV (giveP x t).2.1 (giveP x t).2.2.1 (giveP x t).2.2.2) ∧ CX w0 w' X h lb (giveP x t).1 ∧ Fr (fun k => w0.heap.size ≤ k ∧ ¬ X k) w w' := by
  obtain ⟨F, L, hF, hX, h0⟩ := c
  refine (give_some L (i := 0) (by simp) hs hok hp t).mono ?_
  rintro e w' ⟨rfl, l1, f1⟩
  have hx : [x].getD 0 ls0 = x := rfl
  rw [hx] at l1 ⊢
  exact ⟨rfl, CX.next hF hX h0 l1 f1⟩
theorem CX.c1 (c : CX w0 w X h lb x) : C1 w0 w h lb x := by
  obtain ⟨F, L, hF, hX, h0⟩ := c
  exact ⟨F, L, fun k q => (hF k q).1, h0⟩
theorem waiting_cx (c : CX w0 w X h lb x) (hl : x.round.length ≤ 1000000) (hw : (waitingP x).length ≤ 1000000) :
    Calls Try.prog 53 #[.pointer (some ⟨h, 0, none⟩), .int .i64 0] w fun e w' => ∃ v, e = .returned v ∧ Kd.R (Kd.int .i64) 3 w' w.heap.size (fun _ => True) v (waitingP x) ∧ Below w.heap.size w w' := by
  obtain ⟨F, L, hF, hX, h0⟩ := c
  exact waiting_any L (i := 0) (by simp) hl hw
end
/-! a map -/
def wfk (x : Int) : Prop := (Lit.int .i64 x).wf = true
theorem wfk_small {x : Int} (h0 : 0 ≤ x) (h1 : x ≤ 1000000) : wfk x := by
  have h2 : IntKind.i64.min = -9223372036854775808 := by decide
  have h3 : IntKind.i64.max = 9223372036854775807 := by decide
  show (decide (IntKind.i64.min ≤ x) && decide (x ≤ IntKind.i64.max)) = true
  rw [h2, h3, Bool.and_eq_true]
  exact ⟨decide_eq_true (by omega), decide_eq_true (by omega)⟩
theorem lawK : Keyed Try.prog 3 := int_keyed Try.underlying3
theorem zeroV (w : World) : (zeroValue 3).run Try.prog w = .ok (.int .i64 0) w := by kernel_rfl
theorem key_of {x : Int} (h : wfk x) : keyOf Try.prog 3 (.int .i64 x) = some (Lit.int .i64 x) := keyOf_int_mk Try.underlying3 h
theorem lit_inj {x y : Int} (h : (Lit.int .i64 x) = (Lit.int .i64 y)) : x = y := by injection h
def gset (g : Int → Option Int) (x : Int) (v : Option Int) : Int → Option Int := fun y => if y = x then v else g y
/-- the map tells g. -/
def Idx (D : DataW Unit) (g : Int → Option Int) : Prop := IsMap D ∧ ∀ y, Maps.has D (Lit.int .i64 y) = (g y).isSome ∧ D.atKey (Lit.int .i64 y) (.lit (.int .i64 0)) = .lit (.int .i64 ((g y).getD 0))
theorem idx_put {D : DataW Unit} {g : Int → Option Int} (h : Idx D g) (x : Int) (n : Int) : Idx (D.put (Lit.int .i64 x) (.lit (.int .i64 n))) (gset g x (some n)) := by
  obtain ⟨hm, h⟩ := h
  refine ⟨hm.put _ _, fun y => ?_⟩
  have ht : WideAt.IsKeyLit (Lit.int .i64 x) := trivial
  by_cases e : y = x
  · subst e
    rw [has_put_same hm ht, atKey_put_same hm ht]
    simp [gset]
  · have hne : (Lit.int .i64 y) ≠ (Lit.int .i64 x) := fun q => e (lit_inj q)
    rw [has_put_other hne, atKey_put_other hne]
    simpa [gset, e] using h y
/-- the map at block mb tells g; n: how often it was written at most. -/
def MapAt (w : World) (mb n : Nat) (g : Int → Option Int) : Prop := ∃ D : DataW Unit, w.ownsMap Try.prog 3 (plainElem Try.prog 3) mb n D ∧ Idx D g
theorem MapAt.kept {w w1 : World} {F : Nat → Prop} {mb n : Nat} {g : Int → Option Int} (m : MapAt w mb n g) (h : Fr F w w1) (hn : ¬ F mb) : MapAt w1 mb n g := by
  obtain ⟨D, h1, h2⟩ := m
  exact ⟨D, h.map h1 hn, h2⟩
theorem MapAt.behind {w w1 : World} {mb n : Nat} {g : Int → Option Int} (m : MapAt w mb n g) (h : Below w.heap.size w w1) : MapAt w1 mb n g := m.kept (Fr.of_below (fun _ => False) h) (fun q => q)
theorem MapAt.lt {w : World} {mb n : Nat} {g : Int → Option Int} (m : MapAt w mb n g) : mb < w.heap.size := by
  obtain ⟨D, h1, _⟩ := m
  exact h1.lt
set_option maxRecDepth 100000 in
theorem MapAt.look {w : World} {mb n : Nat} {g : Int → Option Int} (m : MapAt w mb n g) {x : Int} (hx : wfk x) : (Instr.lookup 101 (.map (some mb)) (.int .i64 x) false).run Try.prog w = .ok (.int .i64 ((g x).getD 0)) w := by
  obtain ⟨D, h1, h2⟩ := m
  obtain ⟨c, hrun, hat, _⟩ := h1.lookup_int lawK Try.underlying101 Try.underlying3 (zeroV w) (key_of hx)
  rw [(h2.2 x).2] at hat
  injection hat with hat
  injection hat with _ hat
  rw [hrun, hat]
theorem MapAt.made (w : World) : MapAt (w.alloc (.map #[] 0)) w.heap.size 0 (fun _ => none) := ⟨.map [], World.ownsMap_made w _ _ _, isMap_empty, fun y => ⟨rfl, rfl⟩⟩
end Go.Proofs.Ytgiimdoabkcoaaa.Co
