/-
heap.Heap[string]: how it lies in memory; set walked.
-/
import Derived.Test.YtkegdcnnankokaaHeapSpec
import Derived.Test.YtkegdcnnankokaaFr
import Derived.Test.YtkegdcnnankokaaPGanx0
import Derived.Maps.OwnSet
import Derived.WalkKit
import Derived.StillTailTactics
namespace Go.Proofs.Ytkegdcnnankokaa.Hps
set_option linter.unusedVariables false
set_option linter.unusedSimpArgs false
open Go.Maps Go.RowKit Go.Proofs.YtkegdcnnankokaaW.PrintWords Go.Proofs.YtkegdcnnankokaaW.PrintLast Go.Proofs.YtkegdcnnankokaaW.PrintMore Hp
attribute [local go_sem] max2_int min2_int
theorem infoI : (Try.prog.info? 148).map (fun i => (i.zero, i.size, i.bytes)) = some (some (.agg #[(.int .i64 0), (.int .i64 0), (.string ⟨#[]⟩)]), 3, 32) := by kernel_rfl
def zI : It ByteArray := default
def kI : Kd (It ByteArray) := Kd.iso (Kd.pair (Kd.int .i64) (Kd.pair (Kd.int .i64) Kd.string)) (fun x : It ByteArray => (x.f0, x.f1, x.f2))
theorem kI_open {w : World} {x : It ByteArray} {cs : List Value} (h : kI.K w x cs) : cs = [.int .i64 x.f0, .int .i64 x.f1, .string x.f2] := by
  obtain ⟨_, _, rfl, rfl, ⟨_, _, rfl, rfl, rfl⟩⟩ := h
  exact rfl
theorem kI_openM {w : World} {base : Nat} {ok : Nat → Prop} {x : It ByteArray} {cs : List Value} (h : kI.M w base ok x cs) : cs = [.int .i64 x.f0, .int .i64 x.f1, .string x.f2] := by
  obtain ⟨_, _, rfl, rfl, ⟨_, _, rfl, rfl, rfl⟩⟩ := h
  exact rfl
theorem kI_mk (w : World) (x : It ByteArray)  : kI.K w x [.int .i64 x.f0, .int .i64 x.f1, .string x.f2] := ⟨[.int .i64 x.f0], [.int .i64 x.f1, .string x.f2], rfl, rfl, ⟨[.int .i64 x.f1], [.string x.f2], rfl, rfl, rfl⟩⟩
theorem kI_mkM (w : World) (base : Nat) (ok : Nat → Prop) (x : It ByteArray)  : kI.M w base ok x [.int .i64 x.f0, .int .i64 x.f1, .string x.f2] := ⟨[.int .i64 x.f0], [.int .i64 x.f1, .string x.f2], rfl, rfl, ⟨[.int .i64 x.f1], [.string x.f2], rfl, rfl, rfl⟩⟩
/-- of its kind. -/
def wfk (x : ByteArray) : Prop := x.size ≤ maxLen
theorem lawK : Keyed Try.prog 9 := string_keyed Try.underlying9
theorem zeroV (w : World) : (zeroValue 3).run Try.prog w = .ok (.int .i64 0) w := by kernel_rfl
theorem key_of {x : ByteArray} (h : wfk x) : keyOf Try.prog 9 (.string x) = some (Lit.string (x).data.toList) := by
  have hk := Try.underlying9
  simp [keyOf, mapKey, hk, wfk] at h ⊢
  omega
theorem lit_inj {x y : ByteArray} (h : (Lit.string (x).data.toList) = (Lit.string (y).data.toList)) : x = y := by
  injection h with h
  exact ByteArray.ext (Array.toList_inj.1 h)
/-- the map tells g. -/
def Idx (D : DataW Unit) (g : ByteArray → Option Int) : Prop := IsMap D ∧ ∀ y, Maps.has D (Lit.string (y).data.toList) = (g y).isSome ∧ D.atKey (Lit.string (y).data.toList) (.lit (.int .i64 0)) = .lit (.int .i64 ((g y).getD 0))
theorem idx_put {D : DataW Unit} {g : ByteArray → Option Int} (h : Idx D g) (x : ByteArray) (n : Int) : Idx (D.put (Lit.string (x).data.toList) (.lit (.int .i64 n))) (gset g x (some n)) := by
  obtain ⟨hm, h⟩ := h
  refine ⟨hm.put _ _, fun y => ?_⟩
  have ht : WideAt.IsKeyLit (Lit.string (x).data.toList) := trivial
  by_cases e : y = x
  · subst e
    rw [has_put_same hm ht, atKey_put_same hm ht]
    simp [gset]
  · have hne : (Lit.string (y).data.toList) ≠ (Lit.string (x).data.toList) := fun q => e (lit_inj q)
    rw [has_put_other hne, atKey_put_other hne]
    simpa [gset, e] using h y
theorem idx_del {D : DataW Unit} {g : ByteArray → Option Int} (h : Idx D g) (x : ByteArray) : Idx (D.del (Lit.string (x).data.toList)) (gset g x none) := by
  obtain ⟨hm, h⟩ := h
  refine ⟨hm.del _, fun y => ?_⟩
  by_cases e : y = x
  · subst e
    rw [has_del_same, atKey_del_same]
    simp [gset]
  · have hne : (Lit.string (y).data.toList) ≠ (Lit.string (x).data.toList) := fun q => e (lit_inj q)
    rw [has_del_other hne, atKey_del_other hne]
    simpa [gset, e] using h y
structure Raw (w : World) (h : Nat) (v : Value) (mb n : Nat) (seq : Int) (its : List (It ByteArray)) (g : ByteArray → Option Int) : Prop where
  hd : w.heap[h]? = some (.cells #[v, .map (some mb), .int .i64 seq] 123 (0, 0))
  row : Kd.R kI 148 w 0 (fun k => k ≠ h ∧ k ≠ mb) v its
  map : ∃ D : DataW Unit, w.ownsMap Try.prog 9 (plainElem Try.prog 3) mb n D ∧ Idx D g
  ne : h ≠ mb
def foot (h : Nat) (v : Value) (mb : Nat) : Nat → Prop := fun k => k = h ∨ k = mb ∨ v.ownBlock = some k
section
variable {w : World} {h mb n : Nat} {v : Value} {seq : Int} {its : List (It ByteArray)} {g : ByteArray → Option Int}
theorem Raw.lt (R : Raw w h v mb n seq its g) : ∀ k, foot h v mb k → k < w.heap.size := by
  rintro k (rfl | rfl | hk)
  · exact (Array.getElem?_eq_some_iff.1 R.hd).1
  · obtain ⟨D, hD, _⟩ := R.map; exact hD.lt
  · exact Kd.R_lt R.row k hk
theorem Raw.kept {F : Nat → Prop} {w1 : World} (R : Raw w h v mb n seq its g) (hF : Fr F w w1) (hn : ∀ k, foot h v mb k → ¬ F k) : Raw w1 h v mb n seq its g := by
  obtain ⟨D, hD, hI⟩ := R.map
  refine ⟨hF.heap R.hd (hn h (.inl rfl)), ?_, ⟨D, hF.map hD (hn mb (.inr (.inl rfl))), hI⟩, R.ne⟩
  have hT := Kd.R_tight rfl R.row
  exact Kd.R_mono (Kd.R_step hT (fun k hk hlt => hF.block k hlt (hn k (.inr (.inr hk.symm))))) (fun k hk => R.row.1 k hk.symm)
theorem Raw.drew (R : Raw w h v mb n seq its g) : Raw w.drew h v mb n seq its g := R.kept (F := fun _ => False) ((Fr.refl _ w).drew) (fun _ _ q => q)
theorem Raw.behind {w1 : World} (R : Raw w h v mb n seq its g) (hb : Below w.heap.size w w1) : Raw w1 h v mb n seq its g := R.kept (Fr.of_below (fun _ => False) hb) (fun _ _ q => q)
end
end Go.Proofs.Ytkegdcnnankokaa.Hps
