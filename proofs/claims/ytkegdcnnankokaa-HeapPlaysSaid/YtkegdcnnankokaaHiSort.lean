import Derived.Sort.Statements
import Derived.Test.YtkegdcnnankokaaHeapLaw
import Derived.Shelf.SlSortCmp.WholeK
import Derived.Shelf.Lay
import Derived.Ground.SlsfProg
import Derived.Test.YtkegdcnnankokaaHiAhead
import Derived.Test.YtkegdcnnankokaaHiApp
/-
heap, plain: what the sort by ahead leaves of a heap is its things in their order.
-/
namespace Go.Proofs.Ytkegdcnnankokaa.Hp
set_option linter.unusedVariables false
set_option linter.unusedSimpArgs false
open Go.Sort
/-- two sorted lists with the same members, of the same length, where nothing is twice. -/
theorem sorted_eq {α : Type} : ∀ {s t : List (It α)}, Srt s → t.Pairwise (fun a b => ¬ lt b a) → t.Perm s → t = s
  | [], t, _, _, hp => by simpa using hp
  | a :: s, t, hs, ht, hp => by
    cases t with
    | nil => exact absurd hp.length_eq (by simp)
    | cons b t =>
      obtain ⟨hs1, hs2⟩ := List.pairwise_cons.1 hs
      obtain ⟨ht1, ht2⟩ := List.pairwise_cons.1 ht
      have hba : b = a := by
        rcases List.mem_cons.1 (hp.mem_iff.1 List.mem_cons_self) with h | h
        · exact h
        · rcases List.mem_cons.1 (hp.mem_iff.2 List.mem_cons_self) with h2 | h2
          · exact h2.symm
          · exact absurd (hs1 b h) (ht1 a h2)
      subst hba
      rw [sorted_eq hs2 ht2 (List.Perm.cons_inv hp)]
section
variable {α : Type} [Inhabited α]
theorem inL_iff {l : List (It α)} (e : It α) : InL l e ↔ e ∈ l := by
  constructor
  · rintro ⟨k, hk, rfl⟩
    rw [gd_at hk]; exact List.getElem_mem hk
  · intro h
    obtain ⟨k, hk, he⟩ := List.mem_iff_getElem.1 h
    exact ⟨k, hk, by rw [gd_at hk]; exact he⟩
theorem rep_nodup {l : List (It α)} (h : Apart l) : l.Nodup := by
  rw [List.nodup_iff_pairwise_ne, List.pairwise_iff_getElem]
  intro i j hi hj hij q
  have := h i j hi hj (by rw [gd_at hi, gd_at hj, q])
  omega
theorem rep_perm {l s : List (It α)} (h : Rep l s) (hA : Apart l) : l.Perm s := by
  have hs : s.Nodup := by
    rw [List.nodup_iff_pairwise_ne]
    refine List.Pairwise.imp ?_ h.srt
    intro a b q e
    subst e
    exact lt_asymm q q
  exact (List.perm_ext_iff_of_nodup (rep_nodup hA) hs).2 (fun e => (inL_iff e).symm.trans (h.mem e))
theorem sorted_of {d d' : Array (It α)} {s : List (It α)} (hp : PermIn 0 d.size d d') (hs : SortedIn (fun x y => decide (lt x y)) 0 d.size d') (hR : d.toList.Perm s) (hS : Srt s) : d'.toList = s := by
  obtain ⟨h1, _, h3⟩ := hp
  have e1 : d'.extract 0 d.size = d' := by rw [← h1]; simp
  have e2 : d.extract 0 d.size = d := by simp
  rw [e1, e2] at h3
  refine sorted_eq hS ?_ (h3.trans hR)
  rw [List.pairwise_iff_getElem]
  intro i j hi hj hij q
  have h := hs i j (Nat.zero_le _) hij (by simpa [h1] using hj)
  have hi' : i < d'.size := by simpa using hi
  have hj' : j < d'.size := by simpa using hj
  rw [getElem!_pos d' i hi', getElem!_pos d' j hj'] at h
  simp only [decide_eq_false_iff_not] at h
  exact h (by simpa using q)
end
end Go.Proofs.Ytkegdcnnankokaa.Hp

/-
slices.SortFunc at heap's items, by ahead: the kit's contract, laid here.
-/
namespace Go.Proofs
set_option linter.unusedVariables false
set_option linter.unusedSimpArgs false
open Go.Shelf Go.RowKit Go.Lib Go.Sort
shelf_lay_g SlLaysF0.n6 Slsf 6 at Try 89 as Try.sortItems
end Go.Proofs
namespace Go.Proofs.Ytkegdcnnankokaa.Hpi
open Go.Maps Go.Sort Go.Shelf Go.RowKit Go.Proofs.YtkegdcnnankokaaW.PrintWords Go.Proofs.YtkegdcnnankokaaW.PrintLast Go.Proofs.YtkegdcnnankokaaW.PrintMore Hp
theorem ltOf_ahead (x y : It Int) : ltOf aheadP x y = decide (lt x y) := by
  unfold ltOf
  by_cases h : lt x y
  · rw [ahead_lt h]; simp [h]
  · rw [ahead_nlt h]; simp [h]
theorem swo_ahead : SWO (ltOf (aheadP (α := Int))) where
  irrefl x := by rw [ltOf_ahead]; simp [lt]
  trans x y z h1 h2 := by rw [ltOf_ahead] at *; simp only [decide_eq_true_eq] at *; exact lt_trans h1 h2
  ntrans x y z h1 h2 := by rw [ltOf_ahead] at *; simp only [decide_eq_false_iff_not] at *; exact nlt_trans h1 h2
theorem cmp_ahead (blk off size : Nat) (w : World) : CmpLays Try.prog 76 #[] cellsI 3 aheadP blk off size w :=
  fun _ _ _ _ x y => ahead_calls 4 x.f0 x.f1 x.f2 y.f0 y.f1 y.f2 (aheadP x y) _ (ahead_f x y)
end Go.Proofs.Ytkegdcnnankokaa.Hpi
