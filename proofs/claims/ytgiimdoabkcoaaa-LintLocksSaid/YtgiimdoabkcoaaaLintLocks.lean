import Derived.Test.YtgiimdoabkcoaaaPureKit
import Derived.Test.YtgiimdoabkcoaaaPLintx1
import Derived.Test.YtgiimdoabkcoaaaPLintx2
import Derived.Test.YtgiimdoabkcoaaaPLintx8
import Derived.Test.YtgiimdoabkcoaaaPLintx9
import Derived.Test.YtgiimdoabkcoaaaBits
import Derived.Test.YtgiimdoabkcoaaaPLintx3
import Derived.Test.YtgiimdoabkcoaaaPLintx5
import Derived.Test.YtgiimdoabkcoaaaPLintx4
import Derived.Test.YtgiimdoabkcoaaaPLintx7
import Derived.Test.YtgiimdoabkcoaaaPLintx11
/-
Lint, plain: what the printed functions Check, Next, Goes, Reach answer (no program in sight).
-/
namespace Go.Proofs.Ytgiimdoabkcoaaa.PLint
set_option linter.unusedVariables false
set_option linter.unusedSimpArgs false
open Go.RowKit Go.Proofs.YtgiimdoabkcoaaaW.PrintWords Go.Proofs.YtgiimdoabkcoaaaW.PrintLast Go.Proofs.YtgiimdoabkcoaaaW.PrintMore

def okIns (x : S41) (N : Nat) : Prop := (1 ≤ x.f0 ∧ x.f0 ≤ 14) ∧ ((x.f0 = 4 ∨ x.f0 = 5) → 0 ≤ x.f3 ∧ x.f3 < N)
def Valid (l : List S41) : Prop := 0 < l.length ∧ (∀ j (hj : j < l.length), okIns l[j] l.length) ∧ ((l.getD (l.length - 1) z41).f0 = 4 ∨ (l.getD (l.length - 1) z41).f0 = 14)
def W32 (l : List S41) : Prop := ∀ x ∈ l, -2147483648 ≤ x.f3 ∧ x.f3 ≤ 2147483647
theorem rdT_at {l : List S41} {i : Nat} (h : i < l.length) : rd_T41 l (i : Int) = l[i] := by simp [rd_T41, List.getElem?_eq_getElem h]

theorem same_l0 (a : List Int) (hn : a.length ≤ 1000000) : ∀ (d i : Nat), a.length - i = d → EvP (fun k => pinfoldref04_Same.l0 k a a (a.length : Int) (i : Int)) (· = true) := by
  intro d
  induction d with
  | zero =>
    intro i hd
    refine EvP.succ ?_
    simp only [pinfoldref04_Same.l0]
    exact EvP.neg (by omega) (EvP.now rfl)
  | succ d ih =>
    intro i hd
    refine EvP.succ ?_
    simp only [pinfoldref04_Same.l0]
    refine EvP.pos (by omega) (EvP.pos (by omega) (EvP.pos (by omega) (EvP.pos (by omega) (EvP.pos trivial ?_))))
    rw [wrap_up (by omega)]
    exact ih (i + 1) (by omega)
theorem same_self (a : List Int) (hn : a.length ≤ 1000000) : EvP (fun k => pinfoldref04_Same.f k a a) (· = true) := by
  simp only [pinfoldref04_Same.f]
  exact EvP.pos trivial (same_l0 a hn _ 0 rfl)

theorem checkS_last {prio : Int} {l : List Ins} (h : (checkS prio l).1 = 0) : lastOp l = 4 ∨ lastOp l = 14 := by
  unfold checkS at h
  by_cases h1 : prio < 0 ∨ 3 < prio
  · rw [if_pos h1] at h; simp at h
  · rw [if_neg h1] at h
    by_cases h2 : l.length = 0 ∨ 64 < l.length
    · rw [if_pos h2] at h; simp at h
    · rw [if_neg h2] at h
      have hok := checkS_ok (prio := prio) (l := l) (by unfold checkS; rw [if_neg h1, if_neg h2]; exact h)
      unfold checkL at h
      cases hf : firstErr l.length l 0 with
      | some r =>
        rw [hf] at h
        by_cases hall : ∀ j (hj : j < l.length), l[j].err l.length = 0
        · rw [firstErr_none l.length l 0 hall] at hf; cases hf
        · exact absurd hok.2.2 (fun hx => hall (fun j hj => hx j hj))
      | none =>
        rw [hf] at h
        by_cases h3 : lastOp l = 4 ∨ lastOp l = 14
        · exact h3
        · simp [h3] at h
section
variable {prio : Int} {l : List S41}
theorem in32B_of (hw : W32 l) : in32B l = true := by
  unfold in32B
  rw [List.all_eq_true]
  intro x hx
  simpa using hw x hx
theorem valid_of (h : (checkS prio (l.map toIns)).1 = 0) : Valid l := by
  obtain ⟨h1, h2, h3⟩ := checkS_ok h
  simp only [List.length_map] at h1 h2 h3
  refine ⟨h1, fun j hj => ?_, ?_⟩
  · have := insOK_parts (h3 j hj)
    simp only [List.getElem_map, toIns] at this
    exact ⟨this.1, this.2.2.2⟩
  · have := checkS_last h
    unfold lastOp at this
    rw [List.length_map] at this
    have hl : l.length - 1 < l.length := by omega
    simpa [List.getD, List.getElem?_eq_getElem hl, toIns] using this
end
end Go.Proofs.Ytgiimdoabkcoaaa.PLint

/-
Lint, plain: where a program goes on, and which places can be come to: both texts' answers.
-/
namespace Go.Proofs.Ytgiimdoabkcoaaa.PLint
set_option linter.unusedVariables false
set_option linter.unusedSimpArgs false
open Go.RowKit Go.Proofs.YtgiimdoabkcoaaaW.PrintWords Go.Proofs.YtgiimdoabkcoaaaW.PrintLast Go.Proofs.YtgiimdoabkcoaaaW.PrintMore

theorem strict_ext : ∀ {l1 l2 : List Int}, l1.Pairwise (· < ·) → l2.Pairwise (· < ·) → (∀ x, x ∈ l1 ↔ x ∈ l2) → l1 = l2
  | [], [], _, _, _ => rfl
  | [], y :: l2, _, _, h => absurd ((h y).2 (by simp)) (by simp)
  | x :: l1, [], _, _, h => absurd ((h x).1 (by simp)) (by simp)
  | x :: l1, y :: l2, h1, h2, h => by
    rw [List.pairwise_cons] at h1 h2
    have hxy : x = y := by
      have a1 := (h x).1 (by simp)
      have a2 := (h y).2 (by simp)
      rw [List.mem_cons] at a1 a2
      rcases a1 with a1 | a1
      · exact a1
      · rcases a2 with a2 | a2
        · exact a2.symm
        · have := h2.1 x a1; have := h1.1 y a2; omega
    subst hxy
    congr 1
    refine strict_ext h1.2 h2.2 (fun z => ?_)
    have hz := h z
    rw [List.mem_cons, List.mem_cons] at hz
    constructor
    · intro hm
      rcases hz.1 (.inr hm) with e | e
      · have := h1.1 z hm; omega
      · exact e
    · intro hm
      rcases hz.2 (.inr hm) with e | e
      · have := h2.1 z hm; omega
      · exact e

/-- may a task go on from a to b? -/
def goesZ (l : List S41) (a b : Int) : Bool :=
  if a < 0 ∨ (l.length : Int) ≤ a then false else decide (((rd_T41 l a).f0 = 4 ∨ (rd_T41 l a).f0 = 5) ∧ b = (rd_T41 l a).f3) || decide ((rd_T41 l a).f0 ≠ 4 ∧ (rd_T41 l a).f0 ≠ 14 ∧ b = a + 1)
theorem W32.at {l : List S41} (hw : W32 l) {a : Int} (h0 : 0 ≤ a) (h1 : a < l.length) : -2147483648 ≤ (rd_T41 l a).f3 ∧ (rd_T41 l a).f3 ≤ 2147483647 := by
  obtain ⟨n, rfl⟩ := Int.eq_ofNat_of_zero_le h0
  rw [rdT_at (by omega)]
  exact hw _ (List.getElem_mem _)
theorem goes_f {prio : Int} {l : List S41} (hw : W32 l) (hN : l.length ≤ 1000) (a b : Int) : pinfoldref26_Goes.f prio l a b = some (goesZ l a b) := by
  unfold pinfoldref26_Goes.f goesZ
  by_cases h0 : a < 0
  · rw [if_pos h0, if_pos (.inl h0)]
  · by_cases h1 : a ≥ (l.length : Int)
    · rw [if_neg h0, if_pos h1, if_pos (.inr h1)]
    · have h3 := hw.at (a := a) (by omega) (by omega)
      rw [if_neg h0, if_neg h1, if_pos (by omega), if_pos (by omega), if_neg (show ¬ (a < 0 ∨ (l.length : Int) ≤ a) by omega), wrap_nat (n := (rd_T41 l a).f3) (by omega) (by omega), wrap_nat (n := a + 1) (by omega) (by omega)]
      generalize rd_T41 l a = x at *
      by_cases c4 : x.f0 = 4
      · rw [if_pos c4]
        by_cases e : b = x.f3 <;> simp [c4, e]
      · rw [if_neg c4]
        by_cases c5 : x.f0 = 5
        · rw [if_pos c5, if_neg (by omega)]
          by_cases e : b = x.f3
          · simp [c5, e]
          · rw [if_neg e]; simp [c5, e]; rw [Bool.eq_iff_iff]; simp
        · rw [if_neg c5]
          by_cases c14 : x.f0 = 14
          · simp [c14]
          · rw [if_neg c14]; simp [c4, c5, c14]; rw [Bool.eq_iff_iff]; simp
/-- the places that come next, rising. -/
def nextL (l : List S41) (pc : Int) : List Int := ((List.range l.length).filter fun b : Nat => goesZ l pc (b : Int)).map Int.ofNat
theorem mem_nextL {l : List S41} {pc x : Int} : x ∈ nextL l pc ↔ 0 ≤ x ∧ x < l.length ∧ goesZ l pc x = true := by
  unfold nextL
  simp only [List.mem_map, List.mem_filter, List.mem_range]
  constructor
  · rintro ⟨n, ⟨h1, h2⟩, rfl⟩
    exact ⟨by simp, by simpa using h1, h2⟩
  · rintro ⟨h0, h1, h2⟩
    obtain ⟨n, rfl⟩ := Int.eq_ofNat_of_zero_le h0
    exact ⟨n, ⟨by omega, h2⟩, rfl⟩
theorem nextL_rises (l : List S41) (pc : Int) : (nextL l pc).Pairwise (· < ·) := by
  unfold nextL
  rw [List.pairwise_map]
  refine List.Pairwise.imp ?_ (List.Pairwise.filter _ List.pairwise_lt_range)
  intro a b h
  simpa using h
theorem nextL_len (l : List S41) (pc : Int) : (nextL l pc).length ≤ l.length := by
  unfold nextL
  rw [List.length_map]
  exact Nat.le_trans (List.length_filter_le _ _) (by simp)
theorem nextL_eq {l : List S41} {pc : Int} {t : List Int} (h1 : t.Pairwise (· < ·)) (h2 : ∀ x, x ∈ t ↔ 0 ≤ x ∧ x < l.length ∧ goesZ l pc x = true) : t = nextL l pc :=
  strict_ext h1 (nextL_rises l pc) (fun x => (h2 x).trans mem_nextL.symm)

theorem sort2 (a b : Int) : slices_Sort_int_int.f [a, b] = some (if a ≤ b then [a, b] else [b, a]) := by
  unfold slices_Sort_int_int.f
  rw [if_pos (by simp)]
  congr 1
  simp [List.mergeSort, List.merge]
theorem compact2 (a b : Int) : slices_Compact_int_int.f [a, b] = some (if a = b then [a] else [a, b]) := by
  unfold slices_Compact_int_int.f
  rw [if_pos (by simp)]
  congr 1
  by_cases h : a = b
  · subst h; simp [Lib.compact, Lib.compactUpTo, Lib.keeps, List.range, List.range.loop]
  · rw [if_neg h]
    have h1 : Lib.keeps #[a, b] 0 = true := by simp [Lib.keeps]
    have h2 : Lib.keeps #[a, b] 1 = true := by simp [Lib.keeps]; exact fun e => h e.symm
    simp [Lib.compact, Lib.compactUpTo, List.range, List.range.loop, List.filter, h1, h2]
theorem next_f {prio : Int} {l : List S41} (hw : W32 l) (hN : l.length ≤ 1000) (hv : Valid l) (pc : Int) : EvP (fun k => lint_Next.f k prio l pc) (· = nextL l pc) := by
  have out : (pc < 0 ∨ (l.length : Int) ≤ pc) → ([] : List Int) = nextL l pc := fun h => nextL_eq .nil (fun x => by simp [goesZ, h])
  have j0 : ∀ b : Bool, (b = true ↔ (pc < 0 ∨ (l.length : Int) ≤ pc)) → EvP (fun k => lint_Next.j0 k pc b prio l) (· = nextL l pc) := by
    intro b hb
    refine EvP.succ ?_
    simp only [lint_Next.j0]
    cases b with
    | true => exact EvP.pos rfl (EvP.now (out (hb.1 rfl)))
    | false =>
      have hin : ¬ (pc < 0 ∨ (l.length : Int) ≤ pc) := fun h => by have := hb.2 h; cases this
      obtain ⟨i, rfl⟩ := Int.eq_ofNat_of_zero_le (show 0 ≤ pc by omega)
      have hi : i < l.length := by omega
      refine EvP.neg (by simp) (EvP.pos (by omega) (EvP.pos (by omega) ?_))
      have h3 := hw l[i] (List.getElem_mem hi)
      have hok := hv.2.1 i hi
      have hlast : i + 1 = l.length → l[i].f0 = 4 ∨ l[i].f0 = 14 := by
        intro e
        have := hv.2.2
        rw [show l.length - 1 = i by omega] at this
        simpa [List.getD, List.getElem?_eq_getElem hi] using this
      have hg : ∀ x, goesZ l (i : Int) x = true ↔ ((l[i].f0 = 4 ∨ l[i].f0 = 5) ∧ x = l[i].f3) ∨ (l[i].f0 ≠ 4 ∧ l[i].f0 ≠ 14 ∧ x = (i : Int) + 1) := by
        intro x
        unfold goesZ
        rw [if_neg hin, rdT_at hi, Bool.or_eq_true, decide_eq_true_iff, decide_eq_true_iff]
      rw [rdT_at hi, wrap_nat (n := l[i].f3) (by omega) (by omega), wrap_nat (n := (i : Int) + 1) (by omega) (by omega)]
      obtain ⟨hok1, hok2⟩ := hok
      refine EvP.ite (fun c4 => EvP.now (nextL_eq (by simp) (fun x => ?_))) (fun c4 => EvP.ite (fun c14 => EvP.now (nextL_eq .nil (fun x => ?_))) (fun c14 => EvP.ite (fun c5 => ?_) (fun c5 => EvP.now (nextL_eq (by simp) (fun x => ?_)))))
      · rw [hg, List.mem_singleton]; have := hok2 (.inl c4); omega
      · rw [hg]; simp; omega
      · have := hok2 (.inr c5)
        refine EvP.bindS (sort2 _ _) ?_
        by_cases hle : (i : Int) + 1 ≤ l[i].f3
        · rw [if_pos hle]
          refine EvP.bindS (compact2 _ _) ?_
          by_cases he : (i : Int) + 1 = l[i].f3
          · rw [if_pos he]
            refine EvP.now (nextL_eq (by simp) (fun x => ?_))
            rw [hg, List.mem_singleton]; omega
          · rw [if_neg he]
            refine EvP.now (nextL_eq (by simp; omega) (fun x => ?_))
            rw [hg]; simp; omega
        · rw [if_neg hle]
          refine EvP.bindS (compact2 _ _) ?_
          rw [if_neg (by omega)]
          refine EvP.now (nextL_eq (by simp; omega) (fun x => ?_))
          rw [hg]; simp; omega
      · rw [hg, List.mem_singleton]; omega
  simp only [lint_Next.f]
  exact EvP.ite (fun h => j0 true (by simp [h])) (fun h => j0 _ (by simp; omega))

/-- a place can be come to. -/
inductive Rch (l : List S41) : Nat → Prop
  | start : Rch l 0
  | step {a b : Nat} : Rch l a → a < l.length → b < l.length → goesZ l a b = true → Rch l b
noncomputable def reachL (l : List S41) : List Bool := (List.range l.length).map fun i => @decide (Rch l i) (Classical.propDecidable _)
theorem reachL_len (l : List S41) : (reachL l).length = l.length := by simp [reachL]
theorem reachL_at {l : List S41} {i : Nat} (h : i < (reachL l).length) : (reachL l)[i] = true ↔ Rch l i := by
  simp [reachL]
theorem reachL_eq {l : List S41} {t : List Bool} (hl : t.length = l.length) (h : ∀ i (hi : i < t.length), t[i] = true ↔ Rch l i) : t = reachL l := by
  refine List.ext_getElem (by rw [hl, reachL_len]) (fun i h1 h2 => ?_)
  rw [Bool.eq_iff_iff, h i h1, reachL_at h2]
/-- marked places that are closed, and can be come to, are all that can be come to. -/
theorem reach_closed {l : List S41} {t : List Bool} (hN : 0 < l.length) (hl : t.length = l.length) (h0 : t[0]'(by omega) = true) (hr : ∀ i (hi : i < t.length), t[i] = true → Rch l i)
    (hc : ∀ a b (ha : a < t.length) (hb : b < t.length), t[a] = true → goesZ l a b = true → t[b] = true) : t = reachL l := by
  refine reachL_eq hl (fun i hi => ⟨hr i hi, fun h => ?_⟩)
  induction h with
  | start => exact h0
  | step h1 h2 h3 h4 ih => exact hc _ _ (by omega) (by omega) (ih (by omega)) h4
theorem set_cnt : ∀ (x : List Bool) (n : Nat) (h : n < x.length), x[n] = false → (x.set n true).count false + 1 = x.count false
  | b :: x, 0, _, e => by simp at e; subst e; simp
  | b :: x, n + 1, h, e => by
    have := set_cnt x n (by simpa using h) (by simpa using e)
    simp only [List.set_cons_succ, List.count_cons]
    omega
theorem set_at (x : List Bool) (n i : Nat) (h : i < (x.set n true).length) : (x.set n true)[i] = true ↔ (i = n ∨ x[i]'(by simpa using h) = true) := by
  rw [List.getElem_set]
  by_cases e : n = i
  · simp [e]
  · simp [e, Ne.symm e]

section
variable {prio : Int} {l : List S41}
/-- places on the stack are marked; what is marked can be come to; what is marked and not on the stack (nor p) is closed. -/
structure Dfs (l : List S41) (x3 : List Bool) (x4 : List Int) (p : Option Nat) : Prop where
  len : x3.length = l.length
  first : ∃ h : 0 < x3.length, x3[0] = true
  stack : ∀ s ∈ x4, ∃ n : Nat, s = (n : Int) ∧ n < l.length ∧ ∀ h : n < x3.length, x3[n] = true
  come : ∀ i (hi : i < x3.length), x3[i] = true → Rch l i
  shut : ∀ a b (ha : a < x3.length) (hb : b < x3.length), x3[a] = true → (a : Int) ∉ x4 → some a ≠ p → goesZ l a b = true → x3[b] = true
theorem dfs_go (hw : W32 l) (hN : l.length ≤ 1000) (hv : Valid l) : ∀ (m : Nat) (x3 : List Bool) (x4 : List Int), m ≤ 100000 → 2 * x3.count false + x4.length ≤ m → Dfs l x3 x4 none →
    EvP (fun k => lint_Reach.l0 k x3 x4 prio l) (· = reachL l) := by
  intro m
  induction m with
  | zero =>
    intro x3 x4 hm hle inv
    obtain rfl : x4 = [] := List.eq_nil_of_length_eq_zero (by omega)
    refine EvP.succ ?_
    simp only [lint_Reach.l0]
    refine EvP.neg (by simp) (EvP.now ?_)
    exact reach_closed hv.1 inv.len inv.first.2 inv.come (fun a b ha hb h1 h2 => inv.shut a b ha hb h1 (by simp) (by simp) h2)
  | succ m ih =>
    intro x3 x4 hm hle inv
    refine EvP.succ ?_
    simp only [lint_Reach.l0]
    rcases List.eq_nil_or_concat x4 with rfl | ⟨ys, s, rfl⟩
    · refine EvP.neg (by simp) (EvP.now ?_)
      exact reach_closed hv.1 inv.len inv.first.2 inv.come (fun a b ha hb h1 h2 => inv.shut a b ha hb h1 (by simp) (by simp) h2)
    · rw [List.concat_eq_append] at *
      obtain ⟨p, rfl, hp, hpm⟩ := inv.stack s (by simp)
      simp only [List.length_append, List.length_singleton] at hle ⊢
      rw [wrap_nat (n := ((ys.length + 1 : Nat) : Int) - 1) (by omega) (by omega), show ((ys.length + 1 : Nat) : Int) - 1 = (ys.length : Int) by omega]
      refine EvP.pos (by omega) (EvP.pos (by omega) (EvP.pos (by omega) (EvP.pos (by omega) ?_)))
      rw [rd_nat, show (ys ++ [(p : Int)]).getD ys.length 0 = (p : Int) by simp, Int.toNat_natCast, List.take_left']
      · refine EvP.bind (next_f hw hN hv p) ?_
        rintro t rfl
        -- the places that come next, one by one
        have inner : ∀ (d j : Nat) (y3 : List Bool) (y4 : List Int), (nextL l p).length - j = d → 2 * y3.count false + y4.length ≤ m → Dfs l y3 y4 (some p) →
            (∀ i (hi : i < (nextL l p).length), i < j → ∀ n : Nat, (nextL l p)[i] = (n : Int) → ∀ h : n < y3.length, y3[n] = true) →
            EvP (fun k => lint_Reach.l1 k y3 y4 (nextL l p) ((nextL l p).length : Int) (j : Int) prio l) (· = reachL l) := by
          intro d
          induction d with
          | zero =>
            intro j y3 y4 hd hle2 inv2 hdone
            refine EvP.succ ?_
            simp only [lint_Reach.l1]
            refine EvP.neg (by omega) (ih y3 y4 (by omega) hle2 ⟨inv2.len, inv2.first, inv2.stack, inv2.come, fun a b ha hb h1 h2 _ h4 => ?_⟩)
            by_cases e : a = p
            · subst e
              have hm1 : (b : Int) ∈ nextL l a := mem_nextL.2 ⟨by omega, by have := inv2.len; omega, h4⟩
              obtain ⟨i, hi, he⟩ := List.getElem_of_mem hm1
              exact hdone i hi (by omega) b he hb
            · exact inv2.shut a b ha hb h1 h2 (by simpa using e) h4
          | succ d ihd =>
            intro j y3 y4 hd hle2 inv2 hdone
            have hj : j < (nextL l p).length := by omega
            refine EvP.succ ?_
            simp only [lint_Reach.l1]
            obtain ⟨h0, h1, h2⟩ := mem_nextL.1 (List.getElem_mem hj)
            obtain ⟨n, hn⟩ := Int.eq_ofNat_of_zero_le h0
            have hnl : n < l.length := by omega
            have hny : n < y3.length := by have := inv2.len; omega
            rw [rd_at hj, hn, rdOf_at hny, wrap_up (by have := nextL_len l p; omega), Int.toNat_natCast]
            refine EvP.pos (by omega) (EvP.pos (by omega) (EvP.pos (by omega) (EvP.pos (by omega) (EvP.pos (by omega) (EvP.ite (fun hy => ?_) (fun hy => EvP.pos (by omega) ?_))))))
            · refine ihd (j + 1) y3 y4 (by omega) hle2 inv2 (fun i hi hij q hq hql => ?_)
              by_cases e : i = j
              · subst e; rw [hn] at hq; obtain rfl : n = q := by omega
                exact hy
              · exact hdone i hi (by omega) q hq hql
            · have hyf : y3[n] = false := by simpa using hy
              have hc := set_cnt y3 n hny hyf
              refine ihd (j + 1) _ _ (by omega) (by simp; omega) ⟨by simp [inv2.len], ?_, ?_, ?_, ?_⟩ ?_
              · obtain ⟨q1, q2⟩ := inv2.first
                exact ⟨by simpa using q1, (set_at _ _ _ _).2 (.inr q2)⟩
              · intro s hs
                rw [List.mem_append, List.mem_singleton] at hs
                rcases hs with hs | rfl
                · obtain ⟨q, rfl, hq1, hq2⟩ := inv2.stack s hs
                  exact ⟨q, rfl, hq1, fun h => (set_at _ _ _ _).2 (.inr (hq2 (by simpa using h)))⟩
                · exact ⟨n, rfl, hnl, fun h => (set_at _ _ _ _).2 (.inl rfl)⟩
              · intro i hi hit
                rcases (set_at _ _ _ _).1 hit with rfl | h
                · refine Rch.step (inv.come p (by have := inv.len; omega) (hpm (by have := inv.len; omega))) hp hnl (by rw [← hn]; exact h2)
                · exact inv2.come i (by simpa using hi) h
              · intro a b ha hb hat hns hne hg
                refine (set_at _ _ _ _).2 (.inr ?_)
                rw [List.mem_append, List.mem_singleton] at hns
                rcases (set_at _ _ _ _).1 hat with rfl | h
                · exact absurd (.inr rfl) hns
                · exact inv2.shut a b (by simpa using ha) (by simpa using hb) h (fun hh => hns (.inl hh)) hne hg
              · intro i hi hij q hq hql
                refine (set_at _ _ _ _).2 ?_
                by_cases e : i = j
                · subst e; rw [hn] at hq; exact .inl (by omega)
                · exact .inr (hdone i hi (by omega) q hq (by simpa using hql))
        refine inner _ 0 x3 ys rfl (by omega) ⟨inv.len, inv.first, fun s hs => inv.stack s (by simp [hs]), inv.come, fun a b ha hb h1 h2 h3 h4 => ?_⟩ (fun i hi h => by omega)
        refine inv.shut a b ha hb h1 ?_ (by simp) h4
        rw [List.mem_append, List.mem_singleton]
        rintro (h | h)
        · exact h2 h
        · exact h3 (by congr 1; omega)
      · rfl
theorem reach_f (hw : W32 l) (hN : l.length ≤ 1000) (hv : Valid l) : EvP (fun k => lint_Reach.f k prio l) (· = reachL l) := by
  have hpos := hv.1
  simp only [lint_Reach.f]
  refine EvP.pos (by omega) (EvP.pos (by omega) ?_)
  simp only [Option.bind_some, Int.toNat_natCast, List.length_replicate]
  refine EvP.neg (by omega) (EvP.pos (by omega) ?_)
  have hc : ((List.replicate l.length false).set 0 true).count false ≤ l.length := Nat.le_trans List.count_le_length (by simp)
  refine dfs_go hw hN hv 10000 _ _ (by omega) (by simp at hc ⊢; omega) ⟨by simp, ⟨by simp [hpos], by simp⟩, ?_, ?_, ?_⟩
  · intro s hs
    rw [List.mem_singleton] at hs
    subst hs
    exact ⟨0, rfl, hpos, fun h => by simp⟩
  · intro i hi h
    rcases (set_at _ _ _ _).1 h with rfl | h
    · exact Rch.start
    · simp at h
  · intro a b ha hb h1 h2 _ _
    rcases (set_at _ _ _ _).1 h1 with rfl | h
    · exact absurd (by simp) h2
    · simp at h
end
end Go.Proofs.Ytgiimdoabkcoaaa.PLint

/-
Lint, plain: the reference's Reach answers the same; the places that can't be come to; the document's example.
-/
namespace Go.Proofs.Ytgiimdoabkcoaaa.PLint
set_option linter.unusedVariables false
set_option linter.unusedSimpArgs false
open Go.RowKit Go.Proofs.YtgiimdoabkcoaaaW.PrintWords Go.Proofs.YtgiimdoabkcoaaaW.PrintLast Go.Proofs.YtgiimdoabkcoaaaW.PrintMore

section
variable {prio : Int} {l : List S41}
/-- marked places can be come to; the first is marked. -/
structure Swp (l : List S41) (x3 : List Bool) : Prop where
  len : x3.length = l.length
  first : ∃ h : 0 < x3.length, x3[0] = true
  come : ∀ i (hi : i < x3.length), x3[i] = true → Rch l i
theorem sweep (hw : W32 l) (hN : l.length ≤ 1000) (hv : Valid l) : ∀ (c : Nat) (x3 : List Bool), x3.count false ≤ c → Swp l x3 →
    EvP (fun k => pinfoldref26_Reach.l1 k x3 true prio l) (· = reachL l) := by
  intro c
  induction c using Nat.strongRecOn with
  | _ c ihc =>
    intro x3 hc inv
    refine EvP.succ ?_
    simp only [pinfoldref26_Reach.l1]
    refine EvP.pos trivial ?_
    -- the pairs (a, b), one by one
    have row : ∀ (da a : Nat) (y3 : List Bool) (again : Bool), l.length - a = da → a ≤ l.length → Swp l y3 → y3.count false ≤ c → (again = true → y3.count false < c) →
        (again = false → ∀ p q (hp : p < y3.length) (hq : q < y3.length), p < a → y3[p] = true → goesZ l p q = true → y3[q] = true) →
        EvP (fun k => pinfoldref26_Reach.l2 k y3 again (l.length : Int) (a : Int) prio l) (· = reachL l) := by
      intro da
      induction da with
      | zero =>
        intro a y3 again hd ha inv2 hc2 hag hsh
        refine EvP.succ ?_
        simp only [pinfoldref26_Reach.l2]
        refine EvP.neg (by omega) ?_
        cases again with
        | true => exact ihc (y3.count false) (hag rfl) y3 (Nat.le_refl _) inv2
        | false =>
          refine EvP.succ ?_
          simp only [pinfoldref26_Reach.l1]
          refine EvP.neg (by simp) (EvP.now ?_)
          exact reach_closed hv.1 inv2.len inv2.first.2 inv2.come (fun p q hp hq h1 h2 => hsh rfl p q hp hq (by have := inv2.len; omega) h1 h2)
      | succ da iha =>
        intro a y3 again hd ha inv2 hc2 hag hsh
        refine EvP.succ ?_
        simp only [pinfoldref26_Reach.l2]
        refine EvP.pos (by omega) ?_
        rw [inv2.len]
        have col : ∀ (db b : Nat) (z3 : List Bool) (again : Bool), l.length - b = db → b ≤ l.length → Swp l z3 → z3.count false ≤ c → (again = true → z3.count false < c) →
            (again = false → ∀ p q (hp : p < z3.length) (hq : q < z3.length), (p < a ∨ p = a ∧ q < b) → z3[p] = true → goesZ l p q = true → z3[q] = true) →
            EvP (fun k => pinfoldref26_Reach.l3 k z3 again (a : Int) (l.length : Int) (a : Int) (l.length : Int) (b : Int) prio l) (· = reachL l) := by
          intro db
          induction db with
          | zero =>
            intro b z3 again hd2 hb inv3 hc3 hag3 hsh3
            refine EvP.succ ?_
            simp only [pinfoldref26_Reach.l3]
            refine EvP.neg (by omega) ?_
            rw [wrap_up (by omega)]
            refine iha (a + 1) z3 again (by omega) (by omega) inv3 hc3 hag3 (fun e p q hp hq hpa => hsh3 e p q hp hq ?_)
            have := inv3.len; omega
          | succ db ihb =>
            intro b z3 again hd2 hb inv3 hc3 hag3 hsh3
            have hbl : b < l.length := by omega
            have hal : a < l.length := by omega
            have hlen := inv3.len
            have hbz : b < z3.length := by omega
            have haz : a < z3.length := by omega
            refine EvP.succ ?_
            simp only [pinfoldref26_Reach.l3]
            rw [rdOf_at haz, rdOf_at hbz, wrap_up (by omega), Int.toNat_natCast]
            have on : (z3[a] = true → goesZ l a b = true → z3[b] = true) → EvP (fun k => pinfoldref26_Reach.l3 k z3 again (a : Int) (l.length : Int) (a : Int) (l.length : Int) ((b + 1 : Nat) : Int) prio l) (· = reachL l) := by
              intro hab
              refine ihb (b + 1) z3 again (by omega) (by omega) inv3 hc3 hag3 (fun e p q hp hq hpq h1 h2 => ?_)
              by_cases he : p = a ∧ q = b
              · obtain ⟨rfl, rfl⟩ := he; exact hab h1 h2
              · exact hsh3 e p q hp hq (by omega) h1 h2
            refine EvP.pos (by omega) (EvP.pos (by omega) (EvP.pos (by omega) (EvP.ite (fun h1 => ?_) (fun h1 => on (fun h => absurd h h1)))))
            refine EvP.pos (by omega) (EvP.pos (by omega) (EvP.ite (fun h2 => on (fun _ _ => h2)) (fun h2 => ?_)))
            refine EvP.bindS (goes_f hw hN _ _) (EvP.ite (fun h3 => ?_) (fun h3 => on (fun _ h => absurd h h3)))
            have hcn := set_cnt z3 b hbz (by simpa using h2)
            refine ihb (b + 1) _ true (by omega) (by omega) ⟨by simp [hlen], ?_, ?_⟩ (by omega) (fun _ => by omega) (fun e => by cases e)
            · obtain ⟨q1, q2⟩ := inv3.first
              exact ⟨by simpa using q1, (set_at _ _ _ _).2 (.inr q2)⟩
            · intro i hi h
              rcases (set_at _ _ _ _).1 h with rfl | h
              · exact Rch.step (inv3.come a haz h1) hal hbl h3
              · exact inv3.come i (by simpa using hi) h
        exact col _ 0 y3 again rfl (by omega) inv2 hc2 hag (fun e p q hp hq hpq => hsh e p q hp hq (by omega))
    rw [inv.len]
    exact row _ 0 x3 false rfl (by omega) inv hc (fun e => by cases e) (fun _ p q _ _ h => by omega)
theorem refreach_f (hw : W32 l) (hN : l.length ≤ 1000) (hv : Valid l) : EvP (fun k => pinfoldref26_Reach.f k prio l) (· = reachL l) := by
  have hpos := hv.1
  simp only [pinfoldref26_Reach.f]
  refine EvP.pos (by omega) (EvP.pos (by omega) ?_)
  simp only [Option.bind_some, Int.toNat_natCast, List.length_replicate]
  have init : ∀ (d i : Nat) (x3 : List Bool), l.length - i = d → i ≤ l.length → x3.length = l.length → (∀ j (hj : j < x3.length), x3[j] = true ↔ j = 0 ∧ 0 < i) →
      EvP (fun k => pinfoldref26_Reach.l0 k x3 (l.length : Int) (i : Int) prio l) (· = reachL l) := by
    intro d
    induction d with
    | zero =>
      intro i x3 hd hi hl hx
      refine EvP.succ ?_
      simp only [pinfoldref26_Reach.l0]
      refine EvP.neg (by omega) (sweep hw hN hv _ x3 (Nat.le_refl _) ⟨hl, ⟨by omega, (hx 0 (by omega)).2 ⟨rfl, by omega⟩⟩, fun j hj h => ?_⟩)
      obtain ⟨rfl, _⟩ := (hx j hj).1 h
      exact Rch.start
    | succ d ih =>
      intro i x3 hd hi hl hx
      refine EvP.succ ?_
      simp only [pinfoldref26_Reach.l0]
      rw [wrap_up (by omega), Int.toNat_natCast]
      refine EvP.pos (by omega) (EvP.pos (by omega) (EvP.pos (by omega) (ih (i + 1) _ (by omega) (by omega) (by simp [hl]) (fun j hj => ?_))))
      rw [List.getElem_set]
      by_cases e : i = j
      · subst e; simp <;> omega
      · rw [if_neg e, hx j (by simpa using hj)]; omega
  exact init _ 0 _ rfl (by omega) (by simp) (fun j hj => by simp)

end
end Go.Proofs.Ytgiimdoabkcoaaa.PLint

/-
Lint, plain: the ways on which a lock is had or not; the reference's Held answers so.
-/
namespace Go.Proofs.Ytgiimdoabkcoaaa.PLint
set_option linter.unusedVariables false
set_option linter.unusedSimpArgs false
open Go.RowKit Go.Proofs.YtgiimdoabkcoaaaW.PrintWords Go.Proofs.YtgiimdoabkcoaaaW.PrintLast Go.Proofs.YtgiimdoabkcoaaaW.PrintMore

/-- numbers of locks are from 0 to 15. -/
def Locky (l : List S41) : Prop := ∀ j (hj : j < l.length), l[j].f0 = 9 ∨ l[j].f0 = 10 → 0 ≤ l[j].f3 ∧ l[j].f3 < 16
theorem insOK_lock {x : Ins} {len : Int} (h : insOK x len) (h9 : x.op = 9 ∨ x.op = 10) : 0 ≤ x.n ∧ x.n ≤ 15 := by
  unfold insOK Ins.err insErr at h
  rw [if_neg (by omega)] at h
  by_cases h2 : regOK (shA x.op) x.a = false ∨ regOK (shB x.op) x.b = false
  · rw [if_pos h2] at h; omega
  · rw [if_neg h2] at h
    unfold numErr at h
    rw [if_neg (by omega), if_neg (by omega)] at h
    have hm : mostN x.op = 15 := by unfold mostN; rw [if_pos (by omega)]
    rw [hm] at h
    by_cases h5 : x.n < 0 ∨ 15 < x.n
    · rw [if_pos h5] at h; omega
    · omega
theorem locky_of {prio : Int} {l : List S41} (h : (checkS prio (l.map toIns)).1 = 0) : Locky l := by
  obtain ⟨h1, h2, h3⟩ := checkS_ok h
  simp only [List.length_map] at h1 h2 h3
  intro j hj h9
  have := insOK_lock (h3 j hj)
  simp only [List.getElem_map, toIns] at this
  have := this h9
  omega
theorem fine_f2 {prio : Int} {l : List S41} (hw : W32 l) : ∃ b, pinfoldlaw26_fine.f prio l = some b ∧ (b = true → Valid l ∧ l.length ≤ 30 ∧ Locky l) := by
  unfold pinfoldlaw26_fine.f
  by_cases h : (l.length : Int) > 30
  · exact ⟨false, by rw [if_pos h], fun e => by cases e⟩
  · refine ⟨(checkS prio (l.map toIns)).1 == 0, ?_, fun e => ⟨valid_of (prio := prio) (by simpa using e), by omega, locky_of (prio := prio) (by simpa using e)⟩⟩
    rw [if_neg h]
    unfold pinfoldref09_Check.f
    rw [if_pos (in32B_of hw)]; rfl

def takesZ (locks : Int) (k : Nat) (x : S41) : Bool := decide (x.f0 = 9) && (decide (x.f3 = (k : Int)) && decide ((k : Int) < locks))
def givesZ (k : Nat) (x : S41) : Bool := decide (x.f0 = 10) && decide (x.f3 = (k : Int))
def aft (locks : Int) (k : Nat) (x : S41) (h : Bool) : Bool := (h || takesZ locks k x) && !givesZ k x
theorem not_both (locks : Int) (k : Nat) (x : S41) : (takesZ locks k x && givesZ k x) = false := by
  unfold takesZ givesZ
  by_cases h : x.f0 = 9 <;> simp [h]
/-- a way comes to a place with the lock (true), or without it. -/
inductive Way (l : List S41) (locks : Int) (k : Nat) : Nat → Bool → Prop
  | start : Way l locks k 0 false
  | step {a b : Nat} {h : Bool} : Way l locks k a h → a < l.length → b < l.length → goesZ l a b = true → Way l locks k b (aft locks k (l.getD a z41) h)
theorem Way.come {l : List S41} {locks : Int} {k i : Nat} {h : Bool} (w : Way l locks k i h) : Rch l i := by
  induction w with
  | start => exact .start
  | step _ h1 h2 h3 ih => exact .step ih h1 h2 h3
theorem Rch.way {l : List S41} (locks : Int) (k : Nat) {i : Nat} (r : Rch l i) : ∃ h, Way l locks k i h := by
  induction r with
  | start => exact ⟨_, .start⟩
  | step _ h1 h2 h3 ih => obtain ⟨h, hh⟩ := ih; exact ⟨_, .step hh h1 h2 h3⟩
noncomputable def wayB (l : List S41) (locks : Int) (k : Nat) (h : Bool) (i : Nat) : Bool := @decide (Way l locks k i h) (Classical.propDecidable _)
theorem wayB_iff {l : List S41} {locks : Int} {k i : Nat} {h : Bool} : wayB l locks k h i = true ↔ Way l locks k i h := by simp [wayB]
noncomputable def mayL (l : List S41) (locks : Int) (k : Nat) : List Bool := (List.range l.length).map fun i => wayB l locks k true i
noncomputable def mustL (l : List S41) (locks : Int) (k : Nat) : List Bool := (List.range l.length).map fun i => wayB l locks k true i && !wayB l locks k false i

def mk (z9 z10 : List Bool) (h : Bool) (i : Nat) : Bool := (if h then z9 else z10).getD i false
theorem cnt_or (z : List Bool) (b : Nat) (hb : b < z.length) (w : Bool) : (z.set b (z[b] || w)).count false + (if (w && !z[b]) = true then 1 else 0) = z.count false := by
  cases hz : z[b] with
  | true => have : z.set b true = z := by rw [← hz]; exact List.set_getElem_self hb
            simp [this]
  | false =>
    cases w with
    | false => have : z.set b false = z := by rw [← hz]; exact List.set_getElem_self hb
               simp [this]
    | true => simpa using set_cnt z b hb hz
theorem getD_setor (z : List Bool) (b i : Nat) (hb : b < z.length) (w : Bool) : (z.set b (z[b] || w)).getD i false = if i = b then (z[b] || w) else z.getD i false := by
  simp only [List.getD_eq_getElem?_getD, List.getElem?_set]
  by_cases h : b = i
  · subst h; simp [hb]
  · simp [h, Ne.symm h]

section
variable {prio : Int} {l : List S41} {locks : Int} {K : Nat}
structure HIn (l : List S41) (locks : Int) (K : Nat) (z9 z10 : List Bool) : Prop where
  l9 : z9.length = l.length
  l10 : z10.length = l.length
  first : mk z9 z10 false 0 = true
  come : ∀ h i, mk z9 z10 h i = true → Way l locks K i h
def Shut (l : List S41) (locks : Int) (K : Nat) (z9 z10 : List Bool) (p q : Nat) : Prop := goesZ l p q = true → ∀ h, mk z9 z10 h p = true → mk z9 z10 (aft locks K (l.getD p z41) h) q = true
theorem held_closed {z9 z10 : List Bool} (inv : HIn l locks K z9 z10) (hs : ∀ p q, p < l.length → q < l.length → Shut l locks K z9 z10 p q) (h : Bool) (i : Nat) : mk z9 z10 h i = wayB l locks K h i := by
  rw [Bool.eq_iff_iff, wayB_iff]
  refine ⟨inv.come h i, fun w => ?_⟩
  induction w with
  | start => exact inv.first
  | step _ h1 h2 h3 ih => exact hs _ _ h1 h2 h3 _ ih

/-- one step of the sweep, put together out of its parts. -/
theorem held_step {P : List Bool × List Bool → Prop} {z9 z10 : List Bool} {again : Bool} {a b : Nat} {x8 x43 x44 x49 : Int} (ha9 : a < z9.length) (ha10 : a < z10.length) (hb9 : b < z9.length) (hb10 : b < z10.length)
    (x : S41) (hx : -2147483648 ≤ x.f3 ∧ x.f3 ≤ 2147483647) (tk gv w o : Bool) (hgv : gv = givesZ K x) (hw : w = ((z9[a] || tk && z10[a]) && !gv)) (ho : o = (z10[a] && !tk || gv && (z9[a] || z10[a]))) (hnb : (tk && gv) = false)
    (h : EvP (fun k => pinfoldref26_Held.l3 k (K : Int) locks x8 (z9.set b (z9[b] || w)) (z10.set b (z10[b] || o)) (again || (w && !z9[b] || o && !z10[b])) (a : Int) x43 x44 x49 (wrap64 ((b : Int) + 1)) prio l) P) :
    EvP (fun k => pinfoldref26_Held.j4 k (K : Int) locks x8 z9 z10 again (a : Int) (b : Int) tk x43 x44 x49 (b : Int) prio l x.f0 x.f1 x.f2 x.f3) P := by
  have p1 : (0 : Int) ≤ (a : Int) := by omega
  have p2 : (a : Int) < (z9.length : Int) := by omega
  have p3 : (a : Int) < (z10.length : Int) := by omega
  have q1 : (0 : Int) ≤ (b : Int) := by omega
  have q2 : (b : Int) < (z9.length : Int) := by omega
  have q3 : (b : Int) < (z10.length : Int) := by omega
  have s9 : z9[b] = true → z9.set b true = z9 := fun e => by rw [← e]; exact List.set_getElem_self hb9
  have s9' : z9[b] = false → z9.set b false = z9 := fun e => by rw [← e]; exact List.set_getElem_self hb9
  have s10 : z10[b] = true → z10.set b true = z10 := fun e => by rw [← e]; exact List.set_getElem_self hb10
  have s10' : z10[b] = false → z10.set b false = z10 := fun e => by rw [← e]; exact List.set_getElem_self hb10
  have j8 : EvP (fun k => pinfoldref26_Held.j8 k (K : Int) locks x8 z9 z10 again (a : Int) (b : Int) w o x43 x44 x49 (b : Int) (w && !z9[b] || o && !z10[b]) prio l) P := by
    refine EvP.succ ?_
    simp only [pinfoldref26_Held.j8, rdOf_at hb9, rdOf_at hb10, if_pos q1, if_pos q2, if_pos q3, Int.toNat_natCast, Option.bind_some]
    clear hw ho hgv hnb p1 p2 p3 q1 q2 q3 ha9 ha10
    cases h9 : z9[b] <;> cases h10 : z10[b] <;> cases w <;> cases o <;> cases again <;> simp_all
  have j7 : EvP (fun k => pinfoldref26_Held.j7 k (K : Int) locks x8 z9 z10 again (a : Int) (b : Int) w o x43 x44 x49 (b : Int) prio l) P := by
    refine EvP.succ ?_
    simp only [pinfoldref26_Held.j7, rdOf_at hb9, rdOf_at hb10, if_pos q1, if_pos q2, if_pos q3]
    clear h hw ho
    cases h9 : z9[b] <;> cases h10 : z10[b] <;> cases w <;> cases o <;> simp_all
  have j6 : EvP (fun k => pinfoldref26_Held.j6 k (K : Int) locks x8 z9 z10 again (a : Int) (b : Int) tk gv w x43 x44 x49 (b : Int) prio l) P := by
    refine EvP.succ ?_
    simp only [pinfoldref26_Held.j6, rdOf_at ha9, rdOf_at ha10, if_pos p1, if_pos p2, if_pos p3]
    clear h hw j8 hgv
    subst ho
    cases h9 : z9[a] <;> cases h10 : z10[a] <;> cases tk <;> cases gv <;> simp_all
  have j5 : EvP (fun k => pinfoldref26_Held.j5 k (K : Int) locks x8 z9 z10 again (a : Int) (b : Int) tk gv x43 x44 x49 (b : Int) prio l) P := by
    refine EvP.succ ?_
    simp only [pinfoldref26_Held.j5, rdOf_at ha9, rdOf_at ha10, if_pos p1, if_pos p2, if_pos p3]
    clear h ho j8 j7 hgv
    subst hw
    cases h9 : z9[a] <;> cases h10 : z10[a] <;> cases tk <;> cases gv <;> simp_all
  refine EvP.succ ?_
  simp only [pinfoldref26_Held.j4]
  rw [wrap_nat (n := x.f3) (by omega) (by omega)]
  refine EvP.ite (fun h10 => ?_) (fun h10 => ?_)
  · have e : (x.f3 == (K : Int)) = gv := by rw [hgv]; simp [givesZ, h10]; rfl
    rw [e]; exact j5
  · have e : false = gv := by rw [hgv]; simp [givesZ, h10]
    rw [e]; exact j5

theorem mk_set (z9 z10 : List Bool) (b i : Nat) (hb9 : b < z9.length) (hb10 : b < z10.length) (w o h : Bool) :
    mk (z9.set b (z9[b] || w)) (z10.set b (z10[b] || o)) h i = (mk z9 z10 h i || (decide (i = b) && (if h then w else o))) := by
  unfold mk
  cases h with
  | true => simp only [if_true]; rw [getD_setor z9 b i hb9 w]
            by_cases e : i = b
            · subst e; simp [List.getD, List.getElem?_eq_getElem hb9]
            · simp [e]
  | false => simp only [Bool.false_eq_true, if_false]; rw [getD_setor z10 b i hb10 o]
             by_cases e : i = b
             · subst e; simp [List.getD, List.getElem?_eq_getElem hb10]
             · simp [e]
theorem mk_at9 {z9 z10 : List Bool} {i : Nat} (hi : i < z9.length) : mk z9 z10 true i = z9[i] := by simp [mk, List.getElem?_eq_getElem hi]
theorem mk_at10 {z9 z10 : List Bool} {i : Nat} (hi : i < z10.length) : mk z9 z10 false i = z10[i] := by simp [mk, List.getElem?_eq_getElem hi]

/-- the last loop: sure to be had. -/
theorem held_l4 (z9 z10 : List Bool) (n : Nat) (h9 : z9.length = n) (h10 : z10.length = n) (hN : n ≤ 1000) : ∀ (d i : Nat) (z : List Bool), n - i = d → i ≤ n → z.length = n → (∀ j (hj : j < z.length), z[j] = (decide (j < i) && (z9.getD j false && !z10.getD j false))) →
    EvP (fun k => pinfoldref26_Held.l4 k z9 z10 z (n : Int) (i : Int)) (· = (z9, (List.range n).map fun j => z9.getD j false && !z10.getD j false)) := by
  intro d
  induction d with
  | zero =>
    intro i z hd hi hz hv
    obtain rfl : i = n := by omega
    refine EvP.succ ?_
    simp only [pinfoldref26_Held.l4]
    refine EvP.neg (by omega) (EvP.now ?_)
    congr 1
    refine List.ext_getElem (by simp [hz]) (fun j h1 h2 => ?_)
    rw [hv j h1]
    have : j < i := by omega
    simp [this]
  | succ d ih =>
    intro i z hd hi hz hv
    have hi9 : i < z9.length := by omega
    have hi10 : i < z10.length := by omega
    refine EvP.succ ?_
    simp only [pinfoldref26_Held.l4]
    rw [rdOf_at hi9, rdOf_at hi10, wrap_up (by omega), Int.toNat_natCast]
    have go : ∀ v : Bool, v = (z9[i] && !z10[i]) → EvP (fun k => pinfoldref26_Held.l4 k z9 z10 (z.set i v) (n : Int) ((i + 1 : Nat) : Int)) (· = (z9, (List.range n).map fun j => z9.getD j false && !z10.getD j false)) := by
      rintro v rfl
      refine ih (i + 1) _ (by omega) (by omega) (by simp [hz]) (fun j hj => ?_)
      rw [List.getElem_set]
      by_cases e : i = j
      · subst e; simp [List.getElem?_eq_getElem hi9, List.getElem?_eq_getElem hi10]
      · rw [if_neg e, hv j (by simpa using hj)]
        have : (j < i + 1) = (j < i) := by rw [eq_iff_iff]; omega
        simp only [this]
    refine EvP.pos (by omega) (EvP.pos (by omega) (EvP.pos (by omega) (EvP.ite (fun h => EvP.pos (by omega) (EvP.pos (by omega) (go _ (by simp [h])))) (fun h => EvP.pos (by omega) (go _ (by simp [h]))))))

noncomputable def heldR (l : List S41) (locks : Int) (K : Nat) : List Bool × List Bool := (mayL l locks K, mustL l locks K)
theorem held_sweep (hw : W32 l) (hN : l.length ≤ 1000) (hv : Valid l) : ∀ (c : Nat) (z9 z10 : List Bool), z9.count false + z10.count false ≤ c → HIn l locks K z9 z10 →
    EvP (fun k => pinfoldref26_Held.l1 k (K : Int) locks (l.length : Int) z9 z10 true prio l) (· = heldR l locks K) := by
  intro c
  induction c using Nat.strongRecOn with
  | _ c ihc =>
    intro z9 z10 hc inv
    refine EvP.succ ?_
    simp only [pinfoldref26_Held.l1]
    refine EvP.pos trivial ?_
    have row : ∀ (da a : Nat) (y9 y10 : List Bool) (again : Bool), l.length - a = da → a ≤ l.length → HIn l locks K y9 y10 → y9.count false + y10.count false ≤ c → (again = true → y9.count false + y10.count false < c) →
        (again = false → ∀ p q, p < l.length → q < l.length → p < a → Shut l locks K y9 y10 p q) →
        EvP (fun k => pinfoldref26_Held.l2 k (K : Int) locks (l.length : Int) y9 y10 again (l.length : Int) (a : Int) prio l) (· = heldR l locks K) := by
      intro da
      induction da with
      | zero =>
        intro a y9 y10 again hd ha inv2 hc2 hag hsh
        have r9 := inv2.l9
        have r10 := inv2.l10
        refine EvP.succ ?_
        simp only [pinfoldref26_Held.l2]
        refine EvP.neg (by omega) ?_
        cases again with
        | true => exact ihc _ (hag rfl) y9 y10 (Nat.le_refl _) inv2
        | false =>
          have hcl := held_closed inv2 (fun p q hp hq => hsh rfl p q hp hq (by omega))
          refine EvP.succ ?_
          simp only [pinfoldref26_Held.l1]
          refine EvP.neg (by simp) (EvP.pos (by omega) (EvP.pos (by omega) ?_))
          simp only [Option.bind_some, Int.toNat_natCast, List.length_replicate]
          refine EvP.mono (held_l4 y9 y10 l.length r9 r10 hN _ 0 _ rfl (by omega) (by simp) (fun j hj => by simp)) ?_
          rintro r rfl
          unfold heldR mayL mustL
          congr 1
          · refine List.ext_getElem (by simp [r9]) (fun j h1 h2 => ?_)
            have := hcl true j
            rw [mk_at9 h1] at this
            simp [this]
          · refine List.map_congr_left (fun j hj => ?_)
            have e1 := hcl true j
            have e2 := hcl false j
            unfold mk at e1 e2
            rw [if_pos rfl] at e1
            rw [if_neg (by simp)] at e2
            rw [e1, e2]
      | succ da iha =>
        intro a y9 y10 again hd ha inv2 hc2 hag hsh
        refine EvP.succ ?_
        simp only [pinfoldref26_Held.l2]
        refine EvP.pos (by omega) ?_
        have col : ∀ (db b : Nat) (u9 u10 : List Bool) (again : Bool), l.length - b = db → b ≤ l.length → HIn l locks K u9 u10 → u9.count false + u10.count false ≤ c → (again = true → u9.count false + u10.count false < c) →
            (again = false → ∀ p q, p < l.length → q < l.length → (p < a ∨ p = a ∧ q < b) → Shut l locks K u9 u10 p q) →
            EvP (fun k => pinfoldref26_Held.l3 k (K : Int) locks (l.length : Int) u9 u10 again (a : Int) (l.length : Int) (a : Int) (l.length : Int) (b : Int) prio l) (· = heldR l locks K) := by
          intro db
          induction db with
          | zero =>
            intro b u9 u10 again hd2 hb inv3 hc3 hag3 hsh3
            refine EvP.succ ?_
            simp only [pinfoldref26_Held.l3]
            refine EvP.neg (by omega) ?_
            rw [wrap_up (by omega)]
            exact iha (a + 1) u9 u10 again (by omega) (by omega) inv3 hc3 hag3 (fun e p q hp hq hpa => hsh3 e p q hp hq (by omega))
          | succ db ihb =>
            intro b u9 u10 again hd2 hb inv3 hc3 hag3 hsh3
            have hbl : b < l.length := by omega
            have hal : a < l.length := by omega
            have r9 := inv3.l9
            have r10 := inv3.l10
            have ha9 : a < u9.length := by omega
            have ha10 : a < u10.length := by omega
            have hb9 : b < u9.length := by omega
            have hb10 : b < u10.length := by omega
            have hx := hw l[a] (List.getElem_mem hal)
            have hlD : l.getD a z41 = l[a] := by simp [List.getD, List.getElem?_eq_getElem hal]
            refine EvP.succ ?_
            simp only [pinfoldref26_Held.l3]
            rw [rdT_at hal]
            refine EvP.pos (by omega) (EvP.bindS (goes_f hw hN _ _) (EvP.ite (fun hg => ?_) (fun hg => ?_)))
            · -- the step
              have st : EvP (fun k => pinfoldref26_Held.j4 k (K : Int) locks (l.length : Int) u9 u10 again (a : Int) (b : Int) (takesZ locks K l[a]) (l.length : Int) (a : Int) (l.length : Int) (b : Int) prio l l[a].f0 l[a].f1 l[a].f2 l[a].f3) (· = heldR l locks K) := by
                refine held_step ha9 ha10 hb9 hb10 l[a] hx (takesZ locks K l[a]) (givesZ K l[a]) _ _ rfl rfl rfl (not_both _ _ _) ?_
                generalize hw1 : ((u9[a] || takesZ locks K l[a] && u10[a]) && !givesZ K l[a]) = w
                generalize ho1 : (u10[a] && !takesZ locks K l[a] || givesZ K l[a] && (u9[a] || u10[a])) = o
                have nb := not_both locks K l[a]
                have c9 := cnt_or u9 b hb9 w
                have c10 := cnt_or u10 b hb10 o
                have ms := fun i h => mk_set u9 u10 b i hb9 hb10 w o h
                have hmw : ∀ h, mk u9 u10 h a = true → (if aft locks K l[a] h then w else o) = true := by
                  intro h hm
                  cases h with
                  | true => rw [mk_at9 ha9] at hm; rw [← hw1, ← ho1]; unfold aft; revert nb; rw [hm]
                            cases takesZ locks K l[a] <;> cases givesZ K l[a] <;> simp
                  | false => rw [mk_at10 ha10] at hm; rw [← hw1, ← ho1]; unfold aft; revert nb; rw [hm]
                             cases takesZ locks K l[a] <;> cases givesZ K l[a] <;> simp
                have hww : w = true → Way l locks K b true := by
                  intro e
                  rw [← hw1] at e
                  by_cases h9 : u9[a] = true
                  · have := Way.step (inv3.come true a (by rw [mk_at9 ha9]; exact h9)) hal hbl hg
                    rw [hlD] at this
                    rw [show aft locks K l[a] true = true by unfold aft; revert e nb; rw [h9]; cases takesZ locks K l[a] <;> cases givesZ K l[a] <;> simp] at this
                    exact this
                  · have h10 : u10[a] = true ∧ takesZ locks K l[a] = true := by revert e; rw [Bool.not_eq_true] at h9; rw [h9]; cases takesZ locks K l[a] <;> cases givesZ K l[a] <;> simp
                    have := Way.step (inv3.come false a (by rw [mk_at10 ha10]; exact h10.1)) hal hbl hg
                    rw [hlD] at this
                    rw [show aft locks K l[a] false = true by unfold aft; revert nb; rw [h10.2]; cases givesZ K l[a] <;> simp] at this
                    exact this
                have hwo : o = true → Way l locks K b false := by
                  intro e
                  rw [← ho1] at e
                  by_cases h10 : u10[a] = true ∧ takesZ locks K l[a] = false
                  · have := Way.step (inv3.come false a (by rw [mk_at10 ha10]; exact h10.1)) hal hbl hg
                    rw [hlD] at this
                    rw [show aft locks K l[a] false = false by unfold aft; rw [h10.2]; simp] at this
                    exact this
                  · have hgv : givesZ K l[a] = true ∧ (u9[a] = true ∨ u10[a] = true) := by
                      revert e h10; cases u10[a] <;> cases u9[a] <;> cases takesZ locks K l[a] <;> cases givesZ K l[a] <;> simp
                    rcases hgv with ⟨hgv, h | h⟩
                    · have := Way.step (inv3.come true a (by rw [mk_at9 ha9]; exact h)) hal hbl hg
                      rw [hlD, show aft locks K l[a] true = false by unfold aft; rw [hgv]; simp] at this
                      exact this
                    · have := Way.step (inv3.come false a (by rw [mk_at10 ha10]; exact h)) hal hbl hg
                      rw [hlD, show aft locks K l[a] false = false by unfold aft; rw [hgv]; simp] at this
                      exact this
                rw [wrap_up (by omega)]
                refine ihb (b + 1) _ _ _ (by omega) (by omega) ⟨by simp [r9], by simp [r10], ?_, ?_⟩ (by split at c9 <;> split at c10 <;> omega) ?_ ?_
                · rw [ms, inv3.first]; rfl
                · intro h i hm
                  rw [ms, Bool.or_eq_true, Bool.and_eq_true, decide_eq_true_iff] at hm
                  rcases hm with hm | ⟨rfl, hm⟩
                  · exact inv3.come h i hm
                  · cases h with
                    | true => exact hww hm
                    | false => exact hwo hm
                · intro e
                  rw [Bool.or_eq_true] at e
                  rcases e with e | e
                  · have := hag3 e
                    split at c9 <;> split at c10 <;> omega
                  · rw [Bool.or_eq_true] at e
                    rcases e with e | e
                    · rw [if_pos e] at c9; split at c10 <;> omega
                    · rw [if_pos e] at c10; split at c9 <;> omega
                · intro e p q hp hq hpq hgo h hm
                  rw [Bool.or_eq_false_iff] at e
                  obtain ⟨e1, e2⟩ := e
                  rw [ms] at hm ⊢
                  by_cases he : p = a ∧ q = b
                  · obtain ⟨rfl, rfl⟩ := he
                    rw [hlD]
                    have hmp : mk u9 u10 h p = true := by
                      rw [Bool.or_eq_true] at hm
                      rcases hm with hm | hm
                      · exact hm
                      · rw [Bool.and_eq_true, decide_eq_true_iff] at hm
                        obtain ⟨hpq2, hm⟩ := hm
                        rw [Bool.or_eq_false_iff] at e2
                        subst hpq2
                        cases h with
                        | true => rw [mk_at9 ha9]; have := e2.1; simp only [if_true] at hm; rw [hm] at this; simpa using this
                        | false => rw [mk_at10 ha10]; have := e2.2; simp only [Bool.false_eq_true, if_false] at hm; rw [hm] at this; simpa using this
                    rw [hmw h hmp]; simp
                  · have hmp : mk u9 u10 h p = true := by
                      rw [Bool.or_eq_true] at hm
                      rcases hm with hm | hm
                      · exact hm
                      · rw [Bool.and_eq_true, decide_eq_true_iff] at hm
                        obtain ⟨hpq2, hm⟩ := hm
                        rw [Bool.or_eq_false_iff] at e2
                        subst hpq2
                        cases h with
                        | true => rw [mk_at9 hb9]; have := e2.1; simp only [if_true] at hm; rw [hm] at this; simpa using this
                        | false => rw [mk_at10 hb10]; have := e2.2; simp only [Bool.false_eq_true, if_false] at hm; rw [hm] at this; simpa using this
                    rw [hsh3 e1 p q hp hq (by omega) hgo h hmp]; rfl
              refine EvP.pos (by omega) (EvP.pos (by omega) (EvP.ite (fun h9 => ?_) (fun h9 => ?_)))
              · rw [wrap_nat (n := l[a].f3) (by omega) (by omega)]
                refine EvP.ite (fun h3 => ?_) (fun h3 => ?_)
                · rw [show decide ((K : Int) < locks) = takesZ locks K l[a] by simp [takesZ, h9, h3]]; exact st
                · rw [show false = takesZ locks K l[a] by simp [takesZ, h9, h3]]; exact st
              · rw [show false = takesZ locks K l[a] by simp [takesZ, h9]]; exact st
            · rw [wrap_up (by omega)]
              refine ihb (b + 1) u9 u10 again (by omega) (by omega) inv3 hc3 hag3 (fun e p q hp hq hpq => ?_)
              by_cases he : p = a ∧ q = b
              · obtain ⟨rfl, rfl⟩ := he; exact fun h => absurd h hg
              · exact hsh3 e p q hp hq (by omega)
        exact col _ 0 y9 y10 again rfl (by omega) inv2 hc2 hag (fun e p q hp hq hpq => hsh e p q hp hq (by omega))
    exact row _ 0 z9 z10 false rfl (by omega) inv hc (fun e => by cases e) (fun _ p q _ _ h => by omega)
theorem held_f (hw : W32 l) (hN : l.length ≤ 1000) (hv : Valid l) (locks : Int) (K : Nat) : EvP (fun k => pinfoldref26_Held.f k prio l (K : Int) locks) (· = heldR l locks K) := by
  have hpos := hv.1
  simp only [pinfoldref26_Held.f]
  refine EvP.pos (by omega) (EvP.pos (by omega) ?_)
  simp only [Option.bind_some, Int.toNat_natCast, List.length_replicate]
  have init : ∀ (d i : Nat) (z10 : List Bool), l.length - i = d → i ≤ l.length → z10.length = l.length → (∀ j (hj : j < z10.length), z10[j] = (decide (j = 0) && decide (0 < i))) →
      EvP (fun k => pinfoldref26_Held.l0 k (K : Int) locks (l.length : Int) (List.replicate l.length false) z10 (l.length : Int) (i : Int) prio l) (· = heldR l locks K) := by
    intro d
    induction d with
    | zero =>
      intro i z10 hd hi hl hx
      refine EvP.succ ?_
      simp only [pinfoldref26_Held.l0]
      refine EvP.neg (by omega) (held_sweep hw hN hv _ _ z10 (Nat.le_refl _) ⟨by simp, hl, ?_, ?_⟩)
      · rw [mk_at10 (by omega), hx 0 (by omega)]; simp; omega
      · intro h j hm
        cases h with
        | true =>
          by_cases hj : j < l.length <;> simp [mk, List.getElem?_replicate, hj] at hm
        | false =>
          by_cases hj : j < z10.length
          · rw [mk_at10 hj, hx j hj] at hm
            simp at hm
            obtain ⟨rfl, _⟩ := hm
            exact .start
          · simp [mk, List.getElem?_eq_none (Nat.le_of_not_lt hj)] at hm
    | succ d ih =>
      intro i z10 hd hi hl hx
      refine EvP.succ ?_
      simp only [pinfoldref26_Held.l0]
      rw [wrap_up (by omega), Int.toNat_natCast]
      refine EvP.pos (by omega) (EvP.pos (by omega) (EvP.pos (by omega) (ih (i + 1) _ (by omega) (by omega) (by simp [hl]) (fun j hj => ?_))))
      rw [List.getElem_set]
      by_cases e : i = j
      · subst e
        by_cases h0 : i = 0
        · subst h0; simp
        · have : ((i : Int) == 0) = false := by simp; omega
          simp [this, h0]
      · rw [if_neg e, hx j (by simpa using hj)]
        by_cases h0 : j = 0
        · subst h0; simp; omega
        · simp [h0]
  exact init _ 0 _ rfl (by omega) (by simp) (fun j hj => by simp)
end
end Go.Proofs.Ytgiimdoabkcoaaa.PLint

/-
Lint, plain: what is so at each place, put together along the ways until nothing changes (printed by gen_lintflow.py).
-/
namespace Go.Proofs.Ytgiimdoabkcoaaa.PLint
set_option linter.unusedVariables false
set_option linter.unusedSimpArgs false
open Go.RowKit Go.Proofs.YtgiimdoabkcoaaaW.PrintWords Go.Proofs.YtgiimdoabkcoaaaW.PrintLast Go.Proofs.YtgiimdoabkcoaaaW.PrintMore

theorem Bits.unique {v : Int} {f g : Nat → Bool} (h1 : Bits v f) (h2 : Bits v g) (j : Nat) : f j = g j := by
  obtain ⟨n, rfl, _, hn⟩ := h1
  obtain ⟨m, hm1, _, hm⟩ := h2
  obtain rfl : n = m := by omega
  rw [← hn, ← hm]
/-- behind an instruction, bit by bit. -/
theorem behind_f {x : S41} (hx : -2147483648 ≤ x.f3 ∧ x.f3 ≤ 2147483647) (hk : x.f0 = 9 ∨ x.f0 = 10 → 0 ≤ x.f3 ∧ x.f3 < 16) {v : Int} {f : Nat → Bool} (hb : Bits v f) (locks : Int) :
    EvP (fun k => lint_behind.f k x.f0 x.f1 x.f2 x.f3 v locks) (fun r => Bits r (fun j => aft locks j x (f j))) := by
  have h10 : ∀ b : Bool, b = false → (∀ j, takesZ locks j x = false) → EvP (fun k => lint_behind.j0 k v b x.f0 x.f1 x.f2 x.f3) (fun r => Bits r (fun j => aft locks j x (f j))) := by
    rintro b rfl ht
    refine EvP.succ ?_
    simp only [lint_behind.j0]
    refine EvP.neg (by simp) (EvP.ite (fun h => ?_) (fun h => EvP.now (hb.congr (fun j => ?_))))
    · obtain ⟨h0, h16⟩ := hk (.inr h)
      obtain ⟨n, hn⟩ := Int.eq_ofNat_of_zero_le h0
      refine EvP.pos h0 (EvP.now ?_)
      rw [hn]
      refine (hb.andNot (Bits.one n (by omega))).congr (fun j => ?_)
      unfold aft givesZ
      rw [ht, hn]
      by_cases e : j = n
      · subst e; simp [h]
      · have : ¬ ((n : Int) = (j : Int)) := by omega
        simp [h, e, this]
    · unfold aft givesZ; rw [ht]; simp [h]
  unfold lint_behind.f
  refine EvP.ite (fun h9 => ?_) (fun h9 => h10 false rfl (fun j => by simp [takesZ, h9]))
  obtain ⟨h0, h16⟩ := hk (.inl h9)
  obtain ⟨n, hn⟩ := Int.eq_ofNat_of_zero_le h0
  rw [wrap_nat (n := x.f3) (by omega) (by omega)]
  by_cases hlt : x.f3 < locks
  · rw [decide_eq_true hlt]
    refine EvP.succ ?_
    simp only [lint_behind.j0]
    refine EvP.pos trivial (EvP.pos h0 (EvP.now ?_))
    rw [hn]
    refine (hb.or (Bits.one n (by omega))).congr (fun j => ?_)
    unfold aft takesZ givesZ
    by_cases e : j = n
    · subst e; rw [hn] at hlt; simp [h9, hn, hlt]
    · have : ¬ ((n : Int) = (j : Int)) := by omega
      simp [h9, hn, e, this]
  · refine h10 _ (decide_eq_false hlt) (fun j => ?_)
    unfold takesZ
    by_cases e : x.f3 = (j : Int)
    · rw [← e]; simp [hlt]
    · simp [e]

structure FIn (l : List S41) (Ok : Nat → (Nat → Bool) → Prop) (x : List Int) : Prop where
  len : x.length = l.length
  each : ∀ i (hi : i < x.length), ∃ f, Bits x[i] f ∧ Ok i f
theorem FIn.set {l : List S41} {Ok : Nat → (Nat → Bool) → Prop} {x : List Int} (h : FIn l Ok x) {n : Nat} {r : Int} {g : Nat → Bool} (hn : n < x.length) (hr : Bits r g) (hg : Ok n g) : FIn l Ok (x.set n r) := by
  refine ⟨by simp [h.len], fun i hi => ?_⟩
  by_cases e : n = i
  · subst e; rw [List.getElem_set_self]; exact ⟨g, hr, hg⟩
  · rw [List.getElem_set_ne e]; exact h.each i (by simpa using hi)
def FShut1 (l : List S41) (locks : Int) (jn : Bool → Bool → Bool) (x : List Int) (p q : Nat) : Prop :=
  ∃ f g, (∃ hp : p < x.length, Bits x[p] f) ∧ (∃ hq : q < x.length, Bits x[q] g) ∧ ∀ j, jn (g j) (aft locks j (l.getD p z41) (f j)) = g j
def FShut (l : List S41) (locks : Int) (jn : Bool → Bool → Bool) (x : List Int) : Prop := ∀ p q, p < l.length → q < l.length → Rch l p → goesZ l p q = true → FShut1 l locks jn x p q
theorem sum_set (μ : Int → Nat) : ∀ (x : List Int) (n : Nat) (r : Int) (hn : n < x.length), ((x.set n r).map μ).sum + μ x[n] = (x.map μ).sum + μ r
  | a :: x, 0, r, _ => by simp; omega
  | a :: x, n + 1, r, hn => by
    have := sum_set μ x n r (by simpa using hn)
    simp at this ⊢
    omega

section
variable {prio : Int} {l : List S41} {locks : Int} {Ok : Nat → (Nat → Bool) → Prop} {jn : Bool → Bool → Bool} {μ : Int → Nat}
theorem flow_go (hw : W32 l) (hN : l.length ≤ 1000) (hv : Valid l) (hk : Locky l)
    (hJ : ∀ u v f g, Bits u f → Bits v g → ∃ r, lint_May_1.f u v = some r ∧ Bits r (fun j => jn (f j) (g j)) ∧ (r ≠ u → μ r < μ u))
    (hOk : ∀ p q f g, Rch l p → p < l.length → q < l.length → goesZ l p q = true → Ok p f → Ok q g → Ok q (fun j => jn (g j) (aft locks j (l.getD p z41) (f j)))) :
    ∀ (c : Nat) (x : List Int), (x.map μ).sum ≤ c → FIn l Ok x → EvP (fun k => lint_flow.l1 k locks (reachL l) x true prio l) (fun r => FIn l Ok r ∧ FShut l locks jn r) := by
  have hrl := reachL_len l
  intro c
  induction c using Nat.strongRecOn with
  | _ c ihc =>
    intro x hc inv
    refine EvP.succ ?_
    simp only [lint_flow.l1]
    refine EvP.pos trivial ?_
    have row : ∀ (da a : Nat) (y : List Int) (again : Bool), l.length - a = da → a ≤ l.length → FIn l Ok y → (y.map μ).sum ≤ c → (again = true → (y.map μ).sum < c) →
        (again = false → ∀ p q, p < a → p < l.length → q < l.length → Rch l p → goesZ l p q = true → FShut1 l locks jn y p q) →
        EvP (fun k => lint_flow.l2 k locks (reachL l) y again l (l.length : Int) (a : Int) prio l) (fun r => FIn l Ok r ∧ FShut l locks jn r) := by
      intro da
      induction da with
      | zero =>
        intro a y again hd ha inv2 hc2 hag hsh
        refine EvP.succ ?_
        simp only [lint_flow.l2]
        refine EvP.neg (by omega) ?_
        cases again with
        | true => exact ihc _ (hag rfl) y (Nat.le_refl _) inv2
        | false =>
          refine EvP.succ ?_
          simp only [lint_flow.l1]
          exact EvP.neg (by simp) (EvP.now ⟨inv2, fun p q hp hq hr hg => hsh rfl p q (by omega) hp hq hr hg⟩)
      | succ da iha =>
        intro a y again hd ha inv2 hc2 hag hsh
        have hal : a < l.length := by omega
        have har : a < (reachL l).length := by omega
        have hay : a < y.length := by have := inv2.len; omega
        refine EvP.succ ?_
        simp only [lint_flow.l2]
        rw [rdOf_at har, rd_at hay, rdT_at hal]
        refine EvP.pos (by omega) (EvP.pos (by omega) (EvP.pos (by omega) (EvP.pos (by omega) (EvP.ite (fun hr => EvP.pos (by omega) ?_) (fun hr => ?_)))))
        · have hra : Rch l a := (reachL_at har).1 hr
          have hlD : l.getD a z41 = l[a] := by simp [List.getD, List.getElem?_eq_getElem hal]
          obtain ⟨f, hfb, hfo⟩ := inv2.each a hay
          refine EvP.bind (behind_f (hw l[a] (List.getElem_mem hal)) (hk a hal) hfb locks) (fun held hheld => ?_)
          refine EvP.bind (next_f hw hN hv a) ?_
          rintro t rfl
          have inner : ∀ (d j : Nat) (z : List Int) (again3 : Bool), (nextL l a).length - j = d → FIn l Ok z → (z.map μ).sum ≤ c → (again3 = true → (z.map μ).sum < c) → (again3 = false → z = y ∧ again = false ∧ ∀ i (hi : i < (nextL l a).length), i < j → ∀ q : Nat, (nextL l a)[i] = (q : Int) → FShut1 l locks jn y a q) →
              EvP (fun k => lint_flow.l3 k locks (reachL l) z again3 held l (l.length : Int) (a : Int) (nextL l a) ((nextL l a).length : Int) (j : Int) prio l) (fun r => FIn l Ok r ∧ FShut l locks jn r) := by
            intro d
            induction d with
            | zero =>
              intro j z again3 hd3 inv3 hc3 hag3 hsh3
              refine EvP.succ ?_
              simp only [lint_flow.l3]
              rw [wrap_up (i := a) (by omega)]
              refine EvP.neg (by omega) (iha (a + 1) z again3 (by omega) (by omega) inv3 hc3 hag3 (fun e p q hpa hp hq hrp hg => ?_))
              obtain ⟨rfl, e2, e3⟩ := hsh3 e
              by_cases he : p = a
              · subst he
                obtain ⟨i, hi, hq2⟩ := List.getElem_of_mem (mem_nextL.2 ⟨by omega, by omega, hg⟩ : ((q : Nat) : Int) ∈ nextL l p)
                exact e3 i hi (by omega) q hq2
              · exact hsh e2 p q (by omega) hp hq hrp hg
            | succ d ihd =>
              intro j z again3 hd3 inv3 hc3 hag3 hsh3
              have hj : j < (nextL l a).length := by omega
              refine EvP.succ ?_
              simp only [lint_flow.l3]
              obtain ⟨h0, h1, h2⟩ := mem_nextL.1 (List.getElem_mem hj)
              obtain ⟨n, hn⟩ := Int.eq_ofNat_of_zero_le h0
              have hnl : n < l.length := by omega
              have hnz : n < z.length := by have := inv3.len; omega
              obtain ⟨g, hgb, hgo⟩ := inv3.each n hnz
              obtain ⟨r, hr1, hr2, hr3⟩ := hJ _ _ _ _ hgb hheld
              rw [rd_at hj, hn, rd_at hnz, wrap_up (by have := nextL_len l a; omega), Int.toNat_natCast]
              refine EvP.pos (by omega) (EvP.pos (by omega) (EvP.pos (by omega) (EvP.pos (by omega) (EvP.pos (by omega) (EvP.bindS hr1 (EvP.ite (fun hy => ?_) (fun hy => ?_)))))))
              · refine ihd (j + 1) z again3 (by omega) inv3 hc3 hag3 (fun e => ?_)
                obtain ⟨e1, e2, e3⟩ := hsh3 e
                refine ⟨e1, e2, fun i hi hij q hq => ?_⟩
                by_cases he : i = j
                · subst he
                  rw [hn] at hq
                  obtain rfl : n = q := by omega
                  subst e1
                  exact ⟨f, g, ⟨hay, hfb⟩, ⟨hnz, hgb⟩, fun j => by rw [hlD]; have := (hy ▸ hr2 : Bits z[n] _); exact (Bits.unique this hgb j)⟩
                · exact e3 i hi (by omega) q hq
              · have hs := sum_set μ z n r hnz
                have hlt := hr3 hy
                refine ihd (j + 1) _ true (by omega) (FIn.set inv3 hnz hr2 ?_) (by omega) (fun _ => by omega) (fun e => by cases e)
                have := hOk a n f g hra hal hnl (by rw [← hn]; exact h2) hfo hgo
                rw [hlD] at this; exact this
          exact inner _ 0 y again rfl inv2 hc2 hag (fun e => ⟨rfl, e, fun i hi h => by omega⟩)
        · rw [wrap_up (by omega)]
          refine iha (a + 1) y again (by omega) (by omega) inv2 hc2 hag (fun e p q hpa hp hq hrp hg => ?_)
          by_cases he : p = a
          · subst he; exact absurd ((reachL_at har).2 hrp) hr
          · exact hsh e p q (by omega) hp hq hrp hg
    exact row _ 0 x false rfl (by omega) inv hc (fun e => by cases e) (fun _ p q h => by omega)
theorem flow_f (hw : W32 l) (hN : l.length ≤ 1000) (hv : Valid l) (hk : Locky l) (first : Int)
    (hJ : ∀ u v f g, Bits u f → Bits v g → ∃ r, lint_May_1.f u v = some r ∧ Bits r (fun j => jn (f j) (g j)) ∧ (r ≠ u → μ r < μ u))
    (hOk : ∀ p q f g, Rch l p → p < l.length → q < l.length → goesZ l p q = true → Ok p f → Ok q g → Ok q (fun j => jn (g j) (aft locks j (l.getD p z41) (f j))))
    (h1 : ∀ i, Rch l i → 0 < i → i < l.length → ∃ f, Bits first f ∧ Ok i f) (h2 : ∀ i, i < l.length → (¬ Rch l i ∨ i = 0) → ∃ f, Bits 0 f ∧ Ok i f) :
    EvP (fun k => lint_flow.f k prio l locks first 0) (fun r => FIn l Ok r ∧ FShut l locks jn r) := by
  have hrl := reachL_len l
  simp only [lint_flow.f]
  refine EvP.bind (reach_f hw hN hv) ?_
  rintro t rfl
  refine EvP.pos (by omega) (EvP.pos (by omega) ?_)
  simp only [Option.bind_some, Int.toNat_natCast, List.length_replicate]
  have init : ∀ (d i : Nat) (x : List Int), l.length - i = d → i ≤ l.length → x.length = l.length → (∀ j (hj : j < x.length), j < i → ∃ f, Bits x[j] f ∧ Ok j f) → (∀ j (hj : j < x.length), i ≤ j → x[j] = 0) →
      EvP (fun k => lint_flow.l0 k locks first (reachL l) x (l.length : Int) (i : Int) prio l) (fun r => FIn l Ok r ∧ FShut l locks jn r) := by
    intro d
    induction d with
    | zero =>
      intro i x hd hi hx hdone htodo
      refine EvP.succ ?_
      simp only [lint_flow.l0]
      exact EvP.neg (by omega) (flow_go hw hN hv hk hJ hOk _ x (Nat.le_refl _) ⟨hx, fun j hj => hdone j hj (by omega)⟩)
    | succ d ih =>
      intro i x hd hi hx hdone htodo
      have hir : i < (reachL l).length := by omega
      have hix : i < x.length := by omega
      refine EvP.succ ?_
      simp only [lint_flow.l0]
      rw [rdOf_at hir, wrap_up (by omega)]
      have stay : (¬ Rch l i ∨ i = 0) → EvP (fun k => lint_flow.l0 k locks first (reachL l) x (l.length : Int) ((i + 1 : Nat) : Int) prio l) (fun r => FIn l Ok r ∧ FShut l locks jn r) := by
        intro hs
        refine ih (i + 1) x (by omega) (by omega) hx (fun j hj hij => ?_) (fun j hj hij => htodo j hj (by omega))
        by_cases he : j = i
        · subst he; rw [htodo j hj (by omega)]; exact h2 j (by omega) hs
        · exact hdone j hj (by omega)
      rw [Int.toNat_natCast]
      refine EvP.pos (by omega) (EvP.pos (by omega) (EvP.pos (by omega) (EvP.ite (fun hr => EvP.ite (fun h0 => EvP.pos (by omega) ?_) (fun h0 => stay (.inr (by omega)))) (fun hr => stay (.inl (fun h => hr ((reachL_at hir).2 h)))))))
      refine ih (i + 1) _ (by omega) (by omega) (by simp [hx]) (fun j hj hij => ?_) (fun j hj hij => ?_)
      · by_cases he : j = i
        · subst he; rw [List.getElem_set_self]; exact h1 j ((reachL_at hir).1 hr) (by omega) (by omega)
        · rw [List.getElem_set_ne (by omega)]; exact hdone j (by simpa using hj) (by omega)
      · rw [List.getElem_set_ne (by omega)]; exact htodo j (by simpa using hj) (by omega)
  exact init _ 0 _ rfl (by omega) (by simp) (fun j hj h => by omega) (fun j hj h => by simp)
end
end Go.Proofs.Ytgiimdoabkcoaaa.PLint

/-
Lint, plain: what is so at each place, put together along the ways until nothing changes (printed by gen_lintflow.py).
-/
namespace Go.Proofs.Ytgiimdoabkcoaaa.PLint
set_option linter.unusedVariables false
set_option linter.unusedSimpArgs false
open Go.RowKit Go.Proofs.YtgiimdoabkcoaaaW.PrintWords Go.Proofs.YtgiimdoabkcoaaaW.PrintLast Go.Proofs.YtgiimdoabkcoaaaW.PrintMore

section
variable {prio : Int} {l : List S41} {locks : Int} {Ok : Nat → (Nat → Bool) → Prop} {jn : Bool → Bool → Bool} {μ : Int → Nat}
theorem flowM_go (hw : W32 l) (hN : l.length ≤ 1000) (hv : Valid l) (hk : Locky l)
    (hJ : ∀ u v f g, Bits u f → Bits v g → ∃ r, lint_Must_1.f u v = some r ∧ Bits r (fun j => jn (f j) (g j)) ∧ (r ≠ u → μ r < μ u))
    (hOk : ∀ p q f g, Rch l p → p < l.length → q < l.length → goesZ l p q = true → Ok p f → Ok q g → Ok q (fun j => jn (g j) (aft locks j (l.getD p z41) (f j)))) :
    ∀ (c : Nat) (x : List Int), (x.map μ).sum ≤ c → FIn l Ok x → EvP (fun k => lint_flowMust.l1 k locks (reachL l) x true prio l) (fun r => FIn l Ok r ∧ FShut l locks jn r) := by
  have hrl := reachL_len l
  intro c
  induction c using Nat.strongRecOn with
  | _ c ihc =>
    intro x hc inv
    refine EvP.succ ?_
    simp only [lint_flowMust.l1]
    refine EvP.pos trivial ?_
    have row : ∀ (da a : Nat) (y : List Int) (again : Bool), l.length - a = da → a ≤ l.length → FIn l Ok y → (y.map μ).sum ≤ c → (again = true → (y.map μ).sum < c) →
        (again = false → ∀ p q, p < a → p < l.length → q < l.length → Rch l p → goesZ l p q = true → FShut1 l locks jn y p q) →
        EvP (fun k => lint_flowMust.l2 k locks (reachL l) y again l (l.length : Int) (a : Int) prio l) (fun r => FIn l Ok r ∧ FShut l locks jn r) := by
      intro da
      induction da with
      | zero =>
        intro a y again hd ha inv2 hc2 hag hsh
        refine EvP.succ ?_
        simp only [lint_flowMust.l2]
        refine EvP.neg (by omega) ?_
        cases again with
        | true => exact ihc _ (hag rfl) y (Nat.le_refl _) inv2
        | false =>
          refine EvP.succ ?_
          simp only [lint_flowMust.l1]
          exact EvP.neg (by simp) (EvP.now ⟨inv2, fun p q hp hq hr hg => hsh rfl p q (by omega) hp hq hr hg⟩)
      | succ da iha =>
        intro a y again hd ha inv2 hc2 hag hsh
        have hal : a < l.length := by omega
        have har : a < (reachL l).length := by omega
        have hay : a < y.length := by have := inv2.len; omega
        refine EvP.succ ?_
        simp only [lint_flowMust.l2]
        rw [rdOf_at har, rd_at hay, rdT_at hal]
        refine EvP.pos (by omega) (EvP.pos (by omega) (EvP.pos (by omega) (EvP.pos (by omega) (EvP.ite (fun hr => EvP.pos (by omega) ?_) (fun hr => ?_)))))
        · have hra : Rch l a := (reachL_at har).1 hr
          have hlD : l.getD a z41 = l[a] := by simp [List.getD, List.getElem?_eq_getElem hal]
          obtain ⟨f, hfb, hfo⟩ := inv2.each a hay
          refine EvP.bind (behind_f (hw l[a] (List.getElem_mem hal)) (hk a hal) hfb locks) (fun held hheld => ?_)
          refine EvP.bind (next_f hw hN hv a) ?_
          rintro t rfl
          have inner : ∀ (d j : Nat) (z : List Int) (again3 : Bool), (nextL l a).length - j = d → FIn l Ok z → (z.map μ).sum ≤ c → (again3 = true → (z.map μ).sum < c) → (again3 = false → z = y ∧ again = false ∧ ∀ i (hi : i < (nextL l a).length), i < j → ∀ q : Nat, (nextL l a)[i] = (q : Int) → FShut1 l locks jn y a q) →
              EvP (fun k => lint_flowMust.l3 k locks (reachL l) z again3 held l (l.length : Int) (a : Int) (nextL l a) ((nextL l a).length : Int) (j : Int) prio l) (fun r => FIn l Ok r ∧ FShut l locks jn r) := by
            intro d
            induction d with
            | zero =>
              intro j z again3 hd3 inv3 hc3 hag3 hsh3
              refine EvP.succ ?_
              simp only [lint_flowMust.l3]
              rw [wrap_up (i := a) (by omega)]
              refine EvP.neg (by omega) (iha (a + 1) z again3 (by omega) (by omega) inv3 hc3 hag3 (fun e p q hpa hp hq hrp hg => ?_))
              obtain ⟨rfl, e2, e3⟩ := hsh3 e
              by_cases he : p = a
              · subst he
                obtain ⟨i, hi, hq2⟩ := List.getElem_of_mem (mem_nextL.2 ⟨by omega, by omega, hg⟩ : ((q : Nat) : Int) ∈ nextL l p)
                exact e3 i hi (by omega) q hq2
              · exact hsh e2 p q (by omega) hp hq hrp hg
            | succ d ihd =>
              intro j z again3 hd3 inv3 hc3 hag3 hsh3
              have hj : j < (nextL l a).length := by omega
              refine EvP.succ ?_
              simp only [lint_flowMust.l3]
              obtain ⟨h0, h1, h2⟩ := mem_nextL.1 (List.getElem_mem hj)
              obtain ⟨n, hn⟩ := Int.eq_ofNat_of_zero_le h0
              have hnl : n < l.length := by omega
              have hnz : n < z.length := by have := inv3.len; omega
              obtain ⟨g, hgb, hgo⟩ := inv3.each n hnz
              obtain ⟨r, hr1, hr2, hr3⟩ := hJ _ _ _ _ hgb hheld
              rw [rd_at hj, hn, rd_at hnz, wrap_up (by have := nextL_len l a; omega), Int.toNat_natCast]
              refine EvP.pos (by omega) (EvP.pos (by omega) (EvP.pos (by omega) (EvP.pos (by omega) (EvP.pos (by omega) (EvP.bindS hr1 (EvP.ite (fun hy => ?_) (fun hy => ?_)))))))
              · refine ihd (j + 1) z again3 (by omega) inv3 hc3 hag3 (fun e => ?_)
                obtain ⟨e1, e2, e3⟩ := hsh3 e
                refine ⟨e1, e2, fun i hi hij q hq => ?_⟩
                by_cases he : i = j
                · subst he
                  rw [hn] at hq
                  obtain rfl : n = q := by omega
                  subst e1
                  exact ⟨f, g, ⟨hay, hfb⟩, ⟨hnz, hgb⟩, fun j => by rw [hlD]; have := (hy ▸ hr2 : Bits z[n] _); exact (Bits.unique this hgb j)⟩
                · exact e3 i hi (by omega) q hq
              · have hs := sum_set μ z n r hnz
                have hlt := hr3 hy
                refine ihd (j + 1) _ true (by omega) (FIn.set inv3 hnz hr2 ?_) (by omega) (fun _ => by omega) (fun e => by cases e)
                have := hOk a n f g hra hal hnl (by rw [← hn]; exact h2) hfo hgo
                rw [hlD] at this; exact this
          exact inner _ 0 y again rfl inv2 hc2 hag (fun e => ⟨rfl, e, fun i hi h => by omega⟩)
        · rw [wrap_up (by omega)]
          refine iha (a + 1) y again (by omega) (by omega) inv2 hc2 hag (fun e p q hpa hp hq hrp hg => ?_)
          by_cases he : p = a
          · subst he; exact absurd ((reachL_at har).2 hrp) hr
          · exact hsh e p q (by omega) hp hq hrp hg
    exact row _ 0 x false rfl (by omega) inv hc (fun e => by cases e) (fun _ p q h => by omega)
theorem flowM_f (hw : W32 l) (hN : l.length ≤ 1000) (hv : Valid l) (hk : Locky l) (first : Int)
    (hJ : ∀ u v f g, Bits u f → Bits v g → ∃ r, lint_Must_1.f u v = some r ∧ Bits r (fun j => jn (f j) (g j)) ∧ (r ≠ u → μ r < μ u))
    (hOk : ∀ p q f g, Rch l p → p < l.length → q < l.length → goesZ l p q = true → Ok p f → Ok q g → Ok q (fun j => jn (g j) (aft locks j (l.getD p z41) (f j))))
    (h1 : ∀ i, Rch l i → 0 < i → i < l.length → ∃ f, Bits first f ∧ Ok i f) (h2 : ∀ i, i < l.length → (¬ Rch l i ∨ i = 0) → ∃ f, Bits 0 f ∧ Ok i f) :
    EvP (fun k => lint_flowMust.f k prio l locks first 0) (fun r => FIn l Ok r ∧ FShut l locks jn r) := by
  have hrl := reachL_len l
  simp only [lint_flowMust.f]
  refine EvP.bind (reach_f hw hN hv) ?_
  rintro t rfl
  refine EvP.pos (by omega) (EvP.pos (by omega) ?_)
  simp only [Option.bind_some, Int.toNat_natCast, List.length_replicate]
  have init : ∀ (d i : Nat) (x : List Int), l.length - i = d → i ≤ l.length → x.length = l.length → (∀ j (hj : j < x.length), j < i → ∃ f, Bits x[j] f ∧ Ok j f) → (∀ j (hj : j < x.length), i ≤ j → x[j] = 0) →
      EvP (fun k => lint_flowMust.l0 k locks first (reachL l) x (l.length : Int) (i : Int) prio l) (fun r => FIn l Ok r ∧ FShut l locks jn r) := by
    intro d
    induction d with
    | zero =>
      intro i x hd hi hx hdone htodo
      refine EvP.succ ?_
      simp only [lint_flowMust.l0]
      exact EvP.neg (by omega) (flowM_go hw hN hv hk hJ hOk _ x (Nat.le_refl _) ⟨hx, fun j hj => hdone j hj (by omega)⟩)
    | succ d ih =>
      intro i x hd hi hx hdone htodo
      have hir : i < (reachL l).length := by omega
      have hix : i < x.length := by omega
      refine EvP.succ ?_
      simp only [lint_flowMust.l0]
      rw [rdOf_at hir, wrap_up (by omega)]
      have stay : (¬ Rch l i ∨ i = 0) → EvP (fun k => lint_flowMust.l0 k locks first (reachL l) x (l.length : Int) ((i + 1 : Nat) : Int) prio l) (fun r => FIn l Ok r ∧ FShut l locks jn r) := by
        intro hs
        refine ih (i + 1) x (by omega) (by omega) hx (fun j hj hij => ?_) (fun j hj hij => htodo j hj (by omega))
        by_cases he : j = i
        · subst he; rw [htodo j hj (by omega)]; exact h2 j (by omega) hs
        · exact hdone j hj (by omega)
      rw [Int.toNat_natCast]
      refine EvP.pos (by omega) (EvP.pos (by omega) (EvP.pos (by omega) (EvP.ite (fun hr => EvP.ite (fun h0 => EvP.pos (by omega) ?_) (fun h0 => stay (.inr (by omega)))) (fun hr => stay (.inl (fun h => hr ((reachL_at hir).2 h)))))))
      refine ih (i + 1) _ (by omega) (by omega) (by simp [hx]) (fun j hj hij => ?_) (fun j hj hij => ?_)
      · by_cases he : j = i
        · subst he; rw [List.getElem_set_self]; exact h1 j ((reachL_at hir).1 hr) (by omega) (by omega)
        · rw [List.getElem_set_ne (by omega)]; exact hdone j (by simpa using hj) (by omega)
      · rw [List.getElem_set_ne (by omega)]; exact htodo j (by simpa using hj) (by omega)
  exact init _ 0 _ rfl (by omega) (by simp) (fun j hj h => by omega) (fun j hj h => by simp)
end
end Go.Proofs.Ytgiimdoabkcoaaa.PLint

/-
Lint, plain: the document's example; the places that come next, one by one.
-/
namespace Go.Proofs.Ytgiimdoabkcoaaa.PLint
set_option linter.unusedVariables false
set_option linter.unusedSimpArgs false
open Go.RowKit Go.Proofs.YtgiimdoabkcoaaaW.PrintWords Go.Proofs.YtgiimdoabkcoaaaW.PrintLast Go.Proofs.YtgiimdoabkcoaaaW.PrintMore
theorem lives_f : EvP (fun k => pinfoldlaw26_lives.f k) (· = true) := by
  refine EvP.ev (Ev.of (fun k => pinfoldlaw26_lives.mono k) (k := 60) ?_) rfl
  decide +kernel
def nextP (l : List S41) (pc : Int) (i : Nat) : List Int := ((List.range i).filter fun b : Nat => goesZ l pc (b : Int)).map Int.ofNat
theorem lives_tail : EvP (fun k => (pinfoldlaw26_lives.f k).bind fun t => some t) (· = true) := EvP.bind lives_f (fun b hb => EvP.now hb)
end Go.Proofs.Ytgiimdoabkcoaaa.PLint

/-
Lint, plain: which locks a task may have, and has for sure; the printed law answers true.
-/
namespace Go.Proofs.Ytgiimdoabkcoaaa.PLint
set_option linter.unusedVariables false
set_option linter.unusedSimpArgs false
open Go.RowKit Go.Proofs.YtgiimdoabkcoaaaW.PrintWords Go.Proofs.YtgiimdoabkcoaaaW.PrintLast Go.Proofs.YtgiimdoabkcoaaaW.PrintMore

def lcut (locks : Int) : Int := mx 0 (mn locks 16)
theorem lcut_nat (locks : Int) : ∃ n : Nat, lcut locks = (n : Int) ∧ n ≤ 16 := by
  unfold lcut mx mn
  refine ⟨(if (0 : Int) < (if locks < 16 then locks else 16) then (if locks < 16 then locks else 16) else 0).toNat, ?_, ?_⟩ <;> (repeat' split) <;> omega
theorem lcut_lt {locks : Int} {j : Nat} (hj : j < 16) : (j : Int) < lcut locks ↔ (j : Int) < locks := by
  unfold lcut mx mn
  (repeat' split) <;> omega
section
variable {prio : Int} {l : List S41} {locks : Int}
theorem aft_cut (hk : Locky l) {p : Nat} (hp : p < l.length) (j : Nat) (h : Bool) : aft (lcut locks) j (l.getD p z41) h = aft locks j (l.getD p z41) h := by
  have hlD : l.getD p z41 = l[p] := by simp [List.getD, List.getElem?_eq_getElem hp]
  rw [hlD]
  have : takesZ (lcut locks) j l[p] = takesZ locks j l[p] := by
    unfold takesZ
    by_cases h9 : l[p].f0 = 9
    · by_cases h3 : l[p].f3 = (j : Int)
      · have := hk p hp (.inl h9)
        have e := lcut_lt (locks := locks) (j := j) (by omega)
        simp only [h9, h3, e]
      · simp [h3]
    · simp [h9]
  unfold aft
  rw [this]
theorem aft_mono {k : Nat} {x : S41} (h : Bool) (e : aft locks k x false = true) : aft locks k x h = true := by
  unfold aft at *
  revert e
  cases h <;> cases takesZ locks k x <;> cases givesZ k x <;> simp
theorem aft_drop {k : Nat} {x : S41} (h : Bool) (e : aft locks k x true = false) : aft locks k x h = false := by
  unfold aft at *
  revert e
  cases h <;> cases takesZ locks k x <;> cases givesZ k x <;> simp
theorem way_true_lt {j i : Nat} {h : Bool} (w : Way l locks j i h) : h = true → (j : Int) < locks := by
  induction w with
  | start => intro e; cases e
  | step _ _ _ _ ih =>
    rename_i a b h _ _ _ _
    intro e
    cases h with
    | true => exact ih rfl
    | false =>
      unfold aft takesZ at e
      simp at e
      exact e.1.2.2

/-- the words that tell, at each place, of which locks F is so. -/
def Words (l : List S41) (F : Nat → Nat → Bool) (x : List Int) : Prop := x.length = l.length ∧ ∀ i (hi : i < x.length), Bits x[i] (fun j => decide (j < 16) && F j i)
theorem Words.inj {F : Nat → Nat → Bool} {x y : List Int} (h1 : Words l F x) (h2 : Words l F y) : x = y :=
  List.ext_getElem (by rw [h1.1, h2.1]) (fun i a b => (h1.2 i a).inj (h2.2 i b))
noncomputable def mayB (l : List S41) (locks : Int) (j i : Nat) : Bool := wayB l locks j true i
noncomputable def mustB (l : List S41) (locks : Int) (j i : Nat) : Bool := wayB l locks j true i && !wayB l locks j false i

theorem may_f (hw : W32 l) (hN : l.length ≤ 1000) (hv : Valid l) (hk : Locky l) (locks : Int) : EvP (fun k => lint_May.f k prio l locks) (Words l (mayB l locks)) := by
  simp only [lint_May.f]
  refine EvP.bindS (b := lcut locks) rfl ?_
  refine EvP.bind (flow_f (Ok := fun i f => ∀ j, f j = true → Way l locks j i true) (jn := fun a b => a || b) (μ := fun v => (65536 - v).toNat) hw hN hv hk 0 ?_ ?_ ?_ ?_) ?_
  · intro u v f g hu hv'
    refine ⟨_, rfl, hu.or hv', fun hne => ?_⟩
    have h1 := or_le hu hv'
    have h2 := hu.range
    have h3 := (hu.or hv').range
    omega
  · intro p q f g hr hp hq hg hf hgq j hj
    dsimp only at hj
    rw [aft_cut hk hp, Bool.or_eq_true] at hj
    rcases hj with hj | hj
    · exact hgq j hj
    · cases hfj : f j with
      | true => have := Way.step (hf j hfj) hp hq hg; rw [← hfj, hj] at this; exact this
      | false =>
        rw [hfj] at hj
        obtain ⟨h, hh⟩ := hr.way locks j
        have := Way.step hh hp hq hg
        rw [aft_mono h hj] at this
        exact this
  · intro i _ _ _
    exact ⟨_, Bits.zero, fun j e => by cases e⟩
  · intro i _ _
    exact ⟨_, Bits.zero, fun j e => by cases e⟩
  · rintro x ⟨inv, hs⟩
    refine EvP.now ⟨inv.len, fun i hi => ?_⟩
    have up : ∀ j i h, Way l locks j i h → h = true → ∀ (hi : i < x.length) f, Bits x[i] f → f j = true := by
      intro j i h w
      induction w with
      | start => intro e; cases e
      | step wa h1 h2 h3 ih =>
        rename_i a b h
        intro e hi f hf
        obtain ⟨fa, fb, ⟨ha, hfa⟩, ⟨hb, hfb⟩, hcl⟩ := hs a b h1 h2 wa.come h3
        have hj := hcl j
        rw [aft_cut hk h1] at hj
        have e2 : aft locks j (l.getD a z41) (fa j) = true := by
          cases h with
          | true => rw [ih rfl ha fa hfa]; exact e
          | false => exact aft_mono _ e
        rw [e2] at hj
        rw [Bits.unique hf hfb j, ← hj]; simp
    obtain ⟨f, hf, hok⟩ := inv.each i hi
    refine hf.congr (fun j => ?_)
    cases hfj : f j with
    | true =>
      have h16 : j < 16 := by
        by_cases h : j < 16
        · exact h
        · rw [hf.high (by omega)] at hfj; cases hfj
      rw [eq_comm, Bool.and_eq_true, decide_eq_true_iff]
      exact ⟨h16, wayB_iff.2 (hok j hfj)⟩
    | false =>
      rw [eq_comm, Bool.and_eq_false_iff]
      refine .inr ?_
      cases hm : mayB l locks j i with
      | false => rfl
      | true => rw [up j i true (wayB_iff.1 hm) rfl hi f hf] at hfj; cases hfj

theorem must_f (hw : W32 l) (hN : l.length ≤ 1000) (hv : Valid l) (hk : Locky l) (locks : Int) : EvP (fun k => lint_Must.f k prio l locks) (Words l (mustB l locks)) := by
  simp only [lint_Must.f]
  refine EvP.bindS (b := lcut locks) rfl ?_
  obtain ⟨n, hn, hn16⟩ := lcut_nat locks
  refine EvP.pos (by omega) ?_
  refine EvP.bind (flowM_f (Ok := fun i f => (∀ j : Nat, f j = true → Rch l i ∧ i ≠ 0 ∧ (j : Int) < lcut locks) ∧ ∀ j : Nat, Rch l i → (j : Int) < lcut locks → f j = false → Way l locks j i false)
    (jn := fun a b => a && b) (μ := fun v => v.toNat) hw hN hv hk _ ?_ ?_ ?_ ?_) ?_
  · intro u v f g hu hv'
    refine ⟨_, rfl, hu.and hv', fun hne => ?_⟩
    have h1 := and_le hu hv'
    have h2 := hu.range
    have h3 := (hu.and hv').range
    omega
  · intro p q f g hr hp hq hg hf hgq
    refine ⟨fun j hj => ?_, fun j hrq hjl hj => ?_⟩
    · dsimp only at hj
      rw [Bool.and_eq_true] at hj
      exact hgq.1 j hj.1
    · dsimp only at hj
      rw [aft_cut hk hp, Bool.and_eq_false_iff] at hj
      rcases hj with hj | hj
      · exact hgq.2 j hrq hjl hj
      · cases hfj : f j with
        | false => have := Way.step (hf.2 j hr hjl hfj) hp hq hg; rw [← hfj, hj] at this; exact this
        | true =>
          rw [hfj] at hj
          obtain ⟨h, hh⟩ := hr.way locks j
          have := Way.step hh hp hq hg
          rw [aft_drop h hj] at this
          exact this
  · intro i hr h0 hi
    rw [hn]
    refine ⟨_, Bits.below n hn16, fun j hj => ?_, fun j _ hjl hj => ?_⟩
    · exact ⟨hr, by omega, by have := of_decide_eq_true hj; omega⟩
    · have := of_decide_eq_false hj; omega
  · intro i hi hz
    refine ⟨_, Bits.zero, fun j e => (by cases e), fun j hr _ _ => ?_⟩
    rcases hz with hz | rfl
    · exact absurd hr hz
    · exact .start
  · rintro x ⟨inv, hs⟩
    refine EvP.now ⟨inv.len, fun i hi => ?_⟩
    have up : ∀ j i h, Way l locks j i h → h = false → ∀ (hi : i < x.length) f, Bits x[i] f → f j = false := by
      intro j i h w
      induction w with
      | start =>
        intro e hi f hf
        obtain ⟨g, hg, hok⟩ := inv.each 0 hi
        rw [Bits.unique hf hg j]
        cases hgj : g j with
        | false => rfl
        | true => exact absurd rfl (hok.1 j hgj).2.1
      | step wa h1 h2 h3 ih =>
        rename_i a b h
        intro e hi f hf
        obtain ⟨fa, fb, ⟨ha, hfa⟩, ⟨hb, hfb⟩, hcl⟩ := hs a b h1 h2 wa.come h3
        have hj := hcl j
        rw [aft_cut hk h1] at hj
        have e2 : aft locks j (l.getD a z41) (fa j) = false := by
          cases h with
          | false => rw [ih rfl ha fa hfa]; exact e
          | true => exact aft_drop _ e
        rw [e2] at hj
        rw [Bits.unique hf hfb j, ← hj]; simp
    obtain ⟨f, hf, hok⟩ := inv.each i hi
    refine hf.congr (fun j => ?_)
    cases hfj : f j with
    | true =>
      obtain ⟨hr, _, hjl⟩ := hok.1 j hfj
      have h16 : j < 16 := by omega
      have hnf : ¬ Way l locks j i false := fun w => by rw [up j i false w rfl hi f hf] at hfj; cases hfj
      obtain ⟨h, hh⟩ := hr.way locks j
      have ht : Way l locks j i true := by
        cases h with
        | true => exact hh
        | false => exact absurd hh hnf
      have e1 : wayB l locks j true i = true := wayB_iff.2 ht
      have e2 : wayB l locks j false i = false := by
        cases e : wayB l locks j false i with
        | false => rfl
        | true => exact absurd (wayB_iff.1 e) hnf
      simp [mustB, e1, e2, h16]
    | false =>
      rw [eq_comm, Bool.and_eq_false_iff]
      by_cases h16 : j < 16
      · refine .inr ?_
        unfold mustB
        cases e1 : wayB l locks j true i with
        | false => rfl
        | true =>
          have w := wayB_iff.1 e1
          have hjl : (j : Int) < lcut locks := (lcut_lt h16).2 (way_true_lt w rfl)
          rw [wayB_iff.2 (hok.2 j w.come hjl hfj)]; rfl
      · exact .inl (by simpa using h16)

/-- the same, one lock behind the other: below K. -/
def WordsTo (l : List S41) (F : Nat → Nat → Bool) (K i0 : Nat) (x : List Int) : Prop := x.length = l.length ∧ ∀ i (hi : i < x.length), Bits x[i] (fun j => decide (j < if i < i0 then K + 1 else K) && F j i)
theorem WordsTo.skip {F : Nat → Nat → Bool} {K i0 : Nat} {x : List Int} (h : WordsTo l F K i0 x) (hF : F K i0 = false) : WordsTo l F K (i0 + 1) x := by
  refine ⟨h.1, fun i hi => (h.2 i hi).congr (fun j => ?_)⟩
  by_cases e : i = i0
  · subst e
    rw [if_neg (by omega), if_pos (by omega)]
    by_cases e2 : j = K
    · subst e2; simp [hF]
    · rw [show decide (j < K + 1) = decide (j < K) by rw [decide_eq_decide]; omega]
  · have e2 : (if i < i0 + 1 then K + 1 else K) = (if i < i0 then K + 1 else K) := by split <;> split <;> omega
    rw [e2]
theorem WordsTo.put {F : Nat → Nat → Bool} {K i0 : Nat} {x : List Int} (h : WordsTo l F K i0 x) (hK : K < 16) (hi0 : i0 < x.length) (hF : F K i0 = true) : WordsTo l F K (i0 + 1) (x.set i0 (IntKind.wrap .u16 (x[i0] + shl .u16 1 (K : Int)))) := by
  refine ⟨by simp [h.1], fun i hi => ?_⟩
  by_cases e : i = i0
  · subst e
    rw [List.getElem_set_self]
    have hb := h.2 i hi0
    rw [if_neg (by omega)] at hb
    rw [if_pos (by omega)]
    refine (hb.add hK (fun j hj => by simp; omega)).congr (fun j => ?_)
    by_cases e2 : j = K
    · subst e2; simp [hF]
    · rw [show decide (j < K + 1) = decide (j < K) by rw [decide_eq_decide]; omega]
      simp [e2]
  · have e2 : (if i < i0 + 1 then K + 1 else K) = (if i < i0 then K + 1 else K) := by split <;> split <;> omega
    rw [List.getElem_set_ne (by omega), e2]
    exact h.2 i (by simpa using hi)
theorem WordsTo.next {F : Nat → Nat → Bool} {K : Nat} {x : List Int} (h : WordsTo l F K l.length x) : WordsTo l F (K + 1) 0 x := by
  refine ⟨h.1, fun i hi => (h.2 i hi).congr (fun j => ?_)⟩
  rw [if_pos (by have := h.1; omega), if_neg (by omega)]
theorem sets_f (hw : W32 l) (hN : l.length ≤ 1000) (hv : Valid l) (locks : Int) : EvP (fun k => pinfoldref26_Sets.f k prio l locks) (fun r => Words l (mayB l locks) r.1 ∧ Words l (mustB l locks) r.2) := by
  simp only [pinfoldref26_Sets.f]
  refine EvP.pos (by omega) (EvP.pos (by omega) ?_)
  rw [Int.toNat_natCast]
  have all : ∀ (d K : Nat) (x y : List Int), 16 - K = d → K ≤ 16 → WordsTo l (mayB l locks) K 0 x → WordsTo l (mustB l locks) K 0 y →
      EvP (fun k => pinfoldref26_Sets.l0 k locks x y (K : Int) prio l) (fun r => Words l (mayB l locks) r.1 ∧ Words l (mustB l locks) r.2) := by
    intro d
    induction d with
    | zero =>
      intro K x y hd hK hx hy
      obtain rfl : K = 16 := by omega
      refine EvP.succ ?_
      simp only [pinfoldref26_Sets.l0]
      exact EvP.neg (by omega) (EvP.now ⟨⟨hx.1, fun i hi => by simpa using hx.2 i hi⟩, ⟨hy.1, fun i hi => by simpa using hy.2 i hi⟩⟩)
    | succ d ih =>
      intro K x y hd hK hx hy
      refine EvP.succ ?_
      simp only [pinfoldref26_Sets.l0]
      refine EvP.pos (by omega) (EvP.bind (held_f hw hN hv locks K) ?_)
      rintro r rfl
      have inner : ∀ (di i : Nat) (x y : List Int), l.length - i = di → i ≤ l.length → WordsTo l (mayB l locks) K i x → WordsTo l (mustB l locks) K i y →
          EvP (fun k => pinfoldref26_Sets.l1 k locks x y (K : Int) (heldR l locks K).1 (heldR l locks K).2 (l.length : Int) (i : Int) prio l) (fun r => Words l (mayB l locks) r.1 ∧ Words l (mustB l locks) r.2) := by
        intro di
        induction di with
        | zero =>
          intro i x y hdi hi hx hy
          obtain rfl : i = l.length := by omega
          refine EvP.succ ?_
          simp only [pinfoldref26_Sets.l1]
          rw [wrap_up (i := K) (by omega)]
          exact EvP.neg (by omega) (ih (K + 1) x y (by omega) (by omega) hx.next hy.next)
        | succ di ihi =>
          intro i x y hdi hi hx hy
          have h9 : i < (heldR l locks K).1.length := by simp [heldR, mayL]; omega
          have h10 : i < (heldR l locks K).2.length := by simp [heldR, mustL]; omega
          have e9 : (heldR l locks K).1[i] = mayB l locks K i := by simp [heldR, mayL, mayB]
          have e10 : (heldR l locks K).2[i] = mustB l locks K i := by simp [heldR, mustL, mustB]
          have hix : i < x.length := by have := hx.1; omega
          have hiy : i < y.length := by have := hy.1; omega
          have j2 : ∀ x, WordsTo l (mayB l locks) K (i + 1) x → EvP (fun k => pinfoldref26_Sets.j2 k locks x y (K : Int) (heldR l locks K).1 (heldR l locks K).2 (i : Int) (l.length : Int) (i : Int) prio l) (fun r => Words l (mayB l locks) r.1 ∧ Words l (mustB l locks) r.2) := by
            intro x hx
            refine EvP.succ ?_
            simp only [pinfoldref26_Sets.j2]
            rw [rdOf_at h10, rd_at hiy, wrap_up (i := i) (by omega), Int.toNat_natCast]
            refine EvP.pos (by omega) (EvP.pos (by omega) (EvP.ite (fun h => EvP.pos (by omega) (EvP.pos (by omega) ?_)) (fun h => ?_)))
            · exact ihi (i + 1) _ _ (by omega) (by omega) hx (hy.put (by omega) hiy (by rw [← e10]; exact h))
            · exact ihi (i + 1) _ _ (by omega) (by omega) hx (hy.skip (by rw [← e10]; simpa using h))
          refine EvP.succ ?_
          simp only [pinfoldref26_Sets.l1]
          rw [rdOf_at h9, rd_at hix, Int.toNat_natCast]
          refine EvP.pos (by omega) (EvP.pos (by omega) (EvP.pos (by omega) (EvP.ite (fun h => EvP.pos (by omega) (EvP.pos (by omega) ?_)) (fun h => ?_))))
          · exact j2 _ (hx.put (by omega) hix (by rw [← e9]; exact h))
          · exact j2 _ (hx.skip (by rw [← e9]; simpa using h))
      rw [hx.1]
      exact inner _ 0 x y rfl (by omega) hx hy
  have z0 : ∀ F, WordsTo l F 0 0 (List.replicate l.length 0) := fun F => ⟨by simp, fun i hi => by simpa using Bits.zero⟩
  exact all _ 0 _ _ rfl (by omega) (z0 _) (z0 _)

/-- the places where a task may exit with a lock. -/
def leakL (l : List S41) (t : List Bool) (x : List Int) (i : Nat) : List Int := ((List.range i).filter fun j : Nat => t.getD j false && ((x.getD j 0 != 0) && ((l.getD j z41).f0 == 14))).map Int.ofNat
theorem leakL_succ (t : List Bool) (x : List Int) (i : Nat) : leakL l t x (i + 1) = leakL l t x i ++ (if (t.getD i false && ((x.getD i 0 != 0) && ((l.getD i z41).f0 == 14))) = true then [(i : Int)] else []) := by
  unfold leakL
  rw [List.range_succ, List.filter_append, List.map_append]
  congr 1
  rw [List.filter_cons]
  split <;> simp
theorem leakL_len (t : List Bool) (x : List Int) (i : Nat) : (leakL l t x i).length ≤ i := by
  unfold leakL
  rw [List.length_map]
  exact Nat.le_trans (List.length_filter_le _ _) (by simp)
theorem leakL_no {t : List Bool} {x : List Int} {i : Nat} (h : (t.getD i false && ((x.getD i 0 != 0) && ((l.getD i z41).f0 == 14))) = false) : leakL l t x (i + 1) = leakL l t x i := by rw [leakL_succ, h]; simp
theorem leakL_yes {t : List Bool} {x : List Int} {i : Nat} (h : (t.getD i false && ((x.getD i 0 != 0) && ((l.getD i z41).f0 == 14))) = true) : leakL l t x (i + 1) = leakL l t x i ++ [(i : Int)] := by rw [leakL_succ, h]; simp
theorem leaks_l0 (hN : l.length ≤ 1000) {t : List Bool} {x : List Int} (ht : t.length = l.length) (hx : x.length = l.length) : ∀ (d i : Nat), l.length - i = d → i ≤ l.length →
    EvP (fun k => lint_Leaks.l0 k (leakL l t x i) t x (l.length : Int) (i : Int) prio l) (· = leakL l t x l.length) := by
  intro d
  induction d with
  | zero =>
    intro i hd hi
    obtain rfl : i = l.length := by omega
    refine EvP.succ ?_
    simp only [lint_Leaks.l0]
    exact EvP.neg (by omega) (EvP.now rfl)
  | succ d ih =>
    intro i hd hi
    have hil : i < l.length := by omega
    have hit : i < t.length := by omega
    have hix : i < x.length := by omega
    have h1 := ih (i + 1) (by omega) (by omega)
    have hlen := leakL_len (l := l) t x i
    have eT : t.getD i false = t[i] := by simp [List.getElem?_eq_getElem hit]
    have eX : x.getD i 0 = x[i] := by simp [List.getElem?_eq_getElem hix]
    have eL : l.getD i z41 = l[i] := by simp [List.getElem?_eq_getElem hil]
    refine EvP.succ ?_
    simp only [lint_Leaks.l0]
    rw [rdOf_at hit, rd_at hix, rdT_at hil, wrap_up (by omega)]
    refine EvP.pos (by omega) (EvP.pos (by omega) (EvP.pos (by omega) (EvP.pos (by omega) (EvP.ite (fun ha => EvP.ite (fun hb => ?_) (fun hb => EvP.pos (by omega) (EvP.ite (fun hc => EvP.pos (by omega) ?_) (fun hc => ?_)))) (fun ha => ?_)))))
    · rw [leakL_no (by rw [eX, hb]; simp)] at h1; exact h1
    · rw [leakL_yes (by rw [eT, eX, eL, ha]; simp [hb, hc])] at h1; exact h1
    · rw [leakL_no (by rw [eL]; simp [hc])] at h1; exact h1
    · rw [leakL_no (by rw [eT]; simp [ha])] at h1; exact h1
theorem leaks_f (hw : W32 l) (hN : l.length ≤ 1000) (hv : Valid l) (hk : Locky l) (locks : Int) {x : List Int} (hx : Words l (mayB l locks) x) : EvP (fun k => lint_Leaks.f k prio l locks) (· = leakL l (reachL l) x l.length) := by
  simp only [lint_Leaks.f]
  refine EvP.bind (reach_f hw hN hv) ?_
  rintro t rfl
  refine EvP.bind (may_f hw hN hv hk locks) (fun y hy => ?_)
  obtain rfl := hx.inj hy
  rw [hx.1]
  exact leaks_l0 hN (reachL_len l) hx.1 _ 0 rfl (by omega)

theorem locks_l0 (hw : W32 l) (hN : l.length ≤ 1000) (hv : Valid l) (hk : Locky l) {x y : List Int} (hx : Words l (mayB l locks) x) (hy : Words l (mustB l locks) y) : ∀ (d i : Nat), l.length - i = d → i ≤ l.length →
    EvP (fun k => pinfoldlaw26_LintLocks.l0 k locks x y x y (leakL l (reachL l) x i) (reachL l) (l.length : Int) (i : Int) prio l) (· = true) := by
  intro d
  induction d with
  | zero =>
    intro i hd hi
    obtain rfl : i = l.length := by omega
    refine EvP.succ ?_
    simp only [pinfoldlaw26_LintLocks.l0]
    refine EvP.neg (by omega) (EvP.bind (leaks_f hw hN hv hk locks hx) ?_)
    rintro t rfl
    refine EvP.bind (same_self _ (by have := leakL_len (l := l) (reachL l) x l.length; omega)) ?_
    rintro t rfl
    exact EvP.pos rfl lives_tail
  | succ d ih =>
    intro i hd hi
    have hil : i < l.length := by omega
    have hit : i < (reachL l).length := by rw [reachL_len]; omega
    have hix : i < x.length := by have := hx.1; omega
    have hiy : i < y.length := by have := hy.1; omega
    have h1 := ih (i + 1) (by omega) (by omega)
    have hlen := leakL_len (l := l) (reachL l) x i
    have eT : (reachL l).getD i false = (reachL l)[i] := by simp [List.getElem?_eq_getElem hit]
    have eX : x.getD i 0 = x[i] := by simp [List.getElem?_eq_getElem hix]
    have eL : l.getD i z41 = l[i] := by simp [List.getElem?_eq_getElem hil]
    have hzero : Go.bits .andNot .u16 y[i] x[i] = 0 := by
      refine ((hy.2 i hiy).andNot (hx.2 i hix)).eq_zero.2 (fun j => ?_)
      unfold mustB mayB
      cases decide (j < 16) <;> cases wayB l locks j true i <;> simp
    refine EvP.succ ?_
    simp only [pinfoldlaw26_LintLocks.l0]
    rw [rd_at hix, rd_at hiy, hzero]
    refine EvP.pos (by omega) (EvP.pos (by omega) (EvP.pos (by omega) (EvP.pos (by omega) (EvP.pos trivial (EvP.pos (by omega) (EvP.pos (by omega) (EvP.pos trivial (EvP.succ ?_))))))))
    simp only [pinfoldlaw26_LintLocks.j2]
    rw [rdOf_at hit, rd_at hix, rdT_at hil, wrap_up (by omega)]
    refine EvP.neg (by simp) (EvP.pos (by omega) (EvP.pos (by omega) (EvP.ite (fun ha => EvP.pos (by omega) (EvP.ite (fun hb => ?_) (fun hb => EvP.pos (by omega) (EvP.ite (fun hc => EvP.pos (by omega) ?_) (fun hc => ?_))))) (fun ha => ?_))))
    · rw [leakL_no (by rw [eX, hb]; simp)] at h1; exact h1
    · rw [leakL_yes (by rw [eT, eX, eL, ha]; simp [hb, hc])] at h1; exact h1
    · rw [leakL_no (by rw [eL]; simp [hc])] at h1; exact h1
    · rw [leakL_no (by rw [eT]; simp [ha])] at h1; exact h1
theorem locks_f (hw : W32 l) (locks : Int) : EvP (fun k => pinfoldlaw26_LintLocks.f k prio l locks) (· = true) := by
  simp only [pinfoldlaw26_LintLocks.f]
  obtain ⟨b, hb, hbv⟩ := fine_f2 (prio := prio) hw
  refine EvP.bindS hb (EvP.ite (fun h => ?_) (fun _ => lives_tail))
  obtain ⟨hv, h30, hk⟩ := hbv h
  have hN : l.length ≤ 1000 := by omega
  refine EvP.bind (sets_f hw hN hv locks) ?_
  rintro ⟨x, y⟩ ⟨hx, hy⟩
  refine EvP.bind (may_f hw hN hv hk locks) (fun x' hx' => ?_)
  obtain rfl := hx.inj hx'
  refine EvP.bind (must_f hw hN hv hk locks) (fun y' hy' => ?_)
  obtain rfl := hy.inj hy'
  refine EvP.pos rfl (EvP.succ ?_)
  simp only [pinfoldlaw26_LintLocks.j0]
  refine EvP.neg (by simp) (EvP.bind (refreach_f hw hN hv) ?_)
  rintro t rfl
  have hx' : x.length = l.length := hx.1
  simp only [hx']
  exact locks_l0 hw hN hv hk hx hy _ 0 rfl (by omega)
end
end Go.Proofs.Ytgiimdoabkcoaaa.PLint
