/-
Lint, plain: where a program goes on, and which places can be come to: both texts' answers.
-/
import Derived.Test.YtgiimdoabkcoaaaLintPure
import Derived.Test.YtgiimdoabkcoaaaPLintx2
import Derived.Test.YtgiimdoabkcoaaaPLintx8
namespace Go.Proofs.Ytgiimdoabkcoaaa.PLint
set_option linter.unusedVariables false
set_option linter.unusedSimpArgs false
open Go.RowKit Go.Proofs.YtgiimdoabkcoaaaW.PrintWords Go.Proofs.YtgiimdoabkcoaaaW.PrintLast Go.Proofs.YtgiimdoabkcoaaaW.PrintMore

theorem strict_ext : ∀ {l1 l2 : List Int}, l1.Pairwise (· < ·) → l2.Pairwise (· < ·) → (∀ x, x ∈ l1 ↔ x ∈ l2) → l1 = l2
  | [], [], _, _, _ => rfl
  | [], y :: l2, _, _, h => absurd ((h y).2 (by simp)) (by simp)
  | x :: l1, [], _, _, h => absurd ((h x).1 (by simp)) (by simp)
  | x :: l1, y :: l2, h1, h2, h => by
    rw [List.pairwise_cons] at h1 h2
    have hxy : x = y := by
      have a1 := (h x).1 (by simp)
      have a2 := (h y).2 (by simp)
      rw [List.mem_cons] at a1 a2
      rcases a1 with a1 | a1
      · exact a1
      · rcases a2 with a2 | a2
        · exact a2.symm
        · have := h2.1 x a1; have := h1.1 y a2; omega
    subst hxy
    congr 1
    refine strict_ext h1.2 h2.2 (fun z => ?_)
    have hz := h z
    rw [List.mem_cons, List.mem_cons] at hz
    constructor
    · intro hm
      rcases hz.1 (.inr hm) with e | e
      · have := h1.1 z hm; omega
      · exact e
    · intro hm
      rcases hz.2 (.inr hm) with e | e
      · have := h2.1 z hm; omega
      · exact e

/-- may a task go on from a to b? -/
def goesZ (l : List S41) (a b : Int) : Bool :=
  if a < 0 ∨ (l.length : Int) ≤ a then false else decide (((rd_T41 l a).f0 = 4 ∨ (rd_T41 l a).f0 = 5) ∧ b = (rd_T41 l a).f3) || decide ((rd_T41 l a).f0 ≠ 4 ∧ (rd_T41 l a).f0 ≠ 14 ∧ b = a + 1)
theorem W32.at {l : List S41} (hw : W32 l) {a : Int} (h0 : 0 ≤ a) (h1 : a < l.length) : -2147483648 ≤ (rd_T41 l a).f3 ∧ (rd_T41 l a).f3 ≤ 2147483647 := by
  obtain ⟨n, rfl⟩ := Int.eq_ofNat_of_zero_le h0
  rw [rdT_at (by omega)]
  exact hw _ (List.getElem_mem _)
theorem goes_f {prio : Int} {l : List S41} (hw : W32 l) (hN : l.length ≤ 1000) (a b : Int) : pinfoldref26_Goes.f prio l a b = some (goesZ l a b) := by
  unfold pinfoldref26_Goes.f goesZ
  by_cases h0 : a < 0
  · rw [if_pos h0, if_pos (.inl h0)]
  · by_cases h1 : a ≥ (l.length : Int)
    · rw [if_neg h0, if_pos h1, if_pos (.inr h1)]
    · have h3 := hw.at (a := a) (by omega) (by omega)
      rw [if_neg h0, if_neg h1, if_pos (by omega), if_pos (by omega), if_neg (show ¬ (a < 0 ∨ (l.length : Int) ≤ a) by omega), wrap_nat (n := (rd_T41 l a).f3) (by omega) (by omega), wrap_nat (n := a + 1) (by omega) (by omega)]
      generalize rd_T41 l a = x at *
      by_cases c4 : x.f0 = 4
      · rw [if_pos c4]
        by_cases e : b = x.f3 <;> simp [c4, e]
      · rw [if_neg c4]
        by_cases c5 : x.f0 = 5
        · rw [if_pos c5, if_neg (by omega)]
          by_cases e : b = x.f3
          · simp [c5, e]
          · rw [if_neg e]; simp [c5, e]; rw [Bool.eq_iff_iff]; simp
        · rw [if_neg c5]
          by_cases c14 : x.f0 = 14
          · simp [c14]
          · rw [if_neg c14]; simp [c4, c5, c14]; rw [Bool.eq_iff_iff]; simp
/-- the places that come next, rising. -/
def nextL (l : List S41) (pc : Int) : List Int := ((List.range l.length).filter fun b : Nat => goesZ l pc (b : Int)).map Int.ofNat
theorem mem_nextL {l : List S41} {pc x : Int} : x ∈ nextL l pc ↔ 0 ≤ x ∧ x < l.length ∧ goesZ l pc x = true := by
  unfold nextL
  simp only [List.mem_map, List.mem_filter, List.mem_range]
  constructor
  · rintro ⟨n, ⟨h1, h2⟩, rfl⟩
    exact ⟨by simp, by simpa using h1, h2⟩
  · rintro ⟨h0, h1, h2⟩
    obtain ⟨n, rfl⟩ := Int.eq_ofNat_of_zero_le h0
    exact ⟨n, ⟨by omega, h2⟩, rfl⟩
theorem nextL_rises (l : List S41) (pc : Int) : (nextL l pc).Pairwise (· < ·) := by
  unfold nextL
  rw [List.pairwise_map]
  refine List.Pairwise.imp ?_ (List.Pairwise.filter _ List.pairwise_lt_range)
  intro a b h
  simpa using h
theorem nextL_len (l : List S41) (pc : Int) : (nextL l pc).length ≤ l.length := by
  unfold nextL
  rw [List.length_map]
  exact Nat.le_trans (List.length_filter_le _ _) (by simp)
theorem nextL_eq {l : List S41} {pc : Int} {t : List Int} (h1 : t.Pairwise (· < ·)) (h2 : ∀ x, x ∈ t ↔ 0 ≤ x ∧ x < l.length ∧ goesZ l pc x = true) : t = nextL l pc :=
  strict_ext h1 (nextL_rises l pc) (fun x => (h2 x).trans mem_nextL.symm)

theorem sort2 (a b : Int) : slices_Sort_int_int.f [a, b] = some (if a ≤ b then [a, b] else [b, a]) := by
  unfold slices_Sort_int_int.f
  rw [if_pos (by simp)]
  congr 1
  simp [List.mergeSort, List.merge]
theorem compact2 (a b : Int) : slices_Compact_int_int.f [a, b] = some (if a = b then [a] else [a, b]) := by
  unfold slices_Compact_int_int.f
  rw [if_pos (by simp)]
  congr 1
  by_cases h : a = b
  · subst h; simp [Lib.compact, Lib.compactUpTo, Lib.keeps, List.range, List.range.loop]
  · rw [if_neg h]
    have h1 : Lib.keeps #[a, b] 0 = true := by simp [Lib.keeps]
    have h2 : Lib.keeps #[a, b] 1 = true := by simp [Lib.keeps]; exact fun e => h e.symm
    simp [Lib.compact, Lib.compactUpTo, List.range, List.range.loop, List.filter, h1, h2]
theorem next_f {prio : Int} {l : List S41} (hw : W32 l) (hN : l.length ≤ 1000) (hv : Valid l) (pc : Int) : EvP (fun k => lint_Next.f k prio l pc) (· = nextL l pc) := by
  have out : (pc < 0 ∨ (l.length : Int) ≤ pc) → ([] : List Int) = nextL l pc := fun h => nextL_eq .nil (fun x => by simp [goesZ, h])
  have j0 : ∀ b : Bool, (b = true ↔ (pc < 0 ∨ (l.length : Int) ≤ pc)) → EvP (fun k => lint_Next.j0 k pc b prio l) (· = nextL l pc) := by
    intro b hb
    refine EvP.succ ?_
    simp only [lint_Next.j0]
    cases b with
    | true => exact EvP.pos rfl (EvP.now (out (hb.1 rfl)))
    | false =>
      have hin : ¬ (pc < 0 ∨ (l.length : Int) ≤ pc) := fun h => by have := hb.2 h; cases this
      obtain ⟨i, rfl⟩ := Int.eq_ofNat_of_zero_le (show 0 ≤ pc by omega)
      have hi : i < l.length := by omega
      refine EvP.neg (by simp) (EvP.pos (by omega) (EvP.pos (by omega) ?_))
      have h3 := hw l[i] (List.getElem_mem hi)
      have hok := hv.2.1 i hi
      have hlast : i + 1 = l.length → l[i].f0 = 4 ∨ l[i].f0 = 14 := by
        intro e
        have := hv.2.2
        rw [show l.length - 1 = i by omega] at this
        simpa [List.getD, List.getElem?_eq_getElem hi] using this
      have hg : ∀ x, goesZ l (i : Int) x = true ↔ ((l[i].f0 = 4 ∨ l[i].f0 = 5) ∧ x = l[i].f3) ∨ (l[i].f0 ≠ 4 ∧ l[i].f0 ≠ 14 ∧ x = (i : Int) + 1) := by
        intro x
        unfold goesZ
        rw [if_neg hin, rdT_at hi, Bool.or_eq_true, decide_eq_true_iff, decide_eq_true_iff]
      rw [rdT_at hi, wrap_nat (n := l[i].f3) (by omega) (by omega), wrap_nat (n := (i : Int) + 1) (by omega) (by omega)]
      obtain ⟨hok1, hok2⟩ := hok
      refine EvP.ite (fun c4 => EvP.now (nextL_eq (by simp) (fun x => ?_))) (fun c4 => EvP.ite (fun c14 => EvP.now (nextL_eq .nil (fun x => ?_))) (fun c14 => EvP.ite (fun c5 => ?_) (fun c5 => EvP.now (nextL_eq (by simp) (fun x => ?_)))))
      · rw [hg, List.mem_singleton]; have := hok2 (.inl c4); omega
      · rw [hg]; simp; omega
      · have := hok2 (.inr c5)
        refine EvP.bindS (sort2 _ _) ?_
        by_cases hle : (i : Int) + 1 ≤ l[i].f3
        · rw [if_pos hle]
          refine EvP.bindS (compact2 _ _) ?_
          by_cases he : (i : Int) + 1 = l[i].f3
          · rw [if_pos he]
            refine EvP.now (nextL_eq (by simp) (fun x => ?_))
            rw [hg, List.mem_singleton]; omega
          · rw [if_neg he]
            refine EvP.now (nextL_eq (by simp; omega) (fun x => ?_))
            rw [hg]; simp; omega
        · rw [if_neg hle]
          refine EvP.bindS (compact2 _ _) ?_
          rw [if_neg (by omega)]
          refine EvP.now (nextL_eq (by simp; omega) (fun x => ?_))
          rw [hg]; simp; omega
      · rw [hg, List.mem_singleton]; omega
  simp only [lint_Next.f]
  exact EvP.ite (fun h => j0 true (by simp [h])) (fun h => j0 _ (by simp; omega))

/-- a place can be come to. -/
inductive Rch (l : List S41) : Nat → Prop
  | start : Rch l 0
  | step {a b : Nat} : Rch l a → a < l.length → b < l.length → goesZ l a b = true → Rch l b
noncomputable def reachL (l : List S41) : List Bool := (List.range l.length).map fun i => @decide (Rch l i) (Classical.propDecidable _)
theorem reachL_len (l : List S41) : (reachL l).length = l.length := by simp [reachL]
theorem reachL_at {l : List S41} {i : Nat} (h : i < (reachL l).length) : (reachL l)[i] = true ↔ Rch l i := by
  simp [reachL]
theorem reachL_eq {l : List S41} {t : List Bool} (hl : t.length = l.length) (h : ∀ i (hi : i < t.length), t[i] = true ↔ Rch l i) : t = reachL l := by
  refine List.ext_getElem (by rw [hl, reachL_len]) (fun i h1 h2 => ?_)
  rw [Bool.eq_iff_iff, h i h1, reachL_at h2]
/-- marked places that are closed, and can be come to, are all that can be come to. -/
theorem reach_closed {l : List S41} {t : List Bool} (hN : 0 < l.length) (hl : t.length = l.length) (h0 : t[0]'(by omega) = true) (hr : ∀ i (hi : i < t.length), t[i] = true → Rch l i)
    (hc : ∀ a b (ha : a < t.length) (hb : b < t.length), t[a] = true → goesZ l a b = true → t[b] = true) : t = reachL l := by
  refine reachL_eq hl (fun i hi => ⟨hr i hi, fun h => ?_⟩)
  induction h with
  | start => exact h0
  | step h1 h2 h3 h4 ih => exact hc _ _ (by omega) (by omega) (ih (by omega)) h4
theorem set_cnt : ∀ (x : List Bool) (n : Nat) (h : n < x.length), x[n] = false → (x.set n true).count false + 1 = x.count false
  | b :: x, 0, _, e => by simp at e; subst e; simp
  | b :: x, n + 1, h, e => by
    have := set_cnt x n (by simpa using h) (by simpa using e)
    simp only [List.set_cons_succ, List.count_cons]
    omega
theorem set_at (x : List Bool) (n i : Nat) (h : i < (x.set n true).length) : (x.set n true)[i] = true ↔ (i = n ∨ x[i]'(by simpa using h) = true) := by
  rw [List.getElem_set]
  by_cases e : n = i
  · simp [e]
  · simp [e, Ne.symm e]

section
variable {prio : Int} {l : List S41}
/-- places on the stack are marked; what is marked can be come to; what is marked and not on the stack (nor p) is closed. -/
structure Dfs (l : List S41) (x3 : List Bool) (x4 : List Int) (p : Option Nat) : Prop where
  len : x3.length = l.length
  first : ∃ h : 0 < x3.length, x3[0] = true
  stack : ∀ s ∈ x4, ∃ n : Nat, s = (n : Int) ∧ n < l.length ∧ ∀ h : n < x3.length, x3[n] = true
  come : ∀ i (hi : i < x3.length), x3[i] = true → Rch l i
  shut : ∀ a b (ha : a < x3.length) (hb : b < x3.length), x3[a] = true → (a : Int) ∉ x4 → some a ≠ p → goesZ l a b = true → x3[b] = true
theorem dfs_go (hw : W32 l) (hN : l.length ≤ 1000) (hv : Valid l) : ∀ (m : Nat) (x3 : List Bool) (x4 : List Int), m ≤ 100000 → 2 * x3.count false + x4.length ≤ m → Dfs l x3 x4 none →
    EvP (fun k => lint_Reach.l0 k x3 x4 prio l) (· = reachL l) := by
  intro m
  induction m with
  | zero =>
    intro x3 x4 hm hle inv
    obtain rfl : x4 = [] := List.eq_nil_of_length_eq_zero (by omega)
    refine EvP.succ ?_
    simp only [lint_Reach.l0]
    refine EvP.neg (by simp) (EvP.now ?_)
    exact reach_closed hv.1 inv.len inv.first.2 inv.come (fun a b ha hb h1 h2 => inv.shut a b ha hb h1 (by simp) (by simp) h2)
  | succ m ih =>
    intro x3 x4 hm hle inv
    refine EvP.succ ?_
    simp only [lint_Reach.l0]
    rcases List.eq_nil_or_concat x4 with rfl | ⟨ys, s, rfl⟩
    · refine EvP.neg (by simp) (EvP.now ?_)
      exact reach_closed hv.1 inv.len inv.first.2 inv.come (fun a b ha hb h1 h2 => inv.shut a b ha hb h1 (by simp) (by simp) h2)
    · rw [List.concat_eq_append] at *
      obtain ⟨p, rfl, hp, hpm⟩ := inv.stack s (by simp)
      simp only [List.length_append, List.length_singleton] at hle ⊢
      rw [wrap_nat (n := ((ys.length + 1 : Nat) : Int) - 1) (by omega) (by omega), show ((ys.length + 1 : Nat) : Int) - 1 = (ys.length : Int) by omega]
      refine EvP.pos (by omega) (EvP.pos (by omega) (EvP.pos (by omega) (EvP.pos (by omega) ?_)))
      rw [rd_nat, show (ys ++ [(p : Int)]).getD ys.length 0 = (p : Int) by simp, Int.toNat_natCast, List.take_left']
      · refine EvP.bind (next_f hw hN hv p) ?_
        rintro t rfl
        -- the places that come next, one by one
        have inner : ∀ (d j : Nat) (y3 : List Bool) (y4 : List Int), (nextL l p).length - j = d → 2 * y3.count false + y4.length ≤ m → Dfs l y3 y4 (some p) →
            (∀ i (hi : i < (nextL l p).length), i < j → ∀ n : Nat, (nextL l p)[i] = (n : Int) → ∀ h : n < y3.length, y3[n] = true) →
            EvP (fun k => lint_Reach.l1 k y3 y4 (nextL l p) ((nextL l p).length : Int) (j : Int) prio l) (· = reachL l) := by
          intro d
          induction d with
          | zero =>
            intro j y3 y4 hd hle2 inv2 hdone
            refine EvP.succ ?_
            simp only [lint_Reach.l1]
            refine EvP.neg (by omega) (ih y3 y4 (by omega) hle2 ⟨inv2.len, inv2.first, inv2.stack, inv2.come, fun a b ha hb h1 h2 _ h4 => ?_⟩)
            by_cases e : a = p
            · subst e
              have hm1 : (b : Int) ∈ nextL l a := mem_nextL.2 ⟨by omega, by have := inv2.len; omega, h4⟩
              obtain ⟨i, hi, he⟩ := List.getElem_of_mem hm1
              exact hdone i hi (by omega) b he hb
            · exact inv2.shut a b ha hb h1 h2 (by simpa using e) h4
          | succ d ihd =>
            intro j y3 y4 hd hle2 inv2 hdone
            have hj : j < (nextL l p).length := by omega
            refine EvP.succ ?_
            simp only [lint_Reach.l1]
            obtain ⟨h0, h1, h2⟩ := mem_nextL.1 (List.getElem_mem hj)
            obtain ⟨n, hn⟩ := Int.eq_ofNat_of_zero_le h0
            have hnl : n < l.length := by omega
            have hny : n < y3.length := by have := inv2.len; omega
            rw [rd_at hj, hn, rdOf_at hny, wrap_up (by have := nextL_len l p; omega), Int.toNat_natCast]
            refine EvP.pos (by omega) (EvP.pos (by omega) (EvP.pos (by omega) (EvP.pos (by omega) (EvP.pos (by omega) (EvP.ite (fun hy => ?_) (fun hy => EvP.pos (by omega) ?_))))))
            · refine ihd (j + 1) y3 y4 (by omega) hle2 inv2 (fun i hi hij q hq hql => ?_)
              by_cases e : i = j
              · subst e; rw [hn] at hq; obtain rfl : n = q := by omega
                exact hy
              · exact hdone i hi (by omega) q hq hql
            · have hyf : y3[n] = false := by simpa using hy
              have hc := set_cnt y3 n hny hyf
              refine ihd (j + 1) _ _ (by omega) (by simp; omega) ⟨by simp [inv2.len], ?_, ?_, ?_, ?_⟩ ?_
              · obtain ⟨q1, q2⟩ := inv2.first
                exact ⟨by simpa using q1, (set_at _ _ _ _).2 (.inr q2)⟩
              · intro s hs
                rw [List.mem_append, List.mem_singleton] at hs
                rcases hs with hs | rfl
                · obtain ⟨q, rfl, hq1, hq2⟩ := inv2.stack s hs
                  exact ⟨q, rfl, hq1, fun h => (set_at _ _ _ _).2 (.inr (hq2 (by simpa using h)))⟩
                · exact ⟨n, rfl, hnl, fun h => (set_at _ _ _ _).2 (.inl rfl)⟩
              · intro i hi hit
                rcases (set_at _ _ _ _).1 hit with rfl | h
                · refine Rch.step (inv.come p (by have := inv.len; omega) (hpm (by have := inv.len; omega))) hp hnl (by rw [← hn]; exact h2)
                · exact inv2.come i (by simpa using hi) h
              · intro a b ha hb hat hns hne hg
                refine (set_at _ _ _ _).2 (.inr ?_)
                rw [List.mem_append, List.mem_singleton] at hns
                rcases (set_at _ _ _ _).1 hat with rfl | h
                · exact absurd (.inr rfl) hns
                · exact inv2.shut a b (by simpa using ha) (by simpa using hb) h (fun hh => hns (.inl hh)) hne hg
              · intro i hi hij q hq hql
                refine (set_at _ _ _ _).2 ?_
                by_cases e : i = j
                · subst e; rw [hn] at hq; exact .inl (by omega)
                · exact .inr (hdone i hi (by omega) q hq (by simpa using hql))
        refine inner _ 0 x3 ys rfl (by omega) ⟨inv.len, inv.first, fun s hs => inv.stack s (by simp [hs]), inv.come, fun a b ha hb h1 h2 h3 h4 => ?_⟩ (fun i hi h => by omega)
        refine inv.shut a b ha hb h1 ?_ (by simp) h4
        rw [List.mem_append, List.mem_singleton]
        rintro (h | h)
        · exact h2 h
        · exact h3 (by congr 1; omega)
      · rfl
theorem reach_f (hw : W32 l) (hN : l.length ≤ 1000) (hv : Valid l) : EvP (fun k => lint_Reach.f k prio l) (· = reachL l) := by
  have hpos := hv.1
  simp only [lint_Reach.f]
  refine EvP.pos (by omega) (EvP.pos (by omega) ?_)
  simp only [Option.bind_some, Int.toNat_natCast, List.length_replicate]
  refine EvP.neg (by omega) (EvP.pos (by omega) ?_)
  have hc : ((List.replicate l.length false).set 0 true).count false ≤ l.length := Nat.le_trans List.count_le_length (by simp)
  refine dfs_go hw hN hv 10000 _ _ (by omega) (by simp at hc ⊢; omega) ⟨by simp, ⟨by simp [hpos], by simp⟩, ?_, ?_, ?_⟩
  · intro s hs
    rw [List.mem_singleton] at hs
    subst hs
    exact ⟨0, rfl, hpos, fun h => by simp⟩
  · intro i hi h
    rcases (set_at _ _ _ _).1 h with rfl | h
    · exact Rch.start
    · simp at h
  · intro a b ha hb h1 h2 _ _
    rcases (set_at _ _ _ _).1 h1 with rfl | h
    · exact absurd (by simp) h2
    · simp at h
end
end Go.Proofs.Ytgiimdoabkcoaaa.PLint
