/-
How many instructions are done ahead of one that ends a straight way, plain: the printed law answers true.
-/
import Derived.Test.YtgiimdoabkcoaaaLintLives
import Derived.Test.YtgiimdoabkcoaaaPLintx9
namespace Go.Proofs.Ytgiimdoabkcoaaa.PLint
set_option linter.unusedVariables false
set_option linter.unusedSimpArgs false
open Go.RowKit Go.Proofs.YtgiimdoabkcoaaaW.PrintWords Go.Proofs.YtgiimdoabkcoaaaW.PrintLast Go.Proofs.YtgiimdoabkcoaaaW.PrintMore

theorem mem_sort {l t : List Int} (h : slices_Sort_int_int.f l = some t) : (∀ x, x ∈ t ↔ x ∈ l) ∧ t.length = l.length := by
  unfold slices_Sort_int_int.f at h
  split at h
  · obtain rfl := Option.some.inj h
    exact ⟨fun x => List.mem_mergeSort, List.length_mergeSort _⟩
  · cases h
theorem compact_at (d : Array Int) (j : Nat) : ∀ i, i ≤ j → j < d.size → (∃ q, q ≤ i ∧ Lib.keeps d q = true ∧ d[q]! = d[i]!) := by
  intro i
  induction i with
  | zero => intro _ _; exact ⟨0, Nat.le_refl _, by simp [Lib.keeps], rfl⟩
  | succ i ih =>
    intro h1 h2
    by_cases hk : Lib.keeps d (i + 1) = true
    · exact ⟨i + 1, Nat.le_refl _, hk, rfl⟩
    · obtain ⟨q, hq1, hq2, hq3⟩ := ih (by omega) h2
      refine ⟨q, by omega, hq2, ?_⟩
      simp [Lib.keeps] at hk
      rw [hq3, hk]
theorem mem_compact {l t : List Int} (h : slices_Compact_int_int.f l = some t) : (∀ x, x ∈ t ↔ x ∈ l) ∧ t.length ≤ l.length := by
  unfold slices_Compact_int_int.f at h
  split at h
  · obtain rfl := Option.some.inj h
    refine ⟨fun x => ?_, ?_⟩
    · unfold Lib.compact Lib.compactUpTo
      simp only [List.mem_map, List.mem_filter, List.mem_range]
      constructor
      · rintro ⟨j, ⟨h1, _⟩, rfl⟩
        simp [h1]
      · intro hx
        obtain ⟨j, hj, rfl⟩ := List.getElem_of_mem hx
        obtain ⟨q, h1, h2, h3⟩ := compact_at l.toArray j j (Nat.le_refl _) (by simpa using hj)
        exact ⟨q, ⟨by omega, h2⟩, by rw [h3]; simp [hj]⟩
    · unfold Lib.compact Lib.compactUpTo
      rw [List.length_map]
      exact Nat.le_trans (List.length_filter_le _ _) (by simp)
  · cases h

def endsB (op : Int) : Bool := decide (op = 6 ∨ (8 ≤ op ∧ op ≤ 11) ∨ op = 14)
theorem ends_f (op : Int) : lint_ends.f op = some (endsB op) := by
  unfold lint_ends.f endsB
  by_cases h : op = 6 ∨ (8 ≤ op ∧ op ≤ 11) ∨ op = 14
  · rw [decide_eq_true h]
    have : op = 10 ∨ op = 9 ∨ op = 6 ∨ op = 8 ∨ op = 11 ∨ op = 14 := by omega
    rcases this with rfl | rfl | rfl | rfl | rfl | rfl <;> rfl
  · rw [decide_eq_false h, if_neg (by omega), if_neg (by omega), if_neg (by omega), if_neg (by omega), if_neg (by omega), if_neg (by omega)]
section
variable {prio : Int} {l : List S41}
/-- n steps can be done from a on, none of them behind one that ends. -/
def Pth (l : List S41) : Nat → Int → Prop
  | 0, _ => True
  | n + 1, a => endsB (rd_T41 l a).f0 = false ∧ ∃ b, b ∈ nextL l a ∧ Pth l n b
theorem Pth.less {l : List S41} : ∀ {n : Nat} {a : Int}, Pth l (n + 1) a → Pth l n a
  | 0, _, _ => trivial
  | n + 1, _, ⟨h1, b, h2, h3⟩ => ⟨h1, b, h2, Pth.less h3⟩
theorem Pth.mono {l : List S41} {n : Nat} {a : Int} : ∀ {m : Nat}, Pth l (n + m) a → Pth l n a
  | 0, h => h
  | m + 1, h => Pth.mono (m := m) (Pth.less h)
/-- the height, if there is one. -/
theorem Pth.top {l : List S41} {a : Int} : ∀ {n : Nat}, ¬ Pth l (n + 1) a → ∃ m, m ≤ n ∧ Pth l m a ∧ ¬ Pth l (m + 1) a
  | 0, h => ⟨0, Nat.le_refl _, trivial, h⟩
  | n + 1, h => by
    by_cases h2 : Pth l (n + 1) a
    · exact ⟨n + 1, Nat.le_refl _, h2, h⟩
    · obtain ⟨m, h3, h4⟩ := Pth.top (n := n) h2
      exact ⟨m, by omega, h4⟩
theorem countP_lt {p q : Nat → Bool} : ∀ (xs : List Nat), (∀ x ∈ xs, p x = true → q x = true) → (∃ x ∈ xs, q x = true ∧ p x = false) → xs.countP p < xs.countP q
  | [], _, ⟨x, h, _⟩ => absurd h (by simp)
  | y :: xs, h1, ⟨x, h2, h3, h4⟩ => by
    have hle : ∀ zs : List Nat, (∀ x ∈ zs, p x = true → q x = true) → zs.countP p ≤ zs.countP q := fun zs hz => List.countP_mono_left hz
    rw [List.countP_cons, List.countP_cons]
    rcases List.mem_cons.1 h2 with rfl | h2
    · rw [h3, h4]
      have := hle xs (fun x hx => h1 x (by simp [hx]))
      simp; omega
    · have := countP_lt xs (fun x hx => h1 x (by simp [hx])) ⟨x, h2, h3, h4⟩
      by_cases hp : p y = true
      · rw [hp, h1 y (by simp) hp]; simp; omega
      · have hp' : p y = false := by simpa using hp
        rw [hp']
        cases q y <;> simp <;> omega
open Classical in
theorem Pth.forever {l : List S41} {a : Int} (ha : 0 ≤ a ∧ a < l.length) (h : Pth l (l.length + 1) a) : ∀ m, Pth l m a := by
  -- a number of steps from which on the same places are left
  have hst : ∃ n, n ≤ l.length ∧ ∀ b : Nat, b < l.length → Pth l n (b : Int) → Pth l (n + 1) (b : Int) := by
    refine Classical.byContradiction fun hno => ?_
    have hstep : ∀ n, n ≤ l.length + 1 → (List.range l.length).countP (fun b : Nat => decide (Pth l n (b : Int))) + n ≤ l.length := by
      intro n
      induction n with
      | zero => intro _; exact Nat.le_trans (by rw [Nat.add_zero]; exact List.countP_le_length) (by simp)
      | succ n ih =>
        intro hn
        have h1 := ih (by omega)
        have h2 : ∃ b : Nat, b < l.length ∧ Pth l n (b : Int) ∧ ¬ Pth l (n + 1) (b : Int) := by
          refine Classical.byContradiction fun hc => hno ⟨n, by omega, fun b hb hp => Classical.byContradiction fun hq => hc ⟨b, hb, hp, hq⟩⟩
        obtain ⟨b, hb, hp, hq⟩ := h2
        have := countP_lt (p := fun b : Nat => decide (Pth l (n + 1) (b : Int))) (q := fun b : Nat => decide (Pth l n (b : Int))) (List.range l.length) (fun x _ hx => by simpa using Pth.less (by simpa using hx)) ⟨b, by simpa using hb, by simpa using hp, by simpa using hq⟩
        omega
    have := hstep (l.length + 1) (Nat.le_refl _)
    omega
  obtain ⟨n, hn, hs⟩ := hst
  have hall : ∀ k, ∀ b : Nat, b < l.length → Pth l n (b : Int) → Pth l (n + k) (b : Int) := by
    intro k
    induction k with
    | zero => intro b _ h; exact h
    | succ k ih =>
      intro b hb hp
      obtain ⟨h1, c, hc, h2⟩ := hs b hb hp
      obtain ⟨hc0, hc1, _⟩ := mem_nextL.1 hc
      obtain ⟨c', rfl⟩ := Int.eq_ofNat_of_zero_le hc0
      exact ⟨h1, c', hc, ih c' (by omega) h2⟩
  obtain ⟨a', rfl⟩ := Int.eq_ofNat_of_zero_le ha.1
  have hn0 : Pth l n (a' : Int) := Pth.mono (n := n) (m := l.length + 1 - n) (by rw [show n + (l.length + 1 - n) = l.length + 1 by omega]; exact h)
  intro m
  exact Pth.mono (n := m) (m := n) (by rw [Nat.add_comm]; exact hall m a' (by omega) hn0)

/-! ### the reference -/
def dv (l : List S41) : Nat → Int → Int
  | 0, a => if endsB (rd_T41 l a).f0 = true then 0 else 1000
  | f + 1, a => if endsB (rd_T41 l a).f0 = true then 0 else (nextL l a).foldl (fun m b => max m (1 + dv l f b)) 0
theorem fold_le {g : Int → Int} {c : Int} : ∀ (xs : List Int) (m : Int), m ≤ c → (∀ b ∈ xs, 1 + g b ≤ c) → xs.foldl (fun m b => max m (1 + g b)) m ≤ c
  | [], m, h, _ => h
  | x :: xs, m, h, hx => fold_le xs _ (by have := hx x (by simp); show max m (1 + g x) ≤ c; omega) (fun b hb => hx b (by simp [hb]))
theorem le_fold {g : Int → Int} : ∀ (xs : List Int) (m : Int), m ≤ xs.foldl (fun m b => max m (1 + g b)) m
  | [], m => Int.le_refl _
  | x :: xs, m => Int.le_trans (Int.le_max_left m (1 + g x)) (le_fold xs _)
theorem mem_fold {g : Int → Int} : ∀ (xs : List Int) (m : Int), ∀ b ∈ xs, 1 + g b ≤ xs.foldl (fun m b => max m (1 + g b)) m
  | x :: xs, m, b, hb => by
    rcases List.mem_cons.1 hb with rfl | hb
    · exact Int.le_trans (Int.le_max_right m (1 + g b)) (le_fold xs _)
    · exact mem_fold xs _ b hb
theorem dv_bd : ∀ (f : Nat) (a : Int), 0 ≤ dv l f a ∧ dv l f a ≤ 1000 + f
  | 0, a => by unfold dv; split <;> omega
  | f + 1, a => by
    unfold dv
    split
    · omega
    · refine ⟨le_fold _ _, ?_⟩
      exact fold_le _ _ (by omega) (fun b _ => by have := dv_bd f b; push_cast; omega)
theorem dv_long : ∀ (f : Nat) (a : Int), Pth l (f + 1) a → 1000 ≤ dv l f a
  | 0, a, ⟨h, _⟩ => by unfold dv; simp [h]
  | f + 1, a, ⟨h, b, hb, hp⟩ => by
    unfold dv
    rw [if_neg (by simp [h])]
    have := mem_fold (g := dv l f) (nextL l a) 0 b hb
    have := dv_long f b hp
    omega
theorem succ_ex (hv : Valid l) {a : Int} (ha : 0 ≤ a ∧ a < l.length) (he : endsB (rd_T41 l a).f0 = false) : ∃ b, b ∈ nextL l a := by
  obtain ⟨i, rfl⟩ := Int.eq_ofNat_of_zero_le ha.1
  have hi : i < l.length := by omega
  rw [rdT_at hi] at he
  have he' := of_decide_eq_false he
  have hok := hv.2.1 i hi
  have hlast := hv.2.2
  have hg : ∀ x, (((l[i].f0 = 4 ∨ l[i].f0 = 5) ∧ x = l[i].f3) ∨ (l[i].f0 ≠ 4 ∧ l[i].f0 ≠ 14 ∧ x = (i : Int) + 1)) → goesZ l (i : Int) x = true := by
    intro x hx
    unfold goesZ
    rw [if_neg (by omega), rdT_at hi, Bool.or_eq_true, decide_eq_true_iff, decide_eq_true_iff]
    exact hx
  by_cases h4 : l[i].f0 = 4 ∨ l[i].f0 = 5
  · have := hok.2 h4
    exact ⟨l[i].f3, mem_nextL.2 ⟨this.1, this.2, hg _ (.inl ⟨h4, rfl⟩)⟩⟩
  · refine ⟨(i : Int) + 1, mem_nextL.2 ⟨by omega, ?_, hg _ (.inr ⟨by omega, by omega, rfl⟩)⟩⟩
    by_cases e : i = l.length - 1
    · rw [← e] at hlast
      have : l.getD i z41 = l[i] := by simp [List.getD, List.getElem?_eq_getElem hi]
      rw [this] at hlast
      omega
    · omega
theorem dv_top (hv : Valid l) : ∀ (f : Nat) (a : Int) (m : Nat), 0 ≤ a ∧ a < l.length → m ≤ f → Pth l m a → ¬ Pth l (m + 1) a → dv l f a = m := by
  intro f
  induction f with
  | zero =>
    intro a m ha hm h1 h2
    obtain rfl : m = 0 := by omega
    unfold dv
    split
    · rfl
    · rename_i he
      have he' : endsB (rd_T41 l a).f0 = false := by simpa using he
      obtain ⟨b, hb⟩ := succ_ex hv ha he'
      exact absurd ⟨he', b, hb, trivial⟩ h2
  | succ f ih =>
    intro a m ha hm h1 h2
    have hrange : ∀ b ∈ nextL l a, 0 ≤ b ∧ b < l.length := fun b hb => ⟨(mem_nextL.1 hb).1, (mem_nextL.1 hb).2.1⟩
    unfold dv
    by_cases he : endsB (rd_T41 l a).f0 = true
    · rw [if_pos he]
      cases m with
      | zero => rfl
      | succ m => have := h1.1; rw [he] at this; cases this
    · rw [if_neg he]
      have he' : endsB (rd_T41 l a).f0 = false := by simpa using he
      have hb : ∀ b ∈ nextL l a, ¬ Pth l m b := fun b hb hp => h2 ⟨he', b, hb, hp⟩
      cases m with
      | zero =>
        have : nextL l a = [] := List.eq_nil_iff_forall_not_mem.2 (fun b hb2 => hb b hb2 trivial)
        rw [this]; rfl
      | succ m =>
        obtain ⟨_, b, hb1, hb2⟩ := h1
        have h3 := mem_fold (g := dv l f) (nextL l a) 0 b hb1
        rw [ih b m (hrange b hb1) (by omega) hb2 (hb b hb1)] at h3
        have h4 := fold_le (g := dv l f) (c := (m : Int) + 1) (nextL l a) 0 (by omega) (fun b' hb' => by
          obtain ⟨q, hq1, hq2, hq3⟩ := Pth.top (hb b' hb')
          rw [ih b' q (hrange b' hb') (by omega) hq2 hq3]; omega)
        push_cast; omega

def Mx (l : List S41) (f : Nat) (a : Int) (i : Nat) : Int := (nextP l a i).foldl (fun m b => max m (1 + dv l f b)) 0
theorem Mx_succ (f : Nat) (a : Int) (i : Nat) : Mx l f a (i + 1) = if goesZ l a (i : Int) = true then max (Mx l f a i) (1 + dv l f (i : Int)) else Mx l f a i := by
  unfold Mx
  rw [nextP_succ]
  split
  · rw [List.foldl_append]; rfl
  · rw [List.append_nil]
theorem refst_f (hw : W32 l) (hN : l.length ≤ 1000) : ∀ (f : Nat) (a : Int), f ≤ 1000 → 0 ≤ a ∧ a < l.length → EvP (fun k => pinfoldref26_Straight.f k prio l a (f : Int)) (· = dv l f a) := by
  intro f
  induction f with
  | zero =>
    intro a hf ha
    have j0 : EvP (fun k => pinfoldref26_Straight.j0 k a 0 (endsB (rd_T41 l a).f0) prio l) (· = dv l 0 a) := by
      refine EvP.succ ?_
      simp only [pinfoldref26_Straight.j0]
      unfold dv
      exact EvP.ite (fun h => EvP.now (by rw [if_pos h])) (fun h => EvP.pos (by simp) (EvP.now (by rw [if_neg h])))
    refine EvP.succ ?_
    simp only [pinfoldref26_Straight.f]
    unfold endsB at j0
    refine EvP.pos ha.1 (EvP.pos ha.2 (EvP.ite (fun h => ?_) (fun h => EvP.ite (fun h2 => EvP.ite (fun h3 => ?_) (fun h3 => ?_)) (fun h2 => ?_))))
    · rw [decide_eq_true (by omega)] at j0; exact j0
    · rw [decide_eq_true (by omega)] at j0; exact j0
    · have e : ((rd_T41 l a).f0 == 14) = decide ((rd_T41 l a).f0 = 6 ∨ (8 ≤ (rd_T41 l a).f0 ∧ (rd_T41 l a).f0 ≤ 11) ∨ (rd_T41 l a).f0 = 14) := by rw [Bool.eq_iff_iff]; simp; omega
      rw [← e] at j0; exact j0
    · have e : ((rd_T41 l a).f0 == 14) = decide ((rd_T41 l a).f0 = 6 ∨ (8 ≤ (rd_T41 l a).f0 ∧ (rd_T41 l a).f0 ≤ 11) ∨ (rd_T41 l a).f0 = 14) := by rw [Bool.eq_iff_iff]; simp; omega
      rw [← e] at j0; exact j0
  | succ f ih =>
    intro a hf ha
    have hbd := fun b : Int => dv_bd (l := l) f b
    have loop : ∀ (d i : Nat), l.length - i = d → i ≤ l.length → EvP (fun k => pinfoldref26_Straight.l0 k a ((f : Int) + 1) (Mx l f a i) (l.length : Int) (i : Int) prio l) (· = Mx l f a l.length) := by
      intro d
      induction d with
      | zero =>
        intro i hd hi
        obtain rfl : i = l.length := by omega
        refine EvP.succ ?_
        simp only [pinfoldref26_Straight.l0]
        exact EvP.neg (by omega) (EvP.now rfl)
      | succ d ihd =>
        intro i hd hi
        have h1 := ihd (i + 1) (by omega) (by omega)
        have hs := Mx_succ (l := l) f a i
        refine EvP.succ ?_
        simp only [pinfoldref26_Straight.l0]
        rw [wrap_up (by omega), wrap_nat (n := (f : Int) + 1 - 1) (by omega) (by omega), show (f : Int) + 1 - 1 = (f : Int) by omega]
        refine EvP.pos (by omega) (EvP.bindS (goes_f hw hN _ _) (EvP.ite (fun h => ?_) (fun h => ?_)))
        · rw [if_pos h] at hs
          refine EvP.bind (ih (i : Int) (by omega) (by omega)) ?_
          rintro t rfl
          have := hbd (i : Int)
          rw [wrap_nat (n := 1 + dv l f (i : Int)) (by omega) (by omega)]
          refine EvP.ite (fun hg => ?_) (fun hg => ?_)
          · rw [hs, show max (Mx l f a i) (1 + dv l f (i : Int)) = 1 + dv l f (i : Int) by omega] at h1; exact h1
          · rw [hs, show max (Mx l f a i) (1 + dv l f (i : Int)) = Mx l f a i by omega] at h1; exact h1
        · rw [if_neg h] at hs; rw [hs] at h1; exact h1
    have hM : Mx l f a l.length = (nextL l a).foldl (fun m b => max m (1 + dv l f b)) 0 := rfl
    have j0 : EvP (fun k => pinfoldref26_Straight.j0 k a ((f : Int) + 1) (endsB (rd_T41 l a).f0) prio l) (· = dv l (f + 1) a) := by
      refine EvP.succ ?_
      simp only [pinfoldref26_Straight.j0]
      unfold dv
      refine EvP.ite (fun h => EvP.now (by rw [if_pos h])) (fun h => EvP.neg (by omega) ?_)
      rw [if_neg h, ← hM]
      exact loop _ 0 rfl (by omega)
    refine EvP.succ ?_
    simp only [pinfoldref26_Straight.f]
    push_cast
    unfold endsB at j0
    refine EvP.pos ha.1 (EvP.pos ha.2 (EvP.ite (fun h => ?_) (fun h => EvP.ite (fun h2 => EvP.ite (fun h3 => ?_) (fun h3 => ?_)) (fun h2 => ?_))))
    · rw [decide_eq_true (by omega)] at j0; exact j0
    · rw [decide_eq_true (by omega)] at j0; exact j0
    · have e : ((rd_T41 l a).f0 == 14) = decide ((rd_T41 l a).f0 = 6 ∨ (8 ≤ (rd_T41 l a).f0 ∧ (rd_T41 l a).f0 ≤ 11) ∨ (rd_T41 l a).f0 = 14) := by rw [Bool.eq_iff_iff]; simp; omega
      rw [← e] at j0; exact j0
    · have e : ((rd_T41 l a).f0 == 14) = decide ((rd_T41 l a).f0 = 6 ∨ (8 ≤ (rd_T41 l a).f0 ∧ (rd_T41 l a).f0 ≤ 11) ∨ (rd_T41 l a).f0 = 14) := by rw [Bool.eq_iff_iff]; simp; omega
      rw [← e] at j0; exact j0

/-! ### the program -/
def PthL (l : List S41) (xs : List Int) (m : Nat) : Prop := ∃ a ∈ xs, Pth l m a
/-- what comes next of several places. -/
def nx (l : List S41) (xs : List Int) : List Int := xs.flatMap fun a => if endsB (rd_T41 l a).f0 = true then [] else nextL l a
theorem mem_nx {xs : List Int} {b : Int} : b ∈ nx l xs ↔ ∃ a ∈ xs, endsB (rd_T41 l a).f0 = false ∧ b ∈ nextL l a := by
  unfold nx
  rw [List.mem_flatMap]
  constructor
  · rintro ⟨a, h1, h2⟩
    split at h2
    · cases h2
    · rename_i h; exact ⟨a, h1, by simpa using h, h2⟩
  · rintro ⟨a, h1, h2, h3⟩
    exact ⟨a, h1, by rw [if_neg (by simp [h2])]; exact h3⟩
theorem nextL_two (a : Int) : (nextL l a).length ≤ 2 := by
  have hp := nextL_rises l a
  have hm : ∀ x ∈ nextL l a, x = (rd_T41 l a).f3 ∨ x = a + 1 := by
    intro x hx
    have h := (mem_nextL.1 hx).2.2
    unfold goesZ at h
    split at h
    · cases h
    · rw [Bool.or_eq_true, decide_eq_true_iff, decide_eq_true_iff] at h; omega
  match h : nextL l a with
  | [] => simp
  | [_] => simp
  | [_, _] => simp
  | x :: y :: z :: zs =>
    rw [h] at hp hm
    simp only [List.pairwise_cons] at hp
    have h1 := hp.1 y (by simp)
    have h2 := hp.2.1 z (by simp)
    have m1 := hm x (by simp)
    have m2 := hm y (by simp)
    have m3 := hm z (by simp)
    omega
theorem nx_len (xs : List Int) : (nx l xs).length ≤ xs.length * 2 := by
  unfold nx
  induction xs with
  | nil => simp
  | cons x xs ih =>
    rw [List.flatMap_cons, List.length_append, List.length_cons, Nat.add_mul]
    have : (if endsB (rd_T41 l x).f0 = true then ([] : List Int) else nextL l x).length ≤ 2 := by split; simp; exact nextL_two x
    omega
theorem nx_at (xs : List Int) (i : Nat) (h : i < xs.length) : nx l (xs.take (i + 1)) = nx l (xs.take i) ++ (if endsB (rd_T41 l xs[i]).f0 = true then [] else nextL l xs[i]) := by
  unfold nx
  rw [List.take_succ_eq_append_getElem h, List.flatMap_append]
  simp
def StPost (l : List S41) (xs : List Int) (n : Nat) (r : Int) : Prop := (r = -1 ∧ PthL l xs (l.length + 1 - n)) ∨ ∃ m : Nat, n ≤ m ∧ m ≤ l.length ∧ r = m ∧ PthL l xs (m - n) ∧ ¬ PthL l xs (m + 1 - n)
theorem st_go (hw : W32 l) (hN : l.length ≤ 12) (hv : Valid l) : ∀ (d n : Nat) (xs : List Int), l.length + 1 - n = d → n ≤ l.length + 1 → xs ≠ [] → (∀ a ∈ xs, 0 ≤ a ∧ a < l.length) → xs.length ≤ 2 ^ n →
    EvP (fun k => lint_Straight.l0 k xs (n : Int) prio l) (StPost l xs n) := by
  intro d
  induction d with
  | zero =>
    intro n xs hd hn hne hr hlen
    refine EvP.succ ?_
    simp only [lint_Straight.l0]
    obtain ⟨a, ha⟩ := List.exists_mem_of_ne_nil xs hne
    exact EvP.neg (by omega) (EvP.now (.inl ⟨rfl, a, ha, by rw [hd]; trivial⟩))
  | succ d ih =>
    intro n xs hd hn hne hr hlen
    refine EvP.succ ?_
    simp only [lint_Straight.l0]
    refine EvP.pos (by omega) ?_
    have hpow : 2 ^ n ≤ 2 ^ 12 := Nat.pow_le_pow_right (by omega) (by omega)
    have hpow' : xs.length * 2 ≤ 2 ^ 12 * 2 := Nat.mul_le_mul (Nat.le_trans hlen hpow) (Nat.le_refl _)
    have hp2 : (2 : Nat) ^ 12 = 4096 := by decide
    have inner : ∀ (e i : Nat), xs.length - i = e → i ≤ xs.length → EvP (fun k => lint_Straight.l1 k (n : Int) (nx l (xs.take i)) xs (xs.length : Int) (i : Int) prio l) (StPost l xs n) := by
      intro e
      induction e with
      | zero =>
        intro i he hi
        obtain rfl : i = xs.length := by omega
        refine EvP.succ ?_
        simp only [lint_Straight.l1]
        rw [List.take_length]
        obtain ⟨a, ha⟩ := List.exists_mem_of_ne_nil xs hne
        refine EvP.neg (by omega) (EvP.ite (fun h => EvP.now (.inr ⟨n, Nat.le_refl _, by omega, rfl, ⟨a, ha, by rw [Nat.sub_self]; trivial⟩, ?_⟩)) (fun h => ?_))
        · rw [show n + 1 - n = 1 by omega]
          rintro ⟨a, ha, h1, b, hb, _⟩
          have : b ∈ nx l xs := mem_nx.2 ⟨a, ha, h1, hb⟩
          have e0 : nx l xs = [] := List.eq_nil_of_length_eq_zero (by omega)
          rw [e0] at this
          cases this
        · obtain ⟨t, ht⟩ : ∃ t, slices_Sort_int_int.f (nx l xs) = some t := ⟨_, by unfold slices_Sort_int_int.f; rw [if_pos (by have := nx_len (l := l) xs; omega)]⟩
          obtain ⟨u, hu⟩ : ∃ u, slices_Compact_int_int.f t = some u := ⟨_, by unfold slices_Compact_int_int.f; rw [if_pos (by have := nx_len (l := l) xs; have := (mem_sort ht).2; omega)]⟩
          have hmem : ∀ x, x ∈ u ↔ x ∈ nx l xs := fun x => ((mem_compact hu).1 x).trans ((mem_sort ht).1 x)
          have hul : u.length ≤ xs.length * 2 := Nat.le_trans (mem_compact hu).2 (by rw [(mem_sort ht).2]; exact nx_len xs)
          refine EvP.bindS ht (EvP.bindS hu ?_)
          rw [wrap_up (by omega)]
          have hne2 : u ≠ [] := by
            rintro rfl
            have : nx l xs = [] := List.eq_nil_iff_forall_not_mem.2 (fun x hx => by have := (hmem x).2 hx; cases this)
            rw [this] at h; simp at h
          have hP : ∀ m, PthL l u m ↔ PthL l xs (m + 1) := by
            intro m
            constructor
            · rintro ⟨b, hb, hp⟩
              obtain ⟨a, ha, h1, h2⟩ := mem_nx.1 ((hmem b).1 hb)
              exact ⟨a, ha, h1, b, h2, hp⟩
            · rintro ⟨a, ha, h1, b, h2, hp⟩
              exact ⟨b, (hmem b).2 (mem_nx.2 ⟨a, ha, h1, h2⟩), hp⟩
          refine (ih (n + 1) u (by omega) (by omega) hne2 ?_ ?_).mono (fun r hr2 => ?_)
          · intro b hb
            obtain ⟨a, _, _, h2⟩ := mem_nx.1 ((hmem b).1 hb)
            exact ⟨(mem_nextL.1 h2).1, (mem_nextL.1 h2).2.1⟩
          · rw [Nat.pow_succ]
            exact Nat.le_trans hul (Nat.mul_le_mul hlen (Nat.le_refl _))
          · rcases hr2 with ⟨h1, h2⟩ | ⟨m, h1, h2, h3, h4, h5⟩
            · refine .inl ⟨h1, ?_⟩
              have := (hP _).1 h2
              rw [show l.length + 1 - (n + 1) + 1 = l.length + 1 - n by omega] at this
              exact this
            · refine .inr ⟨m, by omega, h2, h3, ?_, ?_⟩
              · have := (hP _).1 h4
                rw [show m - (n + 1) + 1 = m - n by omega] at this
                exact this
              · intro hc
                refine h5 ((hP _).2 ?_)
                rw [show m + 1 - (n + 1) + 1 = m + 1 - n by omega]
                exact hc
      | succ e ihe =>
        intro i he hi
        have hil : i < xs.length := by omega
        have h1 := ihe (i + 1) (by omega) (by omega)
        have hs := nx_at (l := l) xs i hil
        have hrg := hr xs[i] (List.getElem_mem hil)
        have hnl := nx_len (l := l) (xs.take i)
        have hnl2 : (xs.take i).length * 2 ≤ 2 ^ 12 * 2 := Nat.mul_le_mul (Nat.le_trans (by simp; omega) (Nat.le_trans hlen hpow)) (Nat.le_refl _)
        refine EvP.succ ?_
        simp only [lint_Straight.l1]
        rw [rd_at hil, wrap_up (by omega)]
        refine EvP.pos (by omega) (EvP.pos (by omega) (EvP.pos (by omega) (EvP.pos hrg.1 (EvP.pos hrg.2 (EvP.bindS (ends_f _) (EvP.ite (fun h => ?_) (fun h => EvP.bind (next_f hw (by omega) hv _) ?_)))))))
        · rw [if_pos h, List.append_nil] at hs; rw [← hs]; exact h1
        · rintro t rfl
          have := nextL_len l xs[i]
          refine EvP.pos (by omega) ?_
          rw [if_neg h] at hs; rw [← hs]; exact h1
    exact inner _ 0 rfl (by omega)
theorem straight_f (hw : W32 l) (hN : l.length ≤ 12) (hv : Valid l) (pc : Int) : EvP (fun k => lint_Straight.f k prio l pc) (fun r => if pc < 0 ∨ (l.length : Int) ≤ pc then r = 0 else StPost l [pc] 0 r) := by
  have j0 : ∀ b : Bool, (b = true ↔ (pc < 0 ∨ (l.length : Int) ≤ pc)) → EvP (fun k => lint_Straight.j0 k pc b prio l) (fun r => if pc < 0 ∨ (l.length : Int) ≤ pc then r = 0 else StPost l [pc] 0 r) := by
    intro b hb
    refine EvP.succ ?_
    simp only [lint_Straight.j0]
    cases b with
    | true => exact EvP.pos rfl (EvP.now (by rw [if_pos (hb.1 rfl)]))
    | false =>
      have hin : ¬ (pc < 0 ∨ (l.length : Int) ≤ pc) := fun h => by have := hb.2 h; cases this
      refine EvP.neg (by simp) ((st_go hw hN hv _ 0 [pc] rfl (by omega) (by simp) (fun a ha => by rw [List.mem_singleton] at ha; subst ha; omega) (by simp)).mono (fun r h => by rw [if_neg hin]; exact h))
  simp only [lint_Straight.f]
  exact EvP.ite (fun h => j0 true (by simp [h])) (fun h => j0 _ (by simp; omega))
theorem lstraight_f (hw : W32 l) (pc : Int) : EvP (fun k => pinfoldlaw26_LintStraight.f k prio l pc) (· = true) := by
  have j0 : ∀ b : Bool, (b = false → Valid l ∧ l.length ≤ 12) → EvP (fun k => pinfoldlaw26_LintStraight.j0 k pc b prio l) (· = true) := by
    intro b hb
    refine EvP.succ ?_
    simp only [pinfoldlaw26_LintStraight.j0]
    cases b with
    | true => exact EvP.pos rfl lives_tail
    | false =>
      obtain ⟨hv, hN⟩ := hb rfl
      have j1 : ∀ c : Bool, (c = true ↔ (pc < 0 ∨ (l.length : Int) ≤ pc)) → EvP (fun k => pinfoldlaw26_LintStraight.j1 k pc c prio l) (· = true) := by
        intro c hc
        refine EvP.succ ?_
        simp only [pinfoldlaw26_LintStraight.j1]
        cases c with
        | true =>
          refine EvP.pos rfl (EvP.bind (straight_f hw hN hv pc) (fun r hr => ?_))
          rw [if_pos (hc.1 rfl)] at hr
          exact EvP.pos hr lives_tail
        | false =>
          have hin : ¬ (pc < 0 ∨ (l.length : Int) ≤ pc) := fun h => by have := hc.2 h; cases this
          refine EvP.neg (by simp) (EvP.bind (refst_f hw (by omega) 12 pc (by omega) (by omega)) ?_)
          rintro t rfl
          have hst := straight_f (prio := prio) hw hN hv pc
          have hbd := dv_bd (l := l) 12 pc
          refine EvP.ite (fun h => EvP.bind hst (fun r hr => ?_)) (fun h => EvP.bind hst (fun r hr => ?_))
          · rw [if_neg hin] at hr
            rcases hr with ⟨h1, _⟩ | ⟨m, _, h2, h3, ⟨a, ha, h4⟩, h5⟩
            · exact EvP.pos h1 lives_tail
            · rw [List.mem_singleton] at ha; subst ha
              have := dv_top hv 12 a m (by omega) (by omega) h4 (fun hc => h5 ⟨a, by simp, hc⟩)
              omega
          · rw [if_neg hin] at hr
            rcases hr with ⟨h1, ⟨a, ha, h4⟩⟩ | ⟨m, _, h2, h3, ⟨a, ha, h4⟩, h5⟩
            · rw [List.mem_singleton] at ha; subst ha
              have := dv_long (l := l) 12 a (Pth.forever (by omega) h4 13)
              omega
            · rw [List.mem_singleton] at ha; subst ha
              have := dv_top hv 12 a m (by omega) (by omega) h4 (fun hc => h5 ⟨a, by simp, hc⟩)
              exact EvP.pos (by omega) lives_tail
      exact EvP.neg (by simp) (EvP.ite (fun h => j1 true (by simp [h])) (fun h => j1 _ (by simp; omega)))
  obtain ⟨b, hb, hbv⟩ := fine_f (prio := prio) hw
  simp only [pinfoldlaw26_LintStraight.f]
  refine EvP.bindS hb (EvP.ite (fun h => ?_) (fun _ => j0 true (fun e => by cases e)))
  exact j0 _ (fun e => ⟨(hbv h).1, by have := of_decide_eq_false e; omega⟩)
end
end Go.Proofs.Ytgiimdoabkcoaaa.PLint
