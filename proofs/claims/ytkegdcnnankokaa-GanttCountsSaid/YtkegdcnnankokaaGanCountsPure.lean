/-
How many instructions any worker and task did, where it went, how long it waited, plain.
-/
import Derived.Test.YtkegdcnnankokaaGanLives
import Derived.Test.YtkegdcnnankokaaPGanx9
namespace Go.Proofs.Ytkegdcnnankokaa.PGan
set_option linter.unusedVariables false
set_option linter.unusedSimpArgs false
open Go.RowKit Go.Proofs.YtkegdcnnankokaaW.PrintWords Go.Proofs.YtkegdcnnankokaaW.PrintLast Go.Proofs.YtkegdcnnankokaaW.PrintMore
theorem drop_at {l : List S36} {i : Nat} {e : S36} {es : List S36} (h : l.drop i = e :: es) : i < l.length ∧ rd_T36 l (i : Int) = e ∧ l.drop (i + 1) = es := by
  have hi : i < l.length := by
    rcases Nat.lt_or_ge i l.length with q | q
    · exact q
    · rw [List.drop_eq_nil_of_le q] at h; cases h
  rw [List.drop_eq_getElem_cons hi] at h
  injection h with h1 h2
  exact ⟨hi, by simp [rd_T36, hi, h1], h2⟩
theorem drop_end {l : List S36} {i : Nat} (h : l.drop i = []) (hi : i ≤ l.length) : i = l.length := by
  have := List.drop_eq_nil_iff.1 h
  omega
def busyF (cpu : Int) : List S36 → Int → Int
  | [], n => n
  | e :: es, n => busyF cpu es (if e.f0 = 3 ∧ e.f2 = cpu then n + 1 else n)
def ranF (task : Int) : List S36 → Int → Int
  | [], n => n
  | e :: es, n => ranF task es (if e.f0 = 3 ∧ e.f1 = task then n + 1 else n)
def wentF (task : Int) : List S36 → List Int → List Int
  | [], o => o
  | e :: es, o => wentF task es (if e.f0 = 2 ∧ e.f1 = task then (if o.length = 0 then o ++ [e.f2] else if rd o ((o.length : Int) - 1) = e.f2 then o else o ++ [e.f2]) else o)
/-- n: what is counted; s: since when it waits (-1: it doesn't). -/
def waitF (task : Int) : List S36 → Int → Int → Int → Int
  | [], i, n, s => if 0 ≤ s then n + (i - s - 1) else n
  | e :: es, i, n, s =>
    if e.f1 = task then (if e.f0 = 5 then (if s < 0 then waitF task es (i + 1) n i else waitF task es (i + 1) n s)
      else if e.f0 = 2 ∨ e.f0 = 7 ∨ e.f0 = 6 then (if 0 ≤ s then waitF task es (i + 1) (n + (i - s - 1)) (-1) else waitF task es (i + 1) n (-1)) else waitF task es (i + 1) n s)
    else waitF task es (i + 1) n s
section
variable (l : List S36)
theorem busy_l0 (hl : l.length ≤ 60) (cpu : Int) : ∀ (es : List S36) (i : Nat) (n : Int), l.drop i = es → i ≤ l.length → 0 ≤ n → n ≤ (i : Int) → EvP (fun k => gantt_count.l0 k cpu n l (l.length : Int) (i : Int)) (· = busyF cpu es n) := by
  intro es
  induction es with
  | nil =>
    intro i n h hi h0 h1
    obtain rfl := drop_end h hi
    refine EvP.succ ?_
    simp only [gantt_count.l0]
    exact EvP.neg (by omega) (EvP.now rfl)
  | cons e es ih =>
    intro i n h hi h0 h1
    obtain ⟨q1, q2, q3⟩ := drop_at h
    refine EvP.succ ?_
    simp only [gantt_count.l0]
    rw [q2, wrap_up (by omega), wrap_nat (n := n + 1) (by omega) (by omega)]
    simp only [busyF]
    refine EvP.pos (by omega) (EvP.pos (by omega) (EvP.pos (by omega) (EvP.bindS (b := (e.f0 == 3 && e.f2 == cpu)) rfl (EvP.ite (fun c => ?_) (fun c => ?_)))))
    · rw [if_pos (by simpa using c)]
      exact ih (i + 1) (n + 1) q3 (by omega) (by omega) (by push_cast; omega)
    · rw [if_neg (by simpa using c)]
      exact ih (i + 1) n q3 (by omega) (by omega) (by push_cast; omega)
theorem ran_l0 (hl : l.length ≤ 60) (task : Int) : ∀ (es : List S36) (i : Nat) (n : Int), l.drop i = es → i ≤ l.length → 0 ≤ n → n ≤ (i : Int) → EvP (fun k => gantt_countRan.l0 k task n l (l.length : Int) (i : Int)) (· = ranF task es n) := by
  intro es
  induction es with
  | nil =>
    intro i n h hi h0 h1
    obtain rfl := drop_end h hi
    refine EvP.succ ?_
    simp only [gantt_countRan.l0]
    exact EvP.neg (by omega) (EvP.now rfl)
  | cons e es ih =>
    intro i n h hi h0 h1
    obtain ⟨q1, q2, q3⟩ := drop_at h
    refine EvP.succ ?_
    simp only [gantt_countRan.l0]
    rw [q2, wrap_up (by omega), wrap_nat (n := n + 1) (by omega) (by omega)]
    simp only [ranF]
    refine EvP.pos (by omega) (EvP.pos (by omega) (EvP.pos (by omega) (EvP.bindS (b := (e.f0 == 3 && e.f1 == task)) rfl (EvP.ite (fun c => ?_) (fun c => ?_)))))
    · rw [if_pos (by simpa using c)]
      exact ih (i + 1) (n + 1) q3 (by omega) (by omega) (by push_cast; omega)
    · rw [if_neg (by simpa using c)]
      exact ih (i + 1) n q3 (by omega) (by omega) (by push_cast; omega)
theorem went_l0 (hl : l.length ≤ 60) (task : Int) : ∀ (es : List S36) (i : Nat) (o : List Int), l.drop i = es → i ≤ l.length → o.length ≤ i → EvP (fun k => gantt_Went.l0 k task o l (l.length : Int) (i : Int)) (· = wentF task es o) := by
  intro es
  induction es with
  | nil =>
    intro i o h hi h0
    obtain rfl := drop_end h hi
    refine EvP.succ ?_
    simp only [gantt_Went.l0]
    exact EvP.neg (by omega) (EvP.now rfl)
  | cons e es ih =>
    intro i o h hi h0
    obtain ⟨q1, q2, q3⟩ := drop_at h
    have hw : wrap64 ((i : Int) + 1) = ((i + 1 : Nat) : Int) := wrap_up (by omega)
    have hw2 : wrap64 ((o.length : Int) - 1) = (o.length : Int) - 1 := wrap_nat (by omega) (by omega)
    have a1 : ∀ z, (o ++ [z]).length ≤ i + 1 := fun z => by simp; omega
    refine EvP.succ ?_
    simp only [gantt_Went.l0]
    rw [q2]
    simp only [wentF]
    refine EvP.pos (by omega) (EvP.pos (by omega) (EvP.pos (by omega) (EvP.ite (fun c => EvP.succ ?_) (fun c => EvP.succ ?_))))
    · simp only [gantt_Went.j1]
      rw [hw, hw2]
      refine EvP.ite (fun c2 => ?_) (fun c2 => ?_)
      · rw [if_neg (fun q => by simp [q.2] at c2)]
        exact ih (i + 1) o q3 (by omega) (by omega)
      · rw [if_pos ⟨c, by simpa using c2⟩]
        refine EvP.ite (fun c3 => ?_) (fun c3 => ?_)
        · rw [if_pos (by omega)]
          refine EvP.pos (by omega) ?_
          exact ih (i + 1) _ q3 (by omega) (a1 _)
        · rw [if_neg (by omega)]
          refine EvP.pos (by omega) (EvP.pos (by omega) (EvP.ite (fun c4 => ?_) (fun c4 => ?_)))
          · rw [if_pos c4]
            exact ih (i + 1) _ q3 (by omega) (by omega)
          · rw [if_neg c4]
            refine EvP.pos (by omega) ?_
            exact ih (i + 1) _ q3 (by omega) (a1 _)
    · simp only [gantt_Went.j1]
      rw [hw]
      refine EvP.pos trivial ?_
      rw [if_neg (fun q => c q.1)]
      exact ih (i + 1) o q3 (by omega) (by omega)
theorem rwent_l0 (hl : l.length ≤ 60) (task : Int) : ∀ (es : List S36) (i : Nat) (o : List Int), l.drop i = es → i ≤ l.length → o.length ≤ i → EvP (fun k => pinfoldref30_Went.l0 k task o l (l.length : Int) (i : Int)) (· = wentF task es o) := by
  intro es
  induction es with
  | nil =>
    intro i o h hi h0
    obtain rfl := drop_end h hi
    refine EvP.succ ?_
    simp only [pinfoldref30_Went.l0]
    exact EvP.neg (by omega) (EvP.now rfl)
  | cons e es ih =>
    intro i o h hi h0
    obtain ⟨q1, q2, q3⟩ := drop_at h
    have hw : wrap64 ((i : Int) + 1) = ((i + 1 : Nat) : Int) := wrap_up (by omega)
    have hw2 : wrap64 ((o.length : Int) - 1) = (o.length : Int) - 1 := wrap_nat (by omega) (by omega)
    have a1 : ∀ z, (o ++ [z]).length ≤ i + 1 := fun z => by simp; omega
    refine EvP.succ ?_
    simp only [pinfoldref30_Went.l0]
    rw [q2, hw, hw2]
    simp only [wentF]
    refine EvP.pos (by omega) (EvP.pos (by omega) (EvP.pos (by omega) (EvP.ite (fun c => ?_) (fun c => ?_))))
    · refine EvP.ite (fun c2 => ?_) (fun c2 => ?_)
      · rw [if_pos ⟨c, c2⟩]
        refine EvP.ite (fun c3 => ?_) (fun c3 => ?_)
        · rw [if_pos (by omega)]
          refine EvP.pos (by omega) ?_
          exact ih (i + 1) _ q3 (by omega) (a1 _)
        · rw [if_neg (by omega)]
          refine EvP.pos (by omega) (EvP.pos (by omega) (EvP.ite (fun c4 => ?_) (fun c4 => ?_)))
          · rw [if_pos c4]
            exact ih (i + 1) _ q3 (by omega) (by omega)
          · rw [if_neg c4]
            refine EvP.pos (by omega) ?_
            exact ih (i + 1) _ q3 (by omega) (a1 _)
      · rw [if_neg (fun q => c2 q.2)]
        exact ih (i + 1) o q3 (by omega) (by omega)
    · rw [if_neg (fun q => c q.1)]
      exact ih (i + 1) o q3 (by omega) (by omega)
theorem waited_l0 (hl : l.length ≤ 60) (task : Int) : ∀ (es : List S36) (i : Nat) (n s : Int), l.drop i = es → i ≤ l.length → (0 ≤ n ∧ n ≤ (i : Int)) → (-1 ≤ s ∧ s < (i : Int) ∧ (0 ≤ s → n ≤ s + 1)) → EvP (fun k => gantt_Waited.l0 k l task n s l (l.length : Int) (i : Int)) (· = waitF task es (i : Int) n s) := by
  intro es
  induction es with
  | nil =>
    intro i n s h hi h0 h1
    obtain rfl := drop_end h hi
    refine EvP.succ ?_
    simp only [gantt_Waited.l0]
    simp only [waitF]
    refine EvP.neg (by omega) (EvP.ite (fun c => EvP.now ?_) (fun c => EvP.now ?_))
    · rw [if_pos (by omega), wrap_nat (n := (l.length : Int) - s) (by omega) (by omega), wrap_nat (n := (l.length : Int) - s - 1) (by omega) (by omega), wrap_nat (by omega) (by omega)]
    · rw [if_neg (by omega)]
  | cons e es ih =>
    intro i n s h hi h0 h1
    obtain ⟨q1, q2, q3⟩ := drop_at h
    have hw : wrap64 ((i : Int) + 1) = ((i + 1 : Nat) : Int) := wrap_up (by omega)
    have hc : (i : Int) + 1 = ((i + 1 : Nat) : Int) := by push_cast; rfl
    refine EvP.succ ?_
    simp only [gantt_Waited.l0]
    rw [q2, hw]
    simp only [waitF]
    rw [hc]
    refine EvP.pos (by omega) (EvP.pos (by omega) (EvP.pos (by omega) (EvP.ite (fun c => ?_) (fun c => ?_))))
    · rw [if_pos c]
      refine EvP.ite (fun c2 => ?_) (fun c2 => ?_)
      · rw [if_pos c2]
        refine EvP.ite (fun c3 => ?_) (fun c3 => ?_)
        · rw [if_pos c3]
          exact ih (i + 1) _ _ q3 (by omega) (by push_cast; omega) ⟨by omega, by push_cast; omega, fun q_ => by omega⟩
        · rw [if_neg c3]
          exact ih (i + 1) _ _ q3 (by omega) (by push_cast; omega) ⟨by omega, by push_cast; omega, fun q_ => by omega⟩
      · rw [if_neg c2]
        have go : ∀ b : Bool, (b = true ↔ (e.f0 = 2 ∨ e.f0 = 7 ∨ e.f0 = 6)) → EvP (fun k => gantt_Waited.j1 k l task n s (i : Int) l (l.length : Int) (i : Int) b) (· = if e.f0 = 2 ∨ e.f0 = 7 ∨ e.f0 = 6 then (if 0 ≤ s then waitF task es ((i + 1 : Nat) : Int) (n + (i - s - 1)) (-1) else waitF task es ((i + 1 : Nat) : Int) n (-1)) else waitF task es ((i + 1 : Nat) : Int) n s) := by
          intro b hb
          refine EvP.succ ?_
          simp only [gantt_Waited.j1]
          rw [hw]
          refine EvP.ite (fun c3 => ?_) (fun c3 => ?_)
          · rw [if_pos (hb.1 c3)]
            refine EvP.ite (fun c4 => ?_) (fun c4 => ?_)
            · rw [if_pos (by omega), wrap_nat (n := (i : Int) - s) (by omega) (by omega), wrap_nat (n := (i : Int) - s - 1) (by omega) (by omega), wrap_nat (by omega) (by omega)]
              exact ih (i + 1) _ _ q3 (by omega) (by push_cast; omega) ⟨by omega, by push_cast; omega, fun q_ => by omega⟩
            · rw [if_neg (by omega)]
              exact ih (i + 1) _ _ q3 (by omega) (by push_cast; omega) ⟨by omega, by push_cast; omega, fun q_ => by omega⟩
          · rw [if_neg (fun q => c3 (hb.2 q))]
            exact ih (i + 1) _ _ q3 (by omega) (by push_cast; omega) ⟨by omega, by push_cast; omega, fun q_ => by omega⟩
        refine EvP.ite (fun c3 => ?_) (fun c3 => EvP.ite (fun c4 => ?_) (fun c4 => ?_))
        · exact go _ (by simp [c3])
        · exact go _ (by simp [c4])
        · exact go _ (by simp [c3, c4])
    · rw [if_neg c]
      exact ih (i + 1) _ _ q3 (by omega) (by push_cast; omega) ⟨by omega, by push_cast; omega, fun q_ => by omega⟩
theorem rwaited_l0 (hl : l.length ≤ 60) (task : Int) : ∀ (es : List S36) (i : Nat) (n s : Int) (b : Bool) (m : Int), l.drop i = es → i ≤ l.length → (0 ≤ n ∧ n ≤ (i : Int)) → (-1 ≤ s ∧ s < (i : Int) ∧ (0 ≤ s → n ≤ s + 1)) → (b = true ↔ 0 ≤ s) → m = (if 0 ≤ s then n + ((i : Int) - s - 1) else n) →
    EvP (fun k => pinfoldref30_Waited.l0 k task m b l (l.length : Int) (i : Int)) (· = waitF task es (i : Int) n s) := by
  intro es
  induction es with
  | nil =>
    intro i n s b m h hi h0 h1 hb hm
    obtain rfl := drop_end h hi
    refine EvP.succ ?_
    simp only [pinfoldref30_Waited.l0]
    simp only [waitF]
    exact EvP.neg (by omega) (EvP.now hm)
  | cons e es ih =>
    intro i n s b m h hi h0 h1 hb hm
    obtain ⟨q1, q2, q3⟩ := drop_at h
    have hw : wrap64 ((i : Int) + 1) = ((i + 1 : Nat) : Int) := wrap_up (by omega)
    have hm0 : 0 ≤ m ∧ m ≤ 60 := by rw [hm]; split <;> omega
    have hm1 : wrap64 (m + 1) = m + 1 := wrap_nat (by omega) (by omega)
    refine EvP.succ ?_
    simp only [pinfoldref30_Waited.l0]
    rw [q2]
    have hen : pinfoldref30_ends.f e.f0 e.f1 e.f2 e.f3 e.f4 task = some (decide (e.f1 = task ∧ (e.f0 = 2 ∨ e.f0 = 7 ∨ e.f0 = 6))) := by
      unfold pinfoldref30_ends.f
      by_cases c1 : e.f1 = task <;> by_cases c2 : e.f0 = 2 <;> by_cases c3 : e.f0 = 7 <;> by_cases c4 : e.f0 = 6 <;> simp_all
    refine EvP.pos (by omega) (EvP.pos (by omega) (EvP.pos (by omega) (EvP.bindS hen (EvP.ite (fun c => EvP.succ ?_) (fun c => EvP.succ ?_)))))
    · simp only [pinfoldref30_Waited.j1]
      rw [hw]
      have c' := of_decide_eq_true c
      simp only [waitF]
      rw [if_pos c'.1, if_neg (by omega), if_pos c'.2]
      refine EvP.neg (by simp) (EvP.pos c'.1 (EvP.neg (by omega) ?_))
      by_cases hs : 0 ≤ s
      · rw [if_pos hs]
        rw [if_pos hs] at hm
        have := ih (i + 1) (n + ((i : Int) - s - 1)) (-1) false m q3 (by omega) (by push_cast; omega) ⟨by omega, by push_cast; omega, fun q_ => by omega⟩ (by simp) (by rw [if_neg (by omega)]; exact hm)
        rwa [show ((i + 1 : Nat) : Int) = (i : Int) + 1 by push_cast; rfl] at this ⊢
      · rw [if_neg hs]
        rw [if_neg hs] at hm
        have := ih (i + 1) n (-1) false m q3 (by omega) (by push_cast; omega) ⟨by omega, by push_cast; omega, fun q_ => by omega⟩ (by simp) (by rw [if_neg (by omega)]; exact hm)
        rwa [show ((i + 1 : Nat) : Int) = (i : Int) + 1 by push_cast; rfl] at this ⊢
    · simp only [pinfoldref30_Waited.j1]
      rw [hw, hm1]
      have c' : ¬ (e.f1 = task ∧ (e.f0 = 2 ∨ e.f0 = 7 ∨ e.f0 = 6)) := by simpa using c
      have go : ∀ (n' s' : Int) (b' : Bool) (m' : Int), (0 ≤ n' ∧ n' ≤ (i : Int) + 1) → (-1 ≤ s' ∧ s' < (i : Int) + 1 ∧ (0 ≤ s' → n' ≤ s' + 1)) → (b' = true ↔ 0 ≤ s') → m' = (if 0 ≤ s' then n' + ((i : Int) + 1 - s' - 1) else n') → waitF task (e :: es) (i : Int) n s = waitF task es ((i : Int) + 1) n' s' → EvP (fun k => pinfoldref30_Waited.l0 k task m' b' l (l.length : Int) ((i + 1 : Nat) : Int)) (· = waitF task (e :: es) (i : Int) n s) := by
        intro n' s' b' m' g0 g1 g2 g3 g4
        rw [g4]
        have := ih (i + 1) n' s' b' m' q3 (by omega) (by push_cast; omega) (by push_cast; omega) g2 (by push_cast; exact g3)
        rwa [show ((i + 1 : Nat) : Int) = (i : Int) + 1 by push_cast; rfl] at this ⊢
      have e1 : ∀ c1 : e.f1 = task, e.f0 = 5 → 0 ≤ s → waitF task (e :: es) (i : Int) n s = waitF task es ((i : Int) + 1) n s := fun c1 c2 c3 => by
        simp only [waitF]; rw [if_pos c1, if_pos c2, if_neg (by omega)]
      have e2 : ∀ c1 : e.f1 = task, e.f0 = 5 → ¬ 0 ≤ s → waitF task (e :: es) (i : Int) n s = waitF task es ((i : Int) + 1) n i := fun c1 c2 c3 => by
        simp only [waitF]; rw [if_pos c1, if_pos c2, if_pos (by omega)]
      have e3 : ¬ (e.f1 = task ∧ e.f0 = 5) → waitF task (e :: es) (i : Int) n s = waitF task es ((i : Int) + 1) n s := fun c1 => by
        simp only [waitF]
        by_cases c2 : e.f1 = task
        · rw [if_pos c2, if_neg (fun q => c1 ⟨c2, q⟩), if_neg (fun q => c' ⟨c2, q⟩)]
        · rw [if_neg c2]
      refine EvP.ite (fun c2 => ?_) (fun c2 => ?_)
      · have hs := hb.1 c2
        rw [if_pos hs] at hm
        have hk : m + 1 = if 0 ≤ s then n + ((i : Int) + 1 - s - 1) else n := by rw [if_pos hs]; omega
        refine EvP.ite (fun c3 => EvP.ite (fun c4 => ?_) (fun c4 => ?_)) (fun c3 => ?_)
        · exact go n s true (m + 1) (by omega) (by omega) (by simp [hs]) hk (e1 c3 c4 hs)
        · exact go n s b (m + 1) (by omega) (by omega) hb hk (e3 (fun q => c4 q.2))
        · exact go n s b (m + 1) (by omega) (by omega) hb hk (e3 (fun q => c3 q.1))
      · have hs : ¬ 0 ≤ s := fun q => c2 (hb.2 q)
        rw [if_neg hs] at hm
        have hk : m = if 0 ≤ s then n + ((i : Int) + 1 - s - 1) else n := by rw [if_neg hs]; omega
        refine EvP.ite (fun c3 => EvP.ite (fun c4 => ?_) (fun c4 => ?_)) (fun c3 => ?_)
        · exact go n i true m (by omega) (by omega) (by simp) (by rw [if_pos (by omega)]; omega) (e2 c3 c4 hs)
        · exact go n s b m (by omega) (by omega) hb hk (e3 (fun q => c4 q.2))
        · exact go n s b m (by omega) (by omega) hb hk (e3 (fun q => c3 q.1))
theorem same_l0 (a : List Int) (hn : a.length ≤ 1000000) : ∀ (d i : Nat), a.length - i = d → EvP (fun k => pinfoldref04_Same.l0 k a a (a.length : Int) (i : Int)) (· = true) := by
  intro d
  induction d with
  | zero =>
    intro i hd
    refine EvP.succ ?_
    simp only [pinfoldref04_Same.l0]
    exact EvP.neg (by omega) (EvP.now rfl)
  | succ d ih =>
    intro i hd
    refine EvP.succ ?_
    simp only [pinfoldref04_Same.l0]
    refine EvP.pos (by omega) (EvP.pos (by omega) (EvP.pos (by omega) (EvP.pos (by omega) (EvP.pos trivial ?_))))
    rw [wrap_up (by omega)]
    exact ih (i + 1) (by omega)
theorem wentF_len (task : Int) : ∀ (es : List S36) (o : List Int), (wentF task es o).length ≤ o.length + es.length
  | [], o => by simp [wentF]
  | e :: es, o => by
    simp only [wentF]
    refine Nat.le_trans (wentF_len task es _) ?_
    rw [List.length_cons]
    split
    · split
      · simp; omega
      · split <;> simp <;> omega
    · omega
theorem counts_l0 (hl : l.length ≤ 60) (task cpu : Int) : ∀ (es : List S36) (i : Nat) (b r : Int), l.drop i = es → i ≤ l.length → (0 ≤ b ∧ b ≤ (i : Int)) → (0 ≤ r ∧ r ≤ (i : Int)) → busyF cpu l 0 = busyF cpu es b → ranF task l 0 = ranF task es r →
    EvP (fun k => pinfoldlaw30_GanttCounts.l0 k l task cpu b r l (l.length : Int) (i : Int)) (· = true) := by
  intro es
  induction es with
  | nil =>
    intro i b r h hi h0 h1 hb hr
    obtain rfl := drop_end h hi
    refine EvP.succ ?_
    simp only [pinfoldlaw30_GanttCounts.l0]
    refine EvP.neg (by omega) ?_
    simp only [gantt_Busy.f, gantt_Ran.f, gantt_count.f, gantt_countRan.f, gantt_Went.f, pinfoldref30_Went.f, gantt_Waited.f, pinfoldref30_Waited.f, pinfoldref04_Same.f]
    refine EvP.bind (Q := (· = b)) (EvP.bind (Q := (· = busyF cpu l 0)) (show EvP (fun k => gantt_count.l0 k cpu 0 l (l.length : Int) 0) (· = busyF cpu l 0) from busy_l0 l hl cpu l 0 0 rfl (by omega) (by omega) (by omega)) (fun x hx => EvP.now (by rw [hx]; exact hb))) ?_
    rintro _ rfl
    refine EvP.pos rfl ?_
    refine EvP.bind (Q := (· = r)) (EvP.bind (Q := (· = ranF task l 0)) (show EvP (fun k => gantt_countRan.l0 k task 0 l (l.length : Int) 0) (· = ranF task l 0) from ran_l0 l hl task l 0 0 rfl (by omega) (by omega) (by omega)) (fun x hx => EvP.now (by rw [hx]; exact hr))) ?_
    rintro _ rfl
    refine EvP.pos rfl ?_
    refine EvP.bind (show EvP (fun k => gantt_Went.l0 k task [] l (l.length : Int) 0) (· = wentF task l []) from went_l0 l hl task l 0 [] rfl (by omega) (by simp)) ?_
    rintro _ rfl
    refine EvP.bind (show EvP (fun k => pinfoldref30_Went.l0 k task [] l (l.length : Int) 0) (· = wentF task l []) from rwent_l0 l hl task l 0 [] rfl (by omega) (by simp)) ?_
    rintro _ rfl
    have hwl := wentF_len task l []
    simp only [List.length_nil, Nat.zero_add] at hwl
    refine EvP.bind (EvP.pos rfl (same_l0 _ (by omega) _ 0 rfl)) ?_
    rintro _ rfl
    refine EvP.pos rfl ?_
    refine EvP.bind (show EvP (fun k => gantt_Waited.l0 k l task 0 (-1) l (l.length : Int) 0) (· = waitF task l 0 0 (-1)) from waited_l0 l hl task l 0 0 (-1) rfl (by omega) (by omega) ⟨by omega, by omega, fun q_ => by omega⟩) ?_
    rintro _ rfl
    refine EvP.bind (show EvP (fun k => pinfoldref30_Waited.l0 k task 0 false l (l.length : Int) 0) (· = waitF task l 0 0 (-1)) from rwaited_l0 l hl task l 0 0 (-1) false 0 rfl (by omega) (by omega) ⟨by omega, by omega, fun q_ => by omega⟩ (by simp) (by simp)) ?_
    rintro _ rfl
    exact EvP.pos rfl (EvP.bindS lives_true (EvP.now rfl))
  | cons e es ih =>
    intro i b r h hi h0 h1 hb hr
    obtain ⟨q1, q2, q3⟩ := drop_at h
    have hw : wrap64 ((i : Int) + 1) = ((i + 1 : Nat) : Int) := wrap_up (by omega)
    have hw2 : wrap64 (b + 1) = b + 1 := wrap_nat (by omega) (by omega)
    have hw3 : wrap64 (r + 1) = r + 1 := wrap_nat (by omega) (by omega)
    simp only [busyF] at hb
    simp only [ranF] at hr
    refine EvP.succ ?_
    simp only [pinfoldlaw30_GanttCounts.l0]
    rw [q2]
    have go : ∀ c : Bool, (c = true ↔ (e.f0 = 3 ∧ e.f2 = cpu)) → EvP (fun k => pinfoldlaw30_GanttCounts.j1 k l task cpu b r l (l.length : Int) (i : Int) c e.f0 e.f1 e.f2 e.f3 e.f4) (· = true) := by
      intro c hc
      refine EvP.succ ?_
      simp only [pinfoldlaw30_GanttCounts.j1]
      rw [hw, hw2, hw3]
      refine EvP.ite (fun c1 => ?_) (fun c1 => ?_)
      · rw [if_pos (hc.1 c1)] at hb
        refine EvP.ite (fun c2 => EvP.ite (fun c3 => ?_) (fun c3 => ?_)) (fun c2 => ?_)
        · rw [if_pos ⟨c2, c3⟩] at hr
          exact ih (i + 1) _ _ q3 (by omega) (by push_cast; omega) (by push_cast; omega) hb hr
        · rw [if_neg (fun q => c3 q.2)] at hr
          exact ih (i + 1) _ _ q3 (by omega) (by push_cast; omega) (by push_cast; omega) hb hr
        · rw [if_neg (fun q => c2 q.1)] at hr
          exact ih (i + 1) _ _ q3 (by omega) (by push_cast; omega) (by push_cast; omega) hb hr
      · rw [if_neg (fun q => c1 (hc.2 q))] at hb
        refine EvP.ite (fun c2 => EvP.ite (fun c3 => ?_) (fun c3 => ?_)) (fun c2 => ?_)
        · rw [if_pos ⟨c2, c3⟩] at hr
          exact ih (i + 1) _ _ q3 (by omega) (by push_cast; omega) (by push_cast; omega) hb hr
        · rw [if_neg (fun q => c3 q.2)] at hr
          exact ih (i + 1) _ _ q3 (by omega) (by push_cast; omega) (by push_cast; omega) hb hr
        · rw [if_neg (fun q => c2 q.1)] at hr
          exact ih (i + 1) _ _ q3 (by omega) (by push_cast; omega) (by push_cast; omega) hb hr
    refine EvP.pos (by omega) (EvP.pos (by omega) (EvP.pos (by omega) (EvP.ite (fun c => ?_) (fun c => ?_))))
    · exact go _ (by simp [c])
    · exact go _ (by simp [c])
end
theorem ganttCounts_f (l : List S36) (task cpu : Int) : EvP (fun k => pinfoldlaw30_GanttCounts.f k l task cpu) (· = true) := by
  simp only [pinfoldlaw30_GanttCounts.f]
  have hm : 0 ≤ mn (l.length : Int) 60 ∧ mn (l.length : Int) 60 ≤ (l.length : Int) := by unfold mn; split <;> omega
  refine EvP.pos hm.1 (EvP.pos hm.2 (EvP.bindS rfl ?_))
  obtain ⟨L, hL⟩ : ∃ L, l.take (mn (l.length : Int) 60).toNat = L := ⟨_, rfl⟩
  rw [hL]
  have h1 : L.length ≤ 60 := by rw [← hL, List.length_take]; unfold mn; split <;> omega
  exact counts_l0 L h1 task cpu L 0 0 0 rfl (by omega) (by omega) (by omega) rfl rfl
end Go.Proofs.Ytkegdcnnankokaa.PGan
