/-
Lint, plain: the reference's Reach answers the same; the places that can't be come to; the document's example.
-/
import Derived.Test.YtgiimdoabkcoaaaLintReach
import Derived.Test.YtgiimdoabkcoaaaPLintx7
namespace Go.Proofs.Ytgiimdoabkcoaaa.PLint
set_option linter.unusedVariables false
set_option linter.unusedSimpArgs false
open Go.RowKit Go.Proofs.YtgiimdoabkcoaaaW.PrintWords Go.Proofs.YtgiimdoabkcoaaaW.PrintLast Go.Proofs.YtgiimdoabkcoaaaW.PrintMore

section
variable {prio : Int} {l : List S41}
/-- marked places can be come to; the first is marked. -/
structure Swp (l : List S41) (x3 : List Bool) : Prop where
  len : x3.length = l.length
  first : ∃ h : 0 < x3.length, x3[0] = true
  come : ∀ i (hi : i < x3.length), x3[i] = true → Rch l i
theorem sweep (hw : W32 l) (hN : l.length ≤ 1000) (hv : Valid l) : ∀ (c : Nat) (x3 : List Bool), x3.count false ≤ c → Swp l x3 →
    EvP (fun k => pinfoldref26_Reach.l1 k x3 true prio l) (· = reachL l) := by
  intro c
  induction c using Nat.strongRecOn with
  | _ c ihc =>
    intro x3 hc inv
    refine EvP.succ ?_
    simp only [pinfoldref26_Reach.l1]
    refine EvP.pos trivial ?_
    -- the pairs (a, b), one by one
    have row : ∀ (da a : Nat) (y3 : List Bool) (again : Bool), l.length - a = da → a ≤ l.length → Swp l y3 → y3.count false ≤ c → (again = true → y3.count false < c) →
        (again = false → ∀ p q (hp : p < y3.length) (hq : q < y3.length), p < a → y3[p] = true → goesZ l p q = true → y3[q] = true) →
        EvP (fun k => pinfoldref26_Reach.l2 k y3 again (l.length : Int) (a : Int) prio l) (· = reachL l) := by
      intro da
      induction da with
      | zero =>
        intro a y3 again hd ha inv2 hc2 hag hsh
        refine EvP.succ ?_
        simp only [pinfoldref26_Reach.l2]
        refine EvP.neg (by omega) ?_
        cases again with
        | true => exact ihc (y3.count false) (hag rfl) y3 (Nat.le_refl _) inv2
        | false =>
          refine EvP.succ ?_
          simp only [pinfoldref26_Reach.l1]
          refine EvP.neg (by simp) (EvP.now ?_)
          exact reach_closed hv.1 inv2.len inv2.first.2 inv2.come (fun p q hp hq h1 h2 => hsh rfl p q hp hq (by have := inv2.len; omega) h1 h2)
      | succ da iha =>
        intro a y3 again hd ha inv2 hc2 hag hsh
        refine EvP.succ ?_
        simp only [pinfoldref26_Reach.l2]
        refine EvP.pos (by omega) ?_
        rw [inv2.len]
        have col : ∀ (db b : Nat) (z3 : List Bool) (again : Bool), l.length - b = db → b ≤ l.length → Swp l z3 → z3.count false ≤ c → (again = true → z3.count false < c) →
            (again = false → ∀ p q (hp : p < z3.length) (hq : q < z3.length), (p < a ∨ p = a ∧ q < b) → z3[p] = true → goesZ l p q = true → z3[q] = true) →
            EvP (fun k => pinfoldref26_Reach.l3 k z3 again (a : Int) (l.length : Int) (a : Int) (l.length : Int) (b : Int) prio l) (· = reachL l) := by
          intro db
          induction db with
          | zero =>
            intro b z3 again hd2 hb inv3 hc3 hag3 hsh3
            refine EvP.succ ?_
            simp only [pinfoldref26_Reach.l3]
            refine EvP.neg (by omega) ?_
            rw [wrap_up (by omega)]
            refine iha (a + 1) z3 again (by omega) (by omega) inv3 hc3 hag3 (fun e p q hp hq hpa => hsh3 e p q hp hq ?_)
            have := inv3.len; omega
          | succ db ihb =>
            intro b z3 again hd2 hb inv3 hc3 hag3 hsh3
            have hbl : b < l.length := by omega
            have hal : a < l.length := by omega
            have hlen := inv3.len
            have hbz : b < z3.length := by omega
            have haz : a < z3.length := by omega
            refine EvP.succ ?_
            simp only [pinfoldref26_Reach.l3]
            rw [rdOf_at haz, rdOf_at hbz, wrap_up (by omega), Int.toNat_natCast]
            have on : (z3[a] = true → goesZ l a b = true → z3[b] = true) → EvP (fun k => pinfoldref26_Reach.l3 k z3 again (a : Int) (l.length : Int) (a : Int) (l.length : Int) ((b + 1 : Nat) : Int) prio l) (· = reachL l) := by
              intro hab
              refine ihb (b + 1) z3 again (by omega) (by omega) inv3 hc3 hag3 (fun e p q hp hq hpq h1 h2 => ?_)
              by_cases he : p = a ∧ q = b
              · obtain ⟨rfl, rfl⟩ := he; exact hab h1 h2
              · exact hsh3 e p q hp hq (by omega) h1 h2
            refine EvP.pos (by omega) (EvP.pos (by omega) (EvP.pos (by omega) (EvP.ite (fun h1 => ?_) (fun h1 => on (fun h => absurd h h1)))))
            refine EvP.pos (by omega) (EvP.pos (by omega) (EvP.ite (fun h2 => on (fun _ _ => h2)) (fun h2 => ?_)))
            refine EvP.bindS (goes_f hw hN _ _) (EvP.ite (fun h3 => ?_) (fun h3 => on (fun _ h => absurd h h3)))
            have hcn := set_cnt z3 b hbz (by simpa using h2)
            refine ihb (b + 1) _ true (by omega) (by omega) ⟨by simp [hlen], ?_, ?_⟩ (by omega) (fun _ => by omega) (fun e => by cases e)
            · obtain ⟨q1, q2⟩ := inv3.first
              exact ⟨by simpa using q1, (set_at _ _ _ _).2 (.inr q2)⟩
            · intro i hi h
              rcases (set_at _ _ _ _).1 h with rfl | h
              · exact Rch.step (inv3.come a haz h1) hal hbl h3
              · exact inv3.come i (by simpa using hi) h
        exact col _ 0 y3 again rfl (by omega) inv2 hc2 hag (fun e p q hp hq hpq => hsh e p q hp hq (by omega))
    rw [inv.len]
    exact row _ 0 x3 false rfl (by omega) inv hc (fun e => by cases e) (fun _ p q _ _ h => by omega)
theorem refreach_f (hw : W32 l) (hN : l.length ≤ 1000) (hv : Valid l) : EvP (fun k => pinfoldref26_Reach.f k prio l) (· = reachL l) := by
  have hpos := hv.1
  simp only [pinfoldref26_Reach.f]
  refine EvP.pos (by omega) (EvP.pos (by omega) ?_)
  simp only [Option.bind_some, Int.toNat_natCast, List.length_replicate]
  have init : ∀ (d i : Nat) (x3 : List Bool), l.length - i = d → i ≤ l.length → x3.length = l.length → (∀ j (hj : j < x3.length), x3[j] = true ↔ j = 0 ∧ 0 < i) →
      EvP (fun k => pinfoldref26_Reach.l0 k x3 (l.length : Int) (i : Int) prio l) (· = reachL l) := by
    intro d
    induction d with
    | zero =>
      intro i x3 hd hi hl hx
      refine EvP.succ ?_
      simp only [pinfoldref26_Reach.l0]
      refine EvP.neg (by omega) (sweep hw hN hv _ x3 (Nat.le_refl _) ⟨hl, ⟨by omega, (hx 0 (by omega)).2 ⟨rfl, by omega⟩⟩, fun j hj h => ?_⟩)
      obtain ⟨rfl, _⟩ := (hx j hj).1 h
      exact Rch.start
    | succ d ih =>
      intro i x3 hd hi hl hx
      refine EvP.succ ?_
      simp only [pinfoldref26_Reach.l0]
      rw [wrap_up (by omega), Int.toNat_natCast]
      refine EvP.pos (by omega) (EvP.pos (by omega) (EvP.pos (by omega) (ih (i + 1) _ (by omega) (by omega) (by simp [hl]) (fun j hj => ?_))))
      rw [List.getElem_set]
      by_cases e : i = j
      · subst e; simp <;> omega
      · rw [if_neg e, hx j (by simpa using hj)]; omega
  exact init _ 0 _ rfl (by omega) (by simp) (fun j hj => by simp)

/-- the places of a row that are not marked. -/
def idleL (t : List Bool) (i : Nat) : List Int := ((List.range i).filter fun j : Nat => !(t.getD j false)).map Int.ofNat
theorem idleL_succ (t : List Bool) (i : Nat) : idleL t (i + 1) = idleL t i ++ (if t.getD i false = true then [] else [(i : Int)]) := by
  unfold idleL
  rw [List.range_succ, List.filter_append, List.map_append]
  congr 1
  by_cases h : t.getD i false = true
  · have h' : t[i]?.getD false = true := by simpa using h
    rw [if_pos h]; simp [List.filter, h']
  · have h' : t[i]?.getD false = false := by simpa using h
    rw [if_neg h]; simp [List.filter, h']
theorem idleL_len (t : List Bool) (i : Nat) : (idleL t i).length ≤ i := by
  unfold idleL
  rw [List.length_map]
  exact Nat.le_trans (List.length_filter_le _ _) (by simp)
theorem idle_l0 (t : List Bool) (hN : t.length ≤ 1000) : ∀ (d i : Nat), t.length - i = d → i ≤ t.length → EvP (fun k => lint_Idle.l0 k (idleL t i) t (t.length : Int) (i : Int)) (· = idleL t t.length) := by
  intro d
  induction d with
  | zero =>
    intro i hd hi
    refine EvP.succ ?_
    simp only [lint_Idle.l0]
    obtain rfl : i = t.length := by omega
    exact EvP.neg (by omega) (EvP.now rfl)
  | succ d ih =>
    intro i hd hi
    have hil : i < t.length := by omega
    refine EvP.succ ?_
    simp only [lint_Idle.l0]
    have hs := idleL_succ t i
    have hl := idleL_len t i
    have h1 := ih (i + 1) (by omega) (by omega)
    rw [rdOf_nat, wrap_up (by omega)]
    refine EvP.pos (by omega) (EvP.pos (by omega) (EvP.pos (by omega) (EvP.ite (fun h => ?_) (fun h => EvP.pos (by omega) ?_))))
    · rw [if_pos h, List.append_nil] at hs; rw [← hs]; exact h1
    · rw [if_neg h] at hs; rw [← hs]; exact h1
theorem idle_f (hw : W32 l) (hN : l.length ≤ 1000) (hv : Valid l) : EvP (fun k => lint_Idle.f k prio l) (· = idleL (reachL l) l.length) := by
  simp only [lint_Idle.f]
  refine EvP.bind (reach_f hw hN hv) ?_
  rintro t rfl
  have := idle_l0 (reachL l) (by rw [reachL_len]; exact hN) _ 0 rfl (by omega)
  rw [reachL_len] at this ⊢
  exact this
end
theorem lives_f : EvP (fun k => pinfoldlaw26_lives.f k) (· = true) := by
  refine EvP.ev (Ev.of (fun k => pinfoldlaw26_lives.mono k) (k := 60) ?_) rfl
  decide +kernel
end Go.Proofs.Ytgiimdoabkcoaaa.PLint
