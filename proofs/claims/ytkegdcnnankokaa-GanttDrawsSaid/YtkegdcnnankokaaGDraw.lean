/-
gantt.Draw in the printed contracts' form: what is told is a function of the row, the workers and the width.
-/
import Derived.Test.YtkegdcnnankokaaDraw
namespace Go.Proofs.Ytkegdcnnankokaa.PGan
set_option linter.unusedVariables false
set_option linter.unusedSimpArgs false
open Go.RowKit Go.Maps Go.Proofs.YtkegdcnnankokaaW.PrintWords Go.Proofs.YtkegdcnnankokaaW.PrintLast Go.Proofs.YtkegdcnnankokaaW.PrintMore
/-- one event more is looked at: does its task take the place? -/
def bestStep (l : List S36) (cpu : Int) (p : Int × Int) (e : S36) : Int × Int := if (cntT l cpu e.f1 : Int) > p.2 ∨ ((cntT l cpu e.f1 : Int) = p.2 ∧ 0 < cntT l cpu e.f1 ∧ e.f1 < p.1) then (e.f1, (cntT l cpu e.f1 : Int)) else p
def bestF (l : List S36) (cpu : Int) : Int × Int := l.foldl (bestStep l cpu) (0, 0)
/-- of those in s b did most, m: the least of them. -/
def BestOn (f : Int → Nat) (s : List Int) (b m : Int) : Prop :=
  (m = 0 ∧ b = 0 ∧ ∀ x ∈ s, f x = 0) ∨ (0 < m ∧ (f b : Int) = m ∧ (-9223372036854775808 ≤ b ∧ b ≤ 9223372036854775807) ∧ ∀ x ∈ s, 0 < f x → (f x : Int) < m ∨ ((f x : Int) = m ∧ b ≤ x))
theorem bestOn_step {f : Int → Nat} {s : List Int} {b m x : Int} (h : BestOn f s b m) (hw : -9223372036854775808 ≤ x ∧ x ≤ 9223372036854775807) :
    BestOn f (s ++ [x]) (if (f x : Int) > m ∨ ((f x : Int) = m ∧ 0 < f x ∧ x < b) then x else b) (if (f x : Int) > m ∨ ((f x : Int) = m ∧ 0 < f x ∧ x < b) then (f x : Int) else m) := by
  by_cases hc : (f x : Int) > m ∨ ((f x : Int) = m ∧ 0 < f x ∧ x < b)
  · rw [if_pos hc, if_pos hc]
    refine .inr ⟨?_, rfl, hw, fun y hy hp => ?_⟩
    · rcases h with ⟨h1, _, _⟩ | ⟨h1, _⟩ <;> omega
    · rcases List.mem_append.1 hy with hy | hy
      · rcases h with ⟨h1, h2, h3⟩ | ⟨h1, h2, h3, h4⟩
        · have := h3 y hy; omega
        · rcases h4 y hy hp with q | q <;> rcases hc with c | c <;> first | (left; omega) | (right; omega)
      · have : y = x := by simpa using hy
        subst this; right; omega
  · rw [if_neg hc, if_neg hc]
    rcases h with ⟨h1, h2, h3⟩ | ⟨h1, h2, h3, h4⟩
    · refine .inl ⟨h1, h2, fun y hy => ?_⟩
      rcases List.mem_append.1 hy with hy | hy
      · exact h3 y hy
      · have : y = x := by simpa using hy
        subst this
        have : ¬ ((f y : Int) > m) := fun q => hc (.inl q)
        omega
    · refine .inr ⟨h1, h2, h3, fun y hy hp => ?_⟩
      rcases List.mem_append.1 hy with hy | hy
      · exact h4 y hy hp
      · have : y = x := by simpa using hy
        subst this
        have q1 : ¬ ((f y : Int) > m) := fun q => hc (.inl q)
        have q2 : ¬ ((f y : Int) = m ∧ 0 < f y ∧ y < b) := fun q => hc (.inr q)
        by_cases e : (f y : Int) = m
        · right; refine ⟨e, ?_⟩
          by_cases hb : y < b
          · exact absurd ⟨e, hp, hb⟩ q2
          · omega
        · left; omega
theorem bestF_on (l : List S36) (cpu : Int) : ∀ (t s : List S36) (p : Int × Int), (∀ e ∈ t, (Lit.int .i64 e.f1).wf = true) → BestOn (cntT l cpu) (s.map (·.f1)) p.1 p.2 → BestOn (cntT l cpu) ((s ++ t).map (·.f1)) (t.foldl (bestStep l cpu) p).1 (t.foldl (bestStep l cpu) p).2
  | [], s, p, _, h => by simpa using h
  | e :: t, s, p, hw, h => by
    have h1 := bestOn_step h (wf_b64 (hw e (by simp)))
    have h2 := bestF_on l cpu t (s ++ [e]) (bestStep l cpu p e) (fun x hx => hw x (by simp [hx])) (by
      have e1 : (bestStep l cpu p e).1 = if (cntT l cpu e.f1 : Int) > p.2 ∨ ((cntT l cpu e.f1 : Int) = p.2 ∧ 0 < cntT l cpu e.f1 ∧ e.f1 < p.1) then e.f1 else p.1 := by unfold bestStep; split <;> rfl
      have e2 : (bestStep l cpu p e).2 = if (cntT l cpu e.f1 : Int) > p.2 ∨ ((cntT l cpu e.f1 : Int) = p.2 ∧ 0 < cntT l cpu e.f1 ∧ e.f1 < p.1) then (cntT l cpu e.f1 : Int) else p.2 := by unfold bestStep; split <;> rfl
      rw [e1, e2, List.map_append]
      exact h1)
    rw [List.append_assoc] at h2
    exact h2
theorem bestF_is (l : List S36) (cpu : Int) (hw : ∀ e ∈ l, (Lit.int .i64 e.f1).wf = true) : IsBest (cntT l cpu) (bestF l cpu).1 (bestF l cpu).2 := by
  have h := bestF_on l cpu l [] (0, 0) hw (.inl ⟨rfl, rfl, fun x hx => absurd hx (by simp)⟩)
  have hin : ∀ x, 0 < cntT l cpu x → x ∈ l.map (·.f1) := fun x hx => by
    obtain ⟨e, he, hp⟩ := List.countP_pos_iff.1 hx
    simp at hp
    exact List.mem_map.2 ⟨e, he, hp.2⟩
  rw [List.nil_append] at h
  rcases h with ⟨h1, h2, h3⟩ | ⟨h1, h2, h3, h4⟩
  · refine .inl ⟨h1, h2, fun x => ?_⟩
    by_cases hx : 0 < cntT l cpu x
    · exact h3 x (hin x hx)
    · omega
  · exact .inr ⟨h1, h2, h3, fun x hx => h4 x (hin x hx) hx⟩
theorem best_one {f : Int → Nat} {b m b' m' : Int} (h : IsBest f b m) (h' : IsBest f b' m') : b = b' ∧ m = m' := by
  rcases h with ⟨h1, h2, h3⟩ | ⟨h1, h2, h3, h4⟩
  · rcases h' with ⟨g1, g2, g3⟩ | ⟨g1, g2, g3, g4⟩
    · omega
    · have := h3 b'; omega
  · rcases h' with ⟨g1, g2, g3⟩ | ⟨g1, g2, g3, g4⟩
    · have := g3 b; omega
    · have q1 := h4 b' (by omega)
      have q2 := g4 b (by omega)
      omega
/-- the sign of a part on a worker. -/
def signP (l : List S36) (cpu : Int) : Int := sgn (bestF l cpu).1 (bestF l cpu).2
theorem sg_one {l : List S36} {cpu r : Int} (hw : ∀ e ∈ l, (Lit.int .i64 e.f1).wf = true) (h : sgOf l cpu r) : r = signP l cpu := by
  obtain ⟨b, m, hb, rfl⟩ := h
  obtain ⟨e1, e2⟩ := best_one hb (bestF_is l cpu hw)
  unfold signP
  rw [e1, e2]
/-- a worker's line. -/
def lineD (l : List S36) (W : Nat) (cpu : Int) : ByteArray := ⟨((PGad.decP cpu).data.toList ++ 32 :: (List.range W).map (fun i => UInt8.ofNat (signP (part l W i) cpu).toNat)).toArray⟩
theorem line_one {l : List S36} {W : Nat} {cpu : Int} {bs : List UInt8} (hw : ∀ e ∈ l, (Lit.int .i64 e.f1).wf = true) (h : LineTo l W cpu W bs) : bs = (lineD l W cpu).data.toList := by
  obtain ⟨sg, hl, rfl, hs⟩ := h
  unfold lineD
  simp only [List.append_cancel_left_eq, List.cons.injEq, true_and]
  apply List.ext_getElem (by simp [hl])
  intro i h1 h2
  simp only [List.getElem_map, List.getElem_range]
  have hi : i < sg.length := by simpa using h1
  rw [← sg_one (fun e he => hw e (part_sub he)) (hs i hi)]
def drawP (l : List S36) (cpus : List Int) (width : Int) : List ByteArray := cpus.map (lineD l (wid width))
theorem lines_one {l : List S36} {cpus : List Int} {width : Int} {out : List ByteArray} (hw : ∀ e ∈ l, (Lit.int .i64 e.f1).wf = true) (h : Lines l (wid width) cpus out) : out = drawP l cpus width := by
  obtain ⟨h1, h2⟩ := h
  unfold drawP
  apply List.ext_getElem (by simp [h1])
  intro i hi hj
  have := line_one hw (h2 i hi (by omega))
  rw [List.getElem_map]
  apply ByteArray.ext
  apply Array.toList_inj.1
  exact this
def gantt_Draw.f (l0 : List (S36)) (l1 : List Int) (a2 : Int) : Option (List ByteArray) :=
  if l0.length ≤ 60 ∧ l1.length ≤ 10 ∧ (∀ e ∈ l0, (Lit.int .i64 e.f1).wf = true) ∧ (∀ n ∈ l1, (Lit.int .i64 n).wf = true) then some (drawP l0 l1 a2) else none
theorem gantt_Draw.calls (A0 : Option Addr) (c0 : Nat) (l0 : List (S36)) (A1 : Option Addr) (c1 : Nat) (l1 : List Int) (a2 : Int) (r : List ByteArray) (w : World) (hr0 : Kd.C k36 w A0 l0.length l0) (hc0 : l0.length ≤ c0) (hr1 : Kd.C (Kd.int .i64) w A1 l1.length l1) (hc1 : l1.length ≤ c1) (h : gantt_Draw.f l0 l1 a2 = some r) :
    Calls Try.prog 18 #[.slice A0 l0.length c0, .slice A1 l1.length c1, .int .i64 a2] w fun e w' => ∃ v0_ : Value, e = .returned (v0_) ∧ Kd.R Kd.string 9 w' w.heap.size (fun _ => True) v0_ r ∧ Below w.heap.size w w' := by
  unfold gantt_Draw.f at h
  split at h
  case isFalse => cases h
  rename_i hc
  obtain rfl := Option.some.inj h
  refine (draw_any A0 c0 l0 A1 c1 l1 a2 w hr0 hc0 hr1 hc.1 hc.2.1 hc.2.2.1 hc.2.2.2).mono ?_
  rintro e w' ⟨v, out, rfl, hR, hL, hB⟩
  rw [← lines_one hc.2.2.1 hL]
  exact ⟨v, rfl, hR, hB⟩
end Go.Proofs.Ytkegdcnnankokaa.PGan
