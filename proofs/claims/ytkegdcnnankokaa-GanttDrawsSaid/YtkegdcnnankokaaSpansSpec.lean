/-
What gantt.Spans tells, as a plain function of the row of events, and how one event turns it.
-/
import Derived.Test.YtkegdcnnankokaaPGanx0
import Derived.Test.YtkegdcnnankokaaPureKit
namespace Go.Proofs.Ytkegdcnnankokaa.PGan
set_option linter.unusedVariables false
set_option linter.unusedSimpArgs false
open Go.RowKit Go.Proofs.YtkegdcnnankokaaW.PrintWords Go.Proofs.YtkegdcnnankokaaW.PrintLast Go.Proofs.YtkegdcnnankokaaW.PrintMore
/-- one event more: what it makes of a span that was begun. -/
def spStep (n i : Int) (e : S36) (s : S27) : S27 :=
  if s.f3 = n ∧ s.f0 = e.f1 ∧ s.f1 = e.f2 then (if e.f0 = 4 then { s with f3 := i } else if e.f0 = 3 then { s with f4 := s.f4 + 1 } else s) else s
def outStep (n i : Int) (e : S36) (out : List S27) : List S27 :=
  out.map (spStep n i e) ++ (if e.f0 = 2 then [⟨e.f1, e.f2, i, n, 0⟩] else [])
def outsTo (l : List S36) : Nat → List S27
  | 0 => []
  | i + 1 => match l[i]? with
    | some e => outStep l.length i e (outsTo l i)
    | none => outsTo l i
theorem outsTo_succ {l : List S36} {i : Nat} {e : S36} (h : l[i]? = some e) : outsTo l (i + 1) = outStep l.length i e (outsTo l i) := by
  simp only [outsTo, h]
def spansP (l : List S36) : List S27 := outsTo l l.length
/-- which spans are open: by task and worker, in rows of places. -/
def OpenOk (n : Int) (out : List S27) (opn : Int → Int → List Int) : Prop :=
  ∀ t c, (opn t c).Nodup ∧ ∀ k, k ∈ opn t c ↔ ∃ q : Nat, k = (q : Int) ∧ ∃ s, out[q]? = some s ∧ s.f0 = t ∧ s.f1 = c ∧ s.f3 = n
def Small (i : Nat) (out : List S27) : Prop := out.length ≤ i ∧ ∀ s ∈ out, 0 ≤ s.f4 ∧ s.f4 ≤ (i : Int)
theorem small_step {n : Int} {i : Nat} {e : S36} {out : List S27} (h : Small i out) : Small (i + 1) (outStep n i e out) := by
  obtain ⟨h1, h2⟩ := h
  constructor
  · unfold outStep
    rw [List.length_append, List.length_map]
    split <;> simp <;> omega
  · intro s hs
    unfold outStep at hs
    rcases List.mem_append.1 hs with hs | hs
    · obtain ⟨s0, hs0, rfl⟩ := List.mem_map.1 hs
      have := h2 s0 hs0
      unfold spStep
      split
      · split
        · exact ⟨this.1, by simp; omega⟩
        · split
          · simp; omega
          · omega
      · omega
    · split at hs
      · have : s = ⟨e.f1, e.f2, i, n, 0⟩ := by simpa using hs
        subst this; simp; omega
      · simp at hs
theorem small_to (l : List S36) : ∀ i, Small i (outsTo l i)
  | 0 => ⟨Nat.le_refl _, fun s hs => absurd hs (by simp [outsTo])⟩
  | i + 1 => by
    have h := small_to l i
    cases he : l[i]? with
    | some e => rw [outsTo_succ he]; exact small_step h
    | none =>
      have : outsTo l (i + 1) = outsTo l i := by simp only [outsTo, he]
      rw [this]
      exact ⟨by have := h.1; omega, fun s hs => by have := h.2 s hs; omega⟩
theorem open_nil (n : Int) : OpenOk n [] (fun _ _ => []) := fun t c => ⟨List.nodup_nil, fun k => by simp⟩
/-- turned at the places ks, one by one. -/
def modAll (f : S27 → S27) (ks : List Int) (out : List S27) : List S27 := ks.foldl (fun o k => o.set k.toNat (f (rd_T27 o k))) out
theorem modAll_len (f : S27 → S27) : ∀ (ks : List Int) (out : List S27), (modAll f ks out).length = out.length
  | [], out => rfl
  | k :: ks, out => by
    have := modAll_len f ks (out.set k.toNat (f (rd_T27 out k)))
    rw [List.length_set] at this
    exact this
theorem modAll_snoc (f : S27 → S27) {ks : List Int} {p : Nat} (hp : p < ks.length) (out : List S27) : modAll f (ks.take (p + 1)) out = (modAll f (ks.take p) out).set ks[p].toNat (f (rd_T27 (modAll f (ks.take p) out) ks[p])) := by
  rw [List.take_succ_eq_append_getElem hp]
  unfold modAll
  rw [List.foldl_append]
  rfl
theorem modAll_get (f : S27 → S27) : ∀ (ks : List Int) (out : List S27), ks.Nodup → (∀ k ∈ ks, 0 ≤ k ∧ k < (out.length : Int)) → ∀ q : Nat, (modAll f ks out)[q]? = if (q : Int) ∈ ks then out[q]?.map f else out[q]?
  | [], out, _, _, q => by simp [modAll]
  | k :: ks, out, hn, hk, q => by
    obtain ⟨k1, k2⟩ := List.nodup_cons.1 hn
    have hb := hk k (by simp)
    have ih := modAll_get f ks (out.set k.toNat (f (rd_T27 out k))) k2 (fun x hx => by rw [List.length_set]; exact hk x (by simp [hx])) q
    have e : modAll f (k :: ks) out = modAll f ks (out.set k.toNat (f (rd_T27 out k))) := rfl
    rw [e, ih]
    by_cases hq : (q : Int) = k
    · have hq2 : k.toNat = q := by omega
      have hlt : q < out.length := by omega
      have hni : ¬ ((q : Int) ∈ ks) := hq ▸ k1
      have hrd : rd_T27 out k = out[q] := by simp [rd_T27, hq2, hlt]
      rw [if_neg hni, if_pos (by simp [hq]), hq2, List.getElem?_set_self hlt, hrd, List.getElem?_eq_getElem hlt]
      rfl
    · have hq2 : k.toNat ≠ q := by omega
      rw [List.getElem?_set_ne hq2]
      simp [hq]
/-- what is open is just what the event turns. -/
theorem modAll_step {n : Int} {i : Int} {e : S36} {out : List S27} {opn : Int → Int → List Int} (ho : OpenOk n out opn) (f : S27 → S27)
    (hf : ∀ s ∈ out, s.f3 = n → s.f0 = e.f1 → s.f1 = e.f2 → f s = spStep n i e s) : modAll f (opn e.f1 e.f2) out = out.map (spStep n i e) := by
  obtain ⟨h1, h2⟩ := ho e.f1 e.f2
  apply List.ext_getElem?
  intro q
  rw [modAll_get f _ _ h1 (fun k hk => by
    obtain ⟨q, rfl, s, hs, _⟩ := (h2 k).1 hk
    have := (List.getElem?_eq_some_iff.1 hs).1
    omega), List.getElem?_map]
  cases hs : out[q]? with
  | none => simp
  | some s =>
    have hm : s ∈ out := List.mem_of_getElem? hs
    by_cases hc : s.f3 = n ∧ s.f0 = e.f1 ∧ s.f1 = e.f2
    · rw [if_pos ((h2 q).2 ⟨q, rfl, s, hs, hc.2.1, hc.2.2, hc.1⟩)]
      simp [hf s hm hc.1 hc.2.1 hc.2.2]
    · rw [if_neg (fun hk => by
        obtain ⟨q', e1, s', hs', h3, h4, h5⟩ := (h2 q).1 hk
        have : q' = q := by omega
        subst this
        rw [hs] at hs'
        obtain rfl := Option.some.inj hs'
        exact hc ⟨h5, h3, h4⟩)]
      simp [spStep, hc]
theorem spStep_same (n i : Int) (e : S36) (s : S27) : (spStep n i e s).f0 = s.f0 ∧ (spStep n i e s).f1 = s.f1 := by
  unfold spStep
  split <;> (try split) <;> (try split) <;> exact ⟨rfl, rfl⟩
theorem spStep_to {n i : Int} {e : S36} (h4 : e.f0 ≠ 4) (s : S27) : (spStep n i e s).f3 = s.f3 := by
  unfold spStep
  repeat' split
  all_goals first | rfl | contradiction
/-- an event that neither begins nor ends anything leaves open what is open. -/
theorem open_keep {n i : Int} {e : S36} {out : List S27} {opn : Int → Int → List Int} (ho : OpenOk n out opn) (h4 : e.f0 ≠ 4) : OpenOk n (out.map (spStep n i e)) opn := by
  intro t c
  obtain ⟨h1, h2⟩ := ho t c
  refine ⟨h1, fun k => (h2 k).trans ?_⟩
  constructor
  · rintro ⟨q, rfl, s, hs, a, b, d⟩
    refine ⟨q, rfl, spStep n i e s, by rw [List.getElem?_map, hs]; rfl, (spStep_same n i e s).1.trans a, (spStep_same n i e s).2.trans b, (spStep_to h4 s).trans d⟩
  · rintro ⟨q, rfl, s, hs, a, b, d⟩
    rw [List.getElem?_map] at hs
    cases hs0 : out[q]? with
    | none => rw [hs0] at hs; cases hs
    | some s0 =>
      rw [hs0] at hs
      obtain rfl := Option.some.inj hs
      exact ⟨q, rfl, s0, hs0, (spStep_same n i e s0).1.symm.trans a, (spStep_same n i e s0).2.symm.trans b, (spStep_to h4 s0).symm.trans d⟩
theorem map_none {n i : Int} {e : S36} (h3 : e.f0 ≠ 3) (h4 : e.f0 ≠ 4) (out : List S27) : out.map (spStep n i e) = out := by
  have : spStep n i e = id := funext fun s => by
    unfold spStep
    rw [if_neg h4, if_neg h3]
    split <;> rfl
  rw [this, List.map_id]
def opnPut (opn : Int → Int → List Int) (t c : Int) (r : List Int) : Int → Int → List Int := fun t' c' => if t' = t ∧ c' = c then r else opn t' c'
theorem open_disp {n i : Int} {e : S36} {out : List S27} {opn : Int → Int → List Int} (ho : OpenOk n out opn) (h2 : e.f0 = 2) :
    OpenOk n (outStep n i e out) (opnPut opn e.f1 e.f2 (opn e.f1 e.f2 ++ [(out.length : Int)])) := by
  have e1 : outStep n i e out = out ++ [⟨e.f1, e.f2, i, n, 0⟩] := by
    unfold outStep
    rw [map_none (by omega) (by omega), if_pos h2]
  rw [e1]
  intro t c
  obtain ⟨g1, g2⟩ := ho t c
  have base : ∀ k : Int, (∃ q : Nat, k = (q : Int) ∧ ∃ s, (out ++ [(⟨e.f1, e.f2, i, n, 0⟩ : S27)])[q]? = some s ∧ s.f0 = t ∧ s.f1 = c ∧ s.f3 = n) ↔ (k ∈ opn t c ∨ (k = out.length ∧ t = e.f1 ∧ c = e.f2)) := by
    intro k
    constructor
    · rintro ⟨q, rfl, s, hs, a, b, d⟩
      by_cases hq : q < out.length
      · rw [List.getElem?_append_left hq] at hs
        exact .inl ((g2 q).2 ⟨q, rfl, s, hs, a, b, d⟩)
      · rw [List.getElem?_append_right (by omega)] at hs
        have hq2 : q - out.length = 0 := by
          have := (List.getElem?_eq_some_iff.1 hs).1
          simp at this; omega
        rw [hq2] at hs
        obtain rfl := Option.some.inj hs
        exact .inr ⟨by omega, a.symm, b.symm⟩
    · rintro (hk | ⟨rfl, rfl, rfl⟩)
      · obtain ⟨q, rfl, s, hs, r⟩ := (g2 k).1 hk
        exact ⟨q, rfl, s, by rw [List.getElem?_append_left (List.getElem?_eq_some_iff.1 hs).1]; exact hs, r⟩
      · exact ⟨out.length, rfl, ⟨e.f1, e.f2, i, n, 0⟩, by simp, rfl, rfl, rfl⟩
  have hnot : ∀ k ∈ opn t c, k < (out.length : Int) := fun k hk => by
    obtain ⟨q, rfl, s, hs, _⟩ := (g2 k).1 hk
    have := (List.getElem?_eq_some_iff.1 hs).1
    omega
  unfold opnPut
  by_cases hc : t = e.f1 ∧ c = e.f2
  · rw [if_pos hc]
    obtain ⟨rfl, rfl⟩ := hc
    refine ⟨?_, fun k => ?_⟩
    · rw [List.nodup_append]
      refine ⟨g1, by simp, fun a ha b hb => ?_⟩
      have := hnot a ha
      have : b = (out.length : Int) := by simpa using hb
      omega
    · rw [base]; simp
  · rw [if_neg hc]
    refine ⟨g1, fun k => ?_⟩
    rw [base]
    constructor
    · exact .inl
    · rintro (h | h)
      · exact h
      · exact absurd h.2 hc
theorem open_stop {n i : Int} {e : S36} {out : List S27} {opn : Int → Int → List Int} (ho : OpenOk n out opn) (h4 : e.f0 = 4) (hi : i ≠ n) :
    OpenOk n (out.map (spStep n i e)) (opnPut opn e.f1 e.f2 []) := by
  intro t c
  obtain ⟨g1, g2⟩ := ho t c
  have hs : ∀ s, spStep n i e s = if s.f3 = n ∧ s.f0 = e.f1 ∧ s.f1 = e.f2 then { s with f3 := i } else s := fun s => by unfold spStep; rw [if_pos h4]
  unfold opnPut
  by_cases hc : t = e.f1 ∧ c = e.f2
  · rw [if_pos hc]
    obtain ⟨rfl, rfl⟩ := hc
    refine ⟨List.nodup_nil, fun k => ?_⟩
    simp only [List.not_mem_nil, false_iff]
    rintro ⟨q, rfl, s, hq, a, b, d⟩
    rw [List.getElem?_map] at hq
    cases h0 : out[q]? with
    | none => rw [h0] at hq; cases hq
    | some s0 =>
      rw [h0] at hq
      obtain rfl := Option.some.inj hq
      rw [hs] at a b d
      split at d
      · exact hi d
      · rename_i hx
        rw [if_neg hx] at a b
        exact hx ⟨d, a, b⟩
  · rw [if_neg hc]
    refine ⟨g1, fun k => (g2 k).trans ?_⟩
    constructor
    · rintro ⟨q, rfl, s, hq, a, b, d⟩
      refine ⟨q, rfl, s, ?_, a, b, d⟩
      rw [List.getElem?_map, hq]
      simp only [Option.map_some]
      rw [hs, if_neg]
      rintro ⟨_, x, y⟩
      exact hc ⟨a.symm.trans x, b.symm.trans y⟩
    · rintro ⟨q, rfl, s, hq, a, b, d⟩
      rw [List.getElem?_map] at hq
      cases h0 : out[q]? with
      | none => rw [h0] at hq; cases hq
      | some s0 =>
        rw [h0] at hq
        obtain rfl := Option.some.inj hq
        have e0 := spStep_same n i e s0
        refine ⟨q, rfl, s0, h0, e0.1.symm.trans a, e0.2.symm.trans b, ?_⟩
        rw [hs] at d
        split at d
        · exact absurd d hi
        · exact d
theorem outStep_ins {n : Int} {i : Nat} {e : S36} {out : List S27} {opn : Int → Int → List Int} (ho : OpenOk n out opn) (hs : Small i out) (hi : i ≤ 1000000) (h3 : e.f0 = 3) :
    modAll (fun s => { s with f4 := wrap64 (s.f4 + 1) }) (opn e.f1 e.f2) out = outStep n i e out ∧ OpenOk n (outStep n i e out) opn := by
  have e1 : outStep n i e out = out.map (spStep n i e) := by unfold outStep; rw [if_neg (by omega)]; simp
  rw [e1]
  refine ⟨modAll_step ho _ (fun s hm a b c => ?_), open_keep ho (by omega)⟩
  have := hs.2 s hm
  have hw : wrap64 (s.f4 + 1) = s.f4 + 1 := by
    obtain ⟨m, hm⟩ : ∃ m : Nat, s.f4 = (m : Int) := ⟨s.f4.toNat, by omega⟩
    rw [hm]
    exact wrap_up (by omega)
  unfold spStep
  rw [if_pos ⟨a, b, c⟩, if_neg (by omega), if_pos h3, hw]
theorem outStep_stop {n : Int} {i : Nat} {e : S36} {out : List S27} {opn : Int → Int → List Int} (ho : OpenOk n out opn) (hi : (i : Int) ≠ n) (h4 : e.f0 = 4) :
    modAll (fun s => { s with f3 := (i : Int) }) (opn e.f1 e.f2) out = outStep n i e out ∧ OpenOk n (outStep n i e out) (opnPut opn e.f1 e.f2 []) := by
  have e1 : outStep n i e out = out.map (spStep n i e) := by unfold outStep; rw [if_neg (by omega)]; simp
  rw [e1]
  refine ⟨modAll_step ho _ (fun s hm a b c => ?_), open_stop ho h4 hi⟩
  unfold spStep
  rw [if_pos ⟨a, b, c⟩, if_pos h4]
theorem outStep_other {n : Int} {i : Nat} {e : S36} {out : List S27} (h2 : e.f0 ≠ 2) (h3 : e.f0 ≠ 3) (h4 : e.f0 ≠ 4) : outStep n i e out = out := by
  unfold outStep; rw [if_neg h2, map_none h3 h4]; simp
theorem outStep_disp {n : Int} {i : Nat} {e : S36} {out : List S27} (h2 : e.f0 = 2) : outStep n i e out = out ++ [⟨e.f1, e.f2, i, n, 0⟩] := by
  unfold outStep
  rw [map_none (by omega) (by omega), if_pos h2]
end Go.Proofs.Ytkegdcnnankokaa.PGan
