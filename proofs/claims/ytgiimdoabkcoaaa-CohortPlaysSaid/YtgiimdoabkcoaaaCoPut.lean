/-
An element of two cells put behind a row that has room, in a region that draws.
-/
import Derived.Test.YtgiimdoabkcoaaaCoRaw
namespace Go.Proofs.Ytgiimdoabkcoaaa.Co
set_option linter.unusedVariables false
set_option linter.unusedSimpArgs false
open Go.RowKit Go.Proofs.YtgiimdoabkcoaaaW.PrintWords Go.Proofs.YtgiimdoabkcoaaaW.PrintLast Go.Proofs.YtgiimdoabkcoaaaW.PrintMore
theorem raw_put {e : Nat} {w : World} {ok : Nat → Prop} {g m cap : Nat} {rows : List (List Value)} {p0 p1 : Value} (hR : Kd.R (Kd.raw 2) e w 0 ok (.slice (some ⟨g, 0, none⟩) m cap) rows) (hroom : m < cap) (h0 : p0.oneCell' = true) (h1 : p1.oneCell' = true) :
    Kd.R (Kd.raw 2) e (w.setCells g (m * 2) [p0, p1]) 0 ok (.slice (some ⟨g, 0, none⟩) (m + 1) cap) (rows ++ [[p0, p1]]) ∧ w.grownBy (w.setCells g (m * 2) [p0, p1]) (some g) ∧ (∀ j, j < 2 → (w.cell? ⟨g, m * 2 + j, none⟩).isSome = true ∧ w.frozen? ⟨g, m * 2 + j, none⟩ = false) := by
  obtain ⟨hok, inner, ⟨hlen, ho⟩, hr⟩ := hR
  rcases ho with ⟨h2, _⟩ | ⟨g', cap', cur, h2, hbase, hh, hnc, hcm, hcs, hin⟩
  · cases h2
  · injection h2 with h2 h3 h4
    injection h2 with h2
    injection h2 with h2
    subst h2 h3 h4
    have hcs' : cur.size = cap * 2 := hcs
    have hlen' : inner.length = rows.length * 2 := hlen
    obtain ⟨s1, f1⟩ := set_hd hh (rows.length * 2) p0
    obtain ⟨s2, f2⟩ := set_hd s1 (rows.length * 2 + 1) p1
    have hF := f1.trans f2 (fun _ _ q => q)
    have hw : w.setCells g (rows.length * 2) [p0, p1] = (w.setCell ⟨g, rows.length * 2, none⟩ p0).setCell ⟨g, rows.length * 2 + 1, none⟩ p1 := rfl
    rw [hw]
    refine ⟨⟨fun k hk => hok k hk, inner ++ [p0, p1], ⟨?_, .inr ⟨g, cap, _, ?_, hbase, s2, ?_, hcm, ?_, ?_⟩⟩, ?_⟩, ⟨hF.os, hF.tape, hF.output, hF.size, fun k hk hn => hF.block k hk (fun e => hn (by rw [e]))⟩, fun j hj => ⟨?_, fz_of_heap hh _⟩⟩
    · rw [List.length_append, List.length_append, hlen']; simp [Kd.raw]; omega
    · rw [List.length_append]; rfl
    · rw [List.length_append]; simp; omega
    · rw [Array.size_setIfInBounds, Array.size_setIfInBounds]; exact hcs
    · have hin' : cur.toList.take (rows.length * 2) = inner := hin
      apply List.ext_getElem?
      intro j
      rw [List.length_append]
      show (((cur.setIfInBounds (rows.length * 2) p0).setIfInBounds (rows.length * 2 + 1) p1).toList.take ((rows.length + 1) * 2))[j]? = _
      rw [List.getElem?_take, Array.getElem?_toList]
      rcases Nat.lt_or_ge j (rows.length * 2) with hj | hj
      · rw [if_pos (by omega), Array.getElem?_setIfInBounds_ne (by omega), Array.getElem?_setIfInBounds_ne (by omega), List.getElem?_append_left (by omega), ← hin', List.getElem?_take, if_pos hj, Array.getElem?_toList]
      · rw [List.getElem?_append_right (by omega), hlen']
        rcases Nat.lt_or_ge j (rows.length * 2 + 2) with hj2 | hj2
        · rw [if_pos (by omega)]
          rcases (show j = rows.length * 2 ∨ j = rows.length * 2 + 1 by omega) with rfl | rfl
          · rw [Array.getElem?_setIfInBounds_ne (by omega), Array.getElem?_setIfInBounds_self_of_lt (by omega), Nat.sub_self]; rfl
          · rw [Array.getElem?_setIfInBounds_self_of_lt (by rw [Array.size_setIfInBounds]; omega), show rows.length * 2 + 1 - rows.length * 2 = 1 by omega]; rfl
        · rw [if_neg (by omega), List.getElem?_eq_none (by simp; omega)]
    · refine Reps.snoc (hr.imp_ (fun _ _ hp => hp)) ⟨rfl, rfl, fun u hu => ?_⟩ rfl
      rcases List.mem_cons.1 hu with rfl | hu
      · exact h0
      · rw [List.mem_singleton.1 hu]; exact h1
    · rw [cell_of_heap hh (Array.getElem?_eq_getElem (by omega))]; rfl
theorem step_put1 {P : Program} {ops : Array Oper} {o : Oper} {a : Act} {w : World} {K : Act → World → Prop} {Q : Exit → Act → World → Prop} {E : Prop}
    (hg : o.guard = none) (s x : Operand) (t : TypeId) (hop : o.op = Op.call { callee := Callee.builtin Builtin.append, args := #[s, x], argTypes := #[t, t] })
    (e : TypeId) (i : TypeInfo) (h1 : P.underlying t = some (.slice e)) (h2 : P.info? e = some i) (h4 : i.size = 2)
    (g m cap : Nat) (hs : a.eval s = .slice (some ⟨g, 0, none⟩) m cap) (b c : Nat) (hx : a.eval x = .slice (some ⟨b, 0, none⟩) 1 c) (p0 p1 : Value) (hc0 : w.cell? ⟨b, 0, none⟩ = some p0) (hc1 : w.cell? ⟨b, 1, none⟩ = some p1) (h01 : p0.oneCell' = true) (h11 : p1.oneCell' = true)
    {ok : Nat → Prop} {rows : List (List Value)} (hR : Kd.R (Kd.raw 2) e w 0 ok (.slice (some ⟨g, 0, none⟩) m cap) rows) (hroom : m < cap)
    (hK : ∀ w1, Kd.R (Kd.raw 2) e w1 0 ok (.slice (some ⟨g, 0, none⟩) (m + 1) cap) (rows ++ [[p0, p1]]) → w.grownBy w1 (some g) → K (a.put o.dst (.slice (some ⟨g, 0, none⟩) (m + 1) cap)) w1) :
    if Region.wanted o (yielded ops a.tmps) = true then Oper.wp P o a w K Q else E := by
  obtain ⟨r1, r2, r3⟩ := raw_put hR hroom h01 h11
  refine step_append_room hg s x t hop e i 2 h1 h2 h4 g 0 m cap hs ⟨b, 0, none⟩ 1 c [p0, p1] hx rfl (fun j u hu => ?_) (fun u hu => ?_) (by omega) (fun j hj => ?_) ?_
  · rw [add_plain]
    match j, hu with
    | 0, hu => simp at hu; rw [← hu]; exact hc0
    | 1, hu => simp at hu; rw [← hu]; exact hc1
  · rcases List.mem_cons.1 hu with rfl | hu
    · exact h01
    · rw [List.mem_singleton.1 hu]; exact h11
  · rw [Nat.zero_add]; exact r3 j hj
  · rw [Nat.zero_add]; exact hK _ r1 r2
end Go.Proofs.Ytgiimdoabkcoaaa.Co
