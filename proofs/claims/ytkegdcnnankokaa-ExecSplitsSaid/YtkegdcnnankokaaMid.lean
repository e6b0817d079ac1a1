/-
Two known blocks with unknown ones ahead of them and behind them: what an own slice holds there, and append.
-/
import Derived.Test.YtkegdcnnankokaaOwn
namespace Go
set_option linter.unusedVariables false
set_option linter.unusedSimpArgs false
open Go.RowKit

theorem World.ext_alloc2 (W : World) (os : Array Obj) (d : Nat) (S F : Obj) : ((W.ext os d).alloc S).alloc F = W.ext ((os.push S).push F) d := by
  rw [World.ext_alloc, World.ext_alloc]

/-- a world that is as W below, with R and E behind nA more blocks. -/
theorem mid_of {W w1 : World} (nA dA : Nat) {R E : Obj} (h1 : w1.os = W.os) (h2 : w1.tape = W.tape) (h3 : w1.output = W.output) (hsz : W.heap.size + nA + 2 ≤ w1.heap.size) (hb : ∀ k, k < W.heap.size → w1.heap[k]? = W.heap[k]?)
    (hR : w1.heap[W.heap.size + nA]? = some R) (hE : w1.heap[W.heap.size + nA + 1]? = some E) : ∃ osA os d, osA.size = nA ∧ w1 = (((W.ext osA dA).alloc R).alloc E).ext os d := by
  refine ⟨w1.heap.extract W.heap.size (W.heap.size + nA), w1.heap.extract (W.heap.size + nA + 2) w1.heap.size, w1.drawn, by simp; omega, ?_⟩
  have hh : w1.heap = (((W.heap ++ w1.heap.extract W.heap.size (W.heap.size + nA)).push R).push E) ++ w1.heap.extract (W.heap.size + nA + 2) w1.heap.size := by
    have hs1 : (w1.heap.extract W.heap.size (W.heap.size + nA)).size = nA := by simp; omega
    apply Array.ext_getElem?
    intro k
    rw [Array.getElem?_append]
    simp only [Array.size_push, Array.size_append, hs1]
    by_cases hk : k < W.heap.size + nA + 1 + 1
    · rw [if_pos hk, Array.getElem?_push]
      simp only [Array.size_push, Array.size_append, hs1]
      by_cases hk1 : k = W.heap.size + nA + 1
      · subst hk1; rw [if_pos rfl]; exact hE
      · rw [if_neg hk1, Array.getElem?_push]
        simp only [Array.size_append, hs1]
        by_cases hk2 : k = W.heap.size + nA
        · subst hk2; rw [if_pos rfl]; exact hR
        · rw [if_neg hk2, Array.getElem?_append]
          by_cases hk3 : k < W.heap.size
          · rw [if_pos hk3]; exact hb k hk3
          · rw [if_neg hk3, Array.getElem?_extract, if_pos (by omega)]; congr 1; omega
    · rw [if_neg hk, Array.getElem?_extract]
      by_cases hk2 : k < w1.heap.size
      · rw [if_pos (by omega)]; congr 1; omega
      · rw [if_neg (by omega)]; simp; omega
  cases w1
  simp only at hh h1 h2 h3
  simp only [World.ext, World.alloc]
  congr 1

/-- an own slice ahead of the two known blocks, or behind them. -/
def OwnM (n0 nA : Nat) (osA os : Array Obj) (e : TypeId) (size : Nat) (v : Value) (n : Nat) (xs : List Value) : Prop :=
  OwnE n0 osA e size v n xs ∨ OwnE (n0 + nA + 2) os e size v n xs
theorem OwnM.behind {n0 nA : Nat} {osA os : Array Obj} {e : TypeId} {size : Nat} {v : Value} {n : Nat} {xs : List Value} (h : OwnM n0 nA osA os e size v n xs) (os' : Array Obj) : OwnM n0 nA osA (os ++ os') e size v n xs := by
  rcases h with h | h
  · exact .inl h
  · exact .inr (h.app os')
theorem OwnM.push {n0 nA : Nat} {osA os : Array Obj} {e : TypeId} {size : Nat} {v : Value} {n : Nat} {xs : List Value} (h : OwnM n0 nA osA os e size v n xs) (o : Obj) : OwnM n0 nA osA (os.push o) e size v n xs := by
  rcases h with h | h
  · exact .inl h
  · exact .inr (h.push o)
theorem mid_size (W : World) (osA os : Array Obj) (dA d : Nat) (R E : Obj) : ((((W.ext osA dA).alloc R).alloc E).ext os d).heap.size = W.heap.size + osA.size + 2 + os.size := by
  simp [World.ext_size]
theorem mid_heapA (W : World) (osA os : Array Obj) (dA d : Nat) (R E : Obj) (g : Nat) (h : g < W.heap.size + osA.size) : ((((W.ext osA dA).alloc R).alloc E).ext os d).heap[g]? = (W.ext osA dA).heap[g]? := by
  rw [World.ext_heap (by simp [World.ext_size]; omega), Below.heap_alloc _ _ _ (by simp [World.ext_size]; omega), Below.heap_alloc _ _ _ (by simp [World.ext_size]; omega)]
theorem mid_heapR (W : World) (osA os : Array Obj) (dA d : Nat) (R E : Obj) : ((((W.ext osA dA).alloc R).alloc E).ext os d).heap[W.heap.size + osA.size]? = some R := by
  rw [World.ext_heap (by simp [World.ext_size]; omega), Below.heap_alloc _ _ _ (by simp [World.ext_size])]
  rw [← World.ext_size W osA dA]
  exact Array.getElem?_push_size
theorem mid_heapE (W : World) (osA os : Array Obj) (dA d : Nat) (R E : Obj) : ((((W.ext osA dA).alloc R).alloc E).ext os d).heap[W.heap.size + osA.size + 1]? = some E := by
  rw [World.ext_heap (by simp [World.ext_size])]
  have : W.heap.size + osA.size + 1 = ((W.ext osA dA).alloc R).heap.size := by simp [World.ext_size]
  rw [this]
  exact Array.getElem?_push_size
theorem mid_heapB (W : World) (osA os : Array Obj) (dA d : Nat) (R E : Obj) (g : Nat) (h : W.heap.size + osA.size + 2 ≤ g) : ((((W.ext osA dA).alloc R).alloc E).ext os d).heap[g]? = os[g - (W.heap.size + osA.size + 2)]? := by
  have hs : (((W.ext osA dA).alloc R).alloc E).heap.size = W.heap.size + osA.size + 2 := by simp [World.ext_size]
  rw [World.ext_beyond _ _ _ _ (by omega), hs]
theorem OwnM.row {W : World} {osA os : Array Obj} {dA d : Nat} {R E : Obj} {e : TypeId} {size : Nat} {v : Value} {n : Nat} {xs : List Value} (h : OwnM W.heap.size osA.size osA os e size v n xs) :
    ((((W.ext osA dA).alloc R).alloc E).ext os d).ownsRow W.heap.size e size v n xs ∧ v.ownBlock ≠ some (W.heap.size + osA.size) ∧ v.ownBlock ≠ some (W.heap.size + osA.size + 1) ∧ ∀ k, v.ownBlock = some k → W.heap.size ≤ k := by
  rcases h with h | h
  · obtain ⟨hl, ⟨rfl, h2⟩ | ⟨g, cap, cur, rfl, h2, h3, h4⟩⟩ := h
    · exact ⟨⟨hl, .inl ⟨rfl, h2⟩⟩, by simp [Value.ownBlock], by simp [Value.ownBlock], by simp [Value.ownBlock]⟩
    · have hlt := (Array.getElem?_eq_some_iff.1 h3).1
      refine ⟨⟨hl, .inr ⟨g, cap, cur, rfl, h2, ?_, h4⟩⟩, by simp [Value.ownBlock]; omega, by simp [Value.ownBlock]; omega, by simp [Value.ownBlock]; omega⟩
      rw [mid_heapA _ _ _ _ _ _ _ _ (by omega), World.ext_beyond _ _ _ _ h2]; exact h3
  · obtain ⟨hl, ⟨rfl, h2⟩ | ⟨g, cap, cur, rfl, h2, h3, h4⟩⟩ := h
    · exact ⟨⟨hl, .inl ⟨rfl, h2⟩⟩, by simp [Value.ownBlock], by simp [Value.ownBlock], by simp [Value.ownBlock]⟩
    · refine ⟨⟨hl, .inr ⟨g, cap, cur, rfl, by omega, ?_, h4⟩⟩, by simp [Value.ownBlock]; omega, by simp [Value.ownBlock]; omega, by simp [Value.ownBlock]; omega⟩
      rw [mid_heapB _ _ _ _ _ _ _ _ h2]; exact h3
theorem OwnM.of_row {W : World} {osA os : Array Obj} {dA d : Nat} {R E : Obj} {e : TypeId} {size : Nat} {v : Value} {n : Nat} {xs : List Value} (h : ((((W.ext osA dA).alloc R).alloc E).ext os d).ownsRow W.heap.size e size v n xs)
    (hR : v.ownBlock ≠ some (W.heap.size + osA.size)) (hE : v.ownBlock ≠ some (W.heap.size + osA.size + 1)) : OwnM W.heap.size osA.size osA os e size v n xs := by
  obtain ⟨hl, h2 | ⟨g, cap, cur, rfl, h2, h3, h4⟩⟩ := h
  · exact .inl ⟨hl, .inl h2⟩
  · simp only [Value.ownBlock, ne_eq, Option.some.injEq] at hR hE
    by_cases hg : g < W.heap.size + osA.size
    · rw [mid_heapA _ _ _ _ _ _ _ _ hg, World.ext_beyond _ _ _ _ h2] at h3
      exact .inl ⟨hl, .inr ⟨g, cap, cur, rfl, h2, h3, h4⟩⟩
    · rw [mid_heapB _ _ _ _ _ _ _ _ (by omega)] at h3
      exact .inr ⟨hl, .inr ⟨g, cap, cur, rfl, by omega, h3, h4⟩⟩

section
variable {P : Program} {ops : Array Oper} {rest : List Oper} {o : Oper} {a : Act} {Q : Exit → Act → World → Prop}
/-- append of what lies in a new block to an own row, two known blocks in between. -/
theorem wpList_append_mid (W : World) (osA os : Array Obj) (dA d : Nat) (R E : Obj) (hgd : o.guard = none) (s x : Operand) (t e : TypeId) (z : Value) (size bytes : Nat)
    (ho : o.op = .call { callee := .builtin .append, args := #[s, x], argTypes := #[t, t] })
    (ht : P.underlying t = some (.slice e)) (hinfo : (P.info? e).map (fun i => (i.zero, i.size, i.bytes)) = some (some z, size, bytes)) (hzs : z.cells.size = size) (hsz : 0 < size) (hb0 : 0 < bytes)
    (v : Value) (n m : Nat) (xs news : List Value) (g : Nat) (hg : g = W.heap.size + osA.size + 2 + os.size) (hs : a.eval s = v) (hx : a.eval x = .slice (some ⟨g, 0, none⟩) m m) (hl : news.length = m * size) (h1 : ∀ u ∈ news, u.oneCell' = true)
    (hown : OwnM W.heap.size osA.size osA os e size v n xs) (hbytes : (n + m) * bytes ≤ 140737488355328)
    (h : ∀ v' osA' os' d', osA'.size = osA.size → OwnM W.heap.size osA.size osA' os' e size v' (n + m) (xs ++ news) → wpList P ops Q rest (a.put o.dst v') ((((W.ext osA' dA).alloc R).alloc E).ext os' d')) :
    wpList P ops Q (o :: rest) a (((((W.ext osA dA).alloc R).alloc E).ext os d).alloc (.cells news.toArray e)) := by
  obtain ⟨i0, hi, hzz⟩ := Option.map_eq_some_iff.1 hinfo
  simp only [Prod.mk.injEq] at hzz
  obtain ⟨hz0, hz1, hz2⟩ := hzz
  have hlen : n + m ≤ 140737488355328 := Nat.le_trans (Nat.le_mul_of_pos_right _ hb0) hbytes
  have hsz1 := mid_size W osA os dA d R E
  obtain ⟨hrow, hnR, hnE, hnk⟩ := hown.row (dA := dA) (d := d) (R := R) (E := E)
  have hA := mid_heapA W osA os dA d R E
  have hHR := mid_heapR W osA os dA d R E
  have hHE := mid_heapE W osA os dA d R E
  have hbel : Below W.heap.size W ((((W.ext osA dA).alloc R).alloc E).ext os d) :=
    ((((World.below_ext W osA dA).alloc (by simp [World.ext_size]) R).alloc (by simp [World.ext_size]; omega) E).trans ((World.below_ext _ os d).mono (by simp [World.ext_size]; omega)))
  generalize hw : (((W.ext osA dA).alloc R).alloc E).ext os d = w0 at *
  have hnew : (w0.alloc (.cells news.toArray e)).heap[g]? = some (.cells news.toArray e (0, 0)) := by
    rw [hg, ← hsz1]; exact Array.getElem?_push_size
  refine wpList_append_own_at (w0.alloc (.cells news.toArray e)) hgd s x t ho W.heap.size e i0 z size bytes ht hi hz0 hz1 hz2 hzs hsz v n xs hs (hrow.alloc _) ⟨g, 0, none⟩ m m news hx hl ?_ h1 (by simp only [maxLen]; omega) hbytes (by simp; omega) ?_
  · intro j u hj
    have : ((⟨g, 0, none⟩ : Addr).add j) = ⟨g, j, none⟩ := by unfold Addr.add; split <;> simp_all
    rw [this]
    unfold World.cell?
    simp only [hnew]
    simpa using hj
  · intro v1 w1 hown1 hg1 _ hat
    have hbl : Below W.heap.size W w1 := (hbel.alloc (by omega) _).grown hg1 (by simp; omega) hnk
    have hblk : ∀ k, k < w0.heap.size → some k ≠ v.ownBlock → w1.heap[k]? = w0.heap[k]? := by
      intro k hk hne
      rw [hg1.block k (by simp; omega) hne, Below.heap_alloc _ _ _ hk]
    have hsz2 := hg1.size
    simp only [World.size_alloc] at hsz2
    have kR : w1.heap[W.heap.size + osA.size]? = some R := (hblk _ (by omega) (fun e => hnR e.symm)).trans hHR
    have kE : w1.heap[W.heap.size + osA.size + 1]? = some E := (hblk _ (by omega) (fun e => hnE e.symm)).trans hHE
    obtain ⟨osA', os', d', hsA, rfl⟩ := mid_of (W := W) osA.size dA hbl.os hbl.tape hbl.output (by omega) hbl.block kR kE
    refine h v1 osA' os' d' hsA ?_
    rw [← hsA]
    refine OwnM.of_row hown1 ?_ ?_
    · rw [hsA]
      rcases hat with hat | hat
      · rw [hat]; exact hnR
      · rw [hat]; simp; omega
    · rw [hsA]
      rcases hat with hat | hat
      · rw [hat]; exact hnE
      · rw [hat]; simp; omega
end
end Go
