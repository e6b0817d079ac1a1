/-
gantt.Spans walked: what is open is kept in a map of rows, told by the value at each key.
-/
import Derived.Test.YtkegdcnnankokaaMapOps
import Derived.WalkKit
namespace Go.Proofs.Ytkegdcnnankokaa.PGan
set_option linter.unusedVariables false
set_option linter.unusedSimpArgs false
open Go.Maps Go.RowKit Go.Proofs.YtkegdcnnankokaaW.PrintWords Go.Proofs.YtkegdcnnankokaaW.PrintLast Go.Proofs.YtkegdcnnankokaaW.PrintMore
open Go.ChangeMaps (setBlock heap_setBlock_same heap_setBlock_other)
abbrev okB (B : Nat) : Nat → Prop := fun k => B < k
/-- the call's own map, its rows, the spans told so far. -/
structure SpI (w wr : World) (n : Nat) (out : List S27) (v2 : Value) (g : Value → Value) (opn : Int → Int → List Int) : Prop where
  map : MapTells Try.prog 89 wr w.heap.size n (.slice none 0 0) g
  rows : ∀ t c, Kd.R (Kd.int .i64) 3 wr w.heap.size (okB w.heap.size) (g (sv t c)) (opn t c)
  apart : ∀ t c t' c', ¬ (t = t' ∧ c = c') → ∀ k, (g (sv t c)).ownBlock = some k → (g (sv t' c')).ownBlock ≠ some k
  outs : Kd.R k27 27 wr w.heap.size (okB w.heap.size) v2 out
  below : Below w.heap.size w wr
section
variable {w wr : World} {n : Nat} {out : List S27} {v2 : Value} {g : Value → Value} {opn : Int → Int → List Int}
theorem SpI.at_start (w : World) : SpI w (w.alloc (.map #[] 0)) 0 [] (.slice none 0 0) (fun _ => .slice none 0 0) (fun _ _ => []) :=
  ⟨MapTells.made w 0 _, fun _ _ => Kd.R_nil _ _ _ _ _, fun _ _ _ _ _ k hk => by simp [Value.ownBlock] at hk, Kd.R_nil _ _ _ _ _, (Below.refl _ _).alloc (Nat.le_refl _) _⟩
theorem SpI.later {wr' : World} (h : SpI w wr n out v2 g opn) (hb : Below wr.heap.size wr wr') : SpI w wr' n out v2 g opn :=
  ⟨h.map.kept (hb.block _ h.map.lt), fun t c => Kd.R_below (h.rows t c) hb, h.apart, Kd.R_below h.outs hb, h.below.trans (hb.mono (Nat.le_of_lt h.map.lt))⟩
theorem SpI.lt (h : SpI w wr n out v2 g opn) : w.heap.size < wr.heap.size := h.map.lt
theorem SpI.out_ne (h : SpI w wr n out v2 g opn) : some w.heap.size ≠ v2.ownBlock := fun e => by
  have := h.outs.1 _ e.symm
  exact absurd this (Nat.lt_irrefl _)
theorem SpI.row_ne (h : SpI w wr n out v2 g opn) (t c : Int) : some w.heap.size ≠ (g (sv t c)).ownBlock := fun e => by
  have := (h.rows t c).1 _ e.symm
  exact absurd this (Nat.lt_irrefl _)
/-- the row of spans was turned or grew. -/
theorem SpI.turned {wr' : World} {v2' : Value} {out' : List S27} (h : SpI w wr n out v2 g opn) (hg : wr.grownBy wr' v2.ownBlock) (hR : Kd.R k27 27 wr' w.heap.size (okB w.heap.size) v2' out') (hB : Below w.heap.size w wr') :
    SpI w wr' n out' v2' g opn :=
  ⟨h.map.kept (hg.block _ h.map.lt h.out_ne), fun t c => Kd.R_over' (v := v2) (h.rows t c) (Kd.R_typed h.outs) (by decide) hg, h.apart, hR, hB⟩
theorem set_below {b : Nat} (w wr : World) (ob : Obj) (hb : w.heap.size ≤ b) (h : Below w.heap.size w wr) : Below w.heap.size w (setBlock wr b ob) :=
  ⟨h.os, h.tape, h.output, by simpa [setBlock] using h.size, fun k hk => by
    rw [← h.block k hk]
    simp only [setBlock]
    rw [Array.getElem?_setIfInBounds_ne (by omega)]⟩
theorem set_heap {b k : Nat} (wr : World) (ob : Obj) (h : k ≠ b) : (setBlock wr b ob).heap[k]? = wr.heap[k]? := by
  simp only [setBlock]
  rw [Array.getElem?_setIfInBounds_ne (by omega)]
theorem set_alloc {b : Nat} (wr : World) (ob c : Obj) (h : b < wr.heap.size) : setBlock (wr.alloc c) b ob = (setBlock wr b ob).alloc c := by
  unfold setBlock World.alloc
  simp only
  congr 1
  apply Array.ext_getElem?
  intro i
  simp only [Array.getElem?_setIfInBounds, Array.getElem?_push, Array.size_push, Array.size_setIfInBounds]
  by_cases h1 : b = i
  · subst h1
    have h2 : b ≠ wr.heap.size := by omega
    have h3 : b < wr.heap.size + 1 := by omega
    simp [h2, h3, h]
  · simp [h1]
theorem set_size (wr : World) (b : Nat) (ob : Obj) : (setBlock wr b ob).heap.size = wr.heap.size := by simp [setBlock]
open Classical in
/-- another value at one key. -/
noncomputable def gput (g : Value → Value) (key v : Value) : Value → Value := fun y => if y = key then v else g y
theorem gput_same (g : Value → Value) (key v : Value) : gput g key v key = v := by simp [gput]
theorem gput_other (g : Value → Value) {key v y : Value} (h : y ≠ key) : gput g key v y = g y := by simp [gput, h]
theorem gput_sv (g : Value → Value) (t c t' c' : Int) (v : Value) : gput g (sv t c) v (sv t' c') = if t' = t ∧ c' = c then v else g (sv t' c') := by
  by_cases h : t' = t ∧ c' = c
  · obtain ⟨rfl, rfl⟩ := h
    rw [gput_same, if_pos ⟨rfl, rfl⟩]
  · rw [gput_other g (fun e => h (sv_inj e)), if_neg h]
/-- a row grew, and lies in the map again. -/
theorem SpI.entered {w2 w3 : World} {ob ob' : Obj} {t c : Int} {v1 : Value} {xs' : List Int} (h : SpI w wr n out v2 g opn) (hR : Kd.R (Kd.int .i64) 3 w2 w.heap.size (okB w.heap.size) v1 xs')
    (hg : (setBlock wr w.heap.size ob).grownBy w2 (g (sv t c)).ownBlock) (hat : v1.ownBlock = (g (sv t c)).ownBlock ∨ ∃ b, v1.ownBlock = some b ∧ (setBlock wr w.heap.size ob).heap.size ≤ b) (hB : Below w.heap.size w w2)
    (hw : w3 = setBlock w2 w.heap.size ob') (hT : MapTells Try.prog 89 w3 w.heap.size (n + 1) (.slice none 0 0) (gput g (sv t c) v1)) : SpI w w3 (n + 1) out v2 (gput g (sv t c) v1) (opnPut opn t c xs') := by
  have hsz : (setBlock wr w.heap.size ob).heap.size = wr.heap.size := by simp [setBlock]
  have hs3 : ∀ {α : Type} {d : Kd α} {q : Nat} {v : Value} {xs : List α}, d.R q w2 w.heap.size (okB w.heap.size) v xs → d.R q w3 w.heap.size (okB w.heap.size) v xs := fun hR => by
    rw [hw]; exact Kd.R_move hR (fun k hk => set_heap w2 ob' (Nat.ne_of_gt hk))
  have hs1 : ∀ {α : Type} {d : Kd α} {q : Nat} {v : Value} {xs : List α}, d.R q wr w.heap.size (okB w.heap.size) v xs → d.R q (setBlock wr w.heap.size ob) w.heap.size (okB w.heap.size) v xs := fun hR =>
    Kd.R_move hR (fun k hk => set_heap wr ob (Nat.ne_of_gt hk))
  refine ⟨hT, fun t' c' => ?_, fun t1 c1 t2 c2 hne k hk hk2 => ?_, ?_, ?_⟩
  · rw [gput_sv]
    unfold opnPut
    by_cases e : t' = t ∧ c' = c
    · rw [if_pos e, if_pos e]; exact hs3 hR
    · rw [if_neg e, if_neg e]
      refine hs3 (Kd.R_grown2 (hs1 (h.rows t' c')) rfl hg (fun k hk hk2 => ?_))
      exact h.apart t c t' c' (fun q => e ⟨q.1.symm, q.2.symm⟩) k hk hk2.symm
  · rw [gput_sv] at hk hk2
    have far : ∀ t' c', ¬ (t' = t ∧ c' = c) → ∀ k, v1.ownBlock = some k → (g (sv t' c')).ownBlock ≠ some k := fun t' c' e k h1 h2 => by
      rcases hat with q | ⟨b, q, hb⟩
      · exact h.apart t c t' c' (fun q => e ⟨q.1.symm, q.2.symm⟩) k (q ▸ h1) h2
      · rw [q] at h1
        obtain rfl := Option.some.inj h1
        have := Kd.R_lt (h.rows t' c') _ h2
        rw [hsz] at hb
        omega
    by_cases e1 : t1 = t ∧ c1 = c
    · rw [if_pos e1] at hk
      have e2 : ¬ (t2 = t ∧ c2 = c) := fun q => hne ⟨e1.1.trans q.1.symm, e1.2.trans q.2.symm⟩
      rw [if_neg e2] at hk2
      exact far t2 c2 e2 k hk hk2
    · rw [if_neg e1] at hk
      by_cases e2 : t2 = t ∧ c2 = c
      · rw [if_pos e2] at hk2
        exact far t1 c1 e1 k hk2 hk
      · rw [if_neg e2] at hk2
        exact h.apart t1 c1 t2 c2 hne k hk hk2
  · exact hs3 (Kd.R_over' (v := g (sv t c)) (hs1 h.outs) (Kd.R_typed (hs1 (h.rows t c))) (by decide) hg)
  · rw [hw]; exact set_below w w2 ob' (Nat.le_refl _) hB
/-- a key was taken out of the map. -/
theorem SpI.dropped {w1 : World} {ob : Obj} {t c : Int} (h : SpI w wr n out v2 g opn) (hw : w1 = setBlock wr w.heap.size ob) (hT : MapTells Try.prog 89 w1 w.heap.size n (.slice none 0 0) (gput g (sv t c) (.slice none 0 0))) :
    SpI w w1 n out v2 (gput g (sv t c) (.slice none 0 0)) (opnPut opn t c []) := by
  have hs1 : ∀ {α : Type} {d : Kd α} {q : Nat} {v : Value} {xs : List α}, d.R q wr w.heap.size (okB w.heap.size) v xs → d.R q w1 w.heap.size (okB w.heap.size) v xs := fun hR => by
    rw [hw]; exact Kd.R_move hR (fun k hk => set_heap wr ob (Nat.ne_of_gt hk))
  refine ⟨hT, fun t' c' => ?_, fun t1 c1 t2 c2 hne k hk hk2 => ?_, hs1 h.outs, by rw [hw]; exact set_below w wr ob (Nat.le_refl _) h.below⟩
  · rw [gput_sv]
    unfold opnPut
    by_cases e : t' = t ∧ c' = c
    · rw [if_pos e, if_pos e]; exact Kd.R_nil _ _ _ _ _
    · rw [if_neg e, if_neg e]; exact hs1 (h.rows t' c')
  · rw [gput_sv] at hk hk2
    by_cases e1 : t1 = t ∧ c1 = c
    · rw [if_pos e1] at hk; simp [Value.ownBlock] at hk
    · rw [if_neg e1] at hk
      by_cases e2 : t2 = t ∧ c2 = c
      · rw [if_pos e2] at hk2; simp [Value.ownBlock] at hk2
      · rw [if_neg e2] at hk2
        exact h.apart t1 c1 t2 c2 hne k hk hk2
end
theorem SpI.more {w wr : World} {n m : Nat} {out : List S27} {v2 : Value} {g : Value → Value} {opn : Int → Int → List Int} (h : SpI w wr n out v2 g opn) (hm : n ≤ m) : SpI w wr m out v2 g opn := by
  obtain ⟨⟨es, clock, h1, h2, h3⟩, h4, h5, h6, h7⟩ := h
  exact ⟨⟨es, clock, h1, Nat.le_trans h2 hm, h3⟩, h4, h5, h6, h7⟩
section
variable {w W0 w2 w3 : World} {n : Nat} {out : List S27} {v2 : Value} {g : Value → Value} {opn : Int → Int → List Int} {ob ob' : Obj} {t c : Int}
/-- what a store into the map asks: the map's block is as the entry left it. -/
theorem SpI.entry_eq (h : SpI w W0 n out v2 g opn) (cc : Obj) (hg : (setBlock W0 w.heap.size ob).grownBy w2 (g (sv t c)).ownBlock) : w2.heap[w.heap.size]? = (setBlock (W0.alloc cc) w.heap.size ob).heap[w.heap.size]? := by
  have h1 : w.heap.size < (setBlock W0 w.heap.size ob).heap.size := by simpa [setBlock] using h.lt
  rw [hg.block _ h1 (h.row_ne t c), set_alloc W0 ob cc h.lt, heap_alloc_old _ _ h1]
/-- a cell of a block of the call's own is as it was, behind a store into the map. -/
theorem SpI.entry_cell (h : SpI w W0 n out v2 g opn) (hg : (setBlock W0 w.heap.size ob).grownBy w2 (g (sv t c)).ownBlock) (hw : w3 = setBlock w2 w.heap.size ob') {a : Addr} {u : Value} (hne : a.block ≠ w.heap.size) (hno : some a.block ≠ (g (sv t c)).ownBlock) (hu : W0.cell? a = some u) : w3.cell? a = some u := by
  have hlt := World.block_lt_of_cell? W0 a hu
  have e1 : w3.heap[a.block]? = W0.heap[a.block]? := by
    rw [hw, set_heap w2 ob' hne, hg.block _ (by simpa [setBlock] using hlt) hno, set_heap W0 ob hne]
  exact (World.cell?_of_block e1).trans hu
theorem SpI.row_set (h : SpI w W0 n out v2 g opn) (ob : Obj) : Kd.R (Kd.int .i64) 3 (setBlock W0 w.heap.size ob) w.heap.size (okB w.heap.size) (g (sv t c)) (opn t c) := Kd.R_move (h.rows t c) (fun k hk => set_heap W0 ob (Nat.ne_of_gt hk))
theorem SpI.set_fresh (h : SpI w W0 n out v2 g opn) (ob : Obj) : ∀ k, (setBlock W0 w.heap.size ob).heap.size ≤ k → okB w.heap.size k := fun k hk => by
  have := h.lt
  simp only [setBlock, Array.size_setIfInBounds] at hk
  show w.heap.size < k
  omega
theorem SpI.set_le (h : SpI w W0 n out v2 g opn) (ob : Obj) : w.heap.size ≤ (setBlock W0 w.heap.size ob).heap.size := by
  have := h.lt
  simp only [setBlock, Array.size_setIfInBounds]
  omega
theorem SpI.fresh (h : SpI w W0 n out v2 g opn) : ∀ k, W0.heap.size ≤ k → okB w.heap.size k := fun k hk => by
  have := h.lt
  show w.heap.size < k
  omega
end
/-- one more. -/
def incF (s : S27) : S27 := { s with f4 := wrap64 (s.f4 + 1) }
def endF (i : Int) (s : S27) : S27 := { s with f3 := i }
theorem grown_self (w : World) (row : Option Nat) : w.grownBy w row := ⟨rfl, rfl, rfl, Nat.le_refl _, fun _ _ _ => rfl⟩
theorem grown_trans {w w1 w2 : World} {row : Option Nat} (h : w.grownBy w1 row) (h2 : w1.grownBy w2 row) : w.grownBy w2 row :=
  ⟨h2.os.trans h.os, h2.tape.trans h.tape, h2.output.trans h.output, Nat.le_trans h.size h2.size, fun k hk hne => (h2.block k (Nat.lt_of_lt_of_le hk h.size) hne).trans (h.block k hk hne)⟩
theorem grown_below {w wr w1 : World} {g2 : Nat} (hB : Below w.heap.size w wr) (h : wr.grownBy w1 (some g2)) (hg : w.heap.size ≤ g2) : Below w.heap.size w w1 :=
  hB.trans ⟨h.os, h.tape, h.output, h.size, fun k hk => h.block k (Nat.lt_of_lt_of_le hk hB.size) (fun e => by injection e with e; omega)⟩
def OpenLe (opn : Int → Int → List Int) (i : Nat) : Prop := ∀ t c, (opn t c).length ≤ i
theorem openLe_put {opn : Int → Int → List Int} {i : Nat} (h : OpenLe opn i) (t c : Int) (r : List Int) (hr : r.length ≤ i + 1) : OpenLe (opnPut opn t c r) (i + 1) := fun t' c' => by
  unfold opnPut
  split
  · exact hr
  · have := h t' c'; omega
/-- gantt.of. -/
theorem of_any (a t c p q : Int) (w : World) : Calls Try.prog 47 #[.agg #[.int .i64 a, .int .i64 t, .int .i64 c, .int .i64 p, .int .i64 q]] w fun e w' => e = .returned (.agg #[.int .i64 t, .int .i64 c]) ∧ ∃ o1 o2, w' = (w.alloc o1).alloc o2 := by
  go_enter Try.func47, Try.ntmps47
  go_wp2
  refine bodyPost_ret (v := sv t c) (by simp [results, Try.results47, go_sem, sv] <;> first | rfl | decide) rfl ⟨rfl, _, _, rfl⟩
end Go.Proofs.Ytkegdcnnankokaa.PGan
