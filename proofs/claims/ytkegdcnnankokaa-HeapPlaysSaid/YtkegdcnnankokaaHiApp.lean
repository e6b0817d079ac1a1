import Derived.Shelf.SlIterI.Sorted
import Derived.Test.YtkegdcnnankokaaHiDrop
/-
slices.Values at []heap.item[int]: what its iterator gives to a loop that leaves the slice alone.
-/
namespace Go.Proofs.Ytkegdcnnankokaa.Hpi
set_option linter.unusedVariables false
set_option linter.unusedSimpArgs false
open Go.Maps Go.Sort Go.Shelf Go.RowKit Go.Proofs.YtkegdcnnankokaaW.PrintWords Go.Proofs.YtkegdcnnankokaaW.PrintLast Go.Proofs.YtkegdcnnankokaaW.PrintMore Hp
def aggI (e : It Int) : Value := .agg #[.int .i64 e.f0, .int .i64 e.f1, .int .i64 e.f2]
set_option maxRecDepth 100000 in
set_option maxHeartbeats 2000000 in
theorem values_items (w : World) (B q c : Nat) (l : List (It Int)) (A : Option Addr) (hB : w.cell? ⟨B, 0, none⟩ = some (.slice A l.length c)) (hA : l ≠ [] → A = some ⟨q, 0, none⟩)
    (h3 : ∀ i, i < l.length → w.cell? ⟨q, i * 3, none⟩ = some (.int .i64 (gd l i).f0) ∧ w.cell? ⟨q, i * 3 + 1, none⟩ = some (.int .i64 (gd l i).f1) ∧ w.cell? ⟨q, i * 3 + 2, none⟩ = some (.int .i64 (gd l i).f2)) (hlen : l.length ≤ 1000000)
    (m lp : Nat) (J : List (It Int) → World → Prop) (hJb : ∀ s W', J s W' → Below w.heap.size w W') (hJa : ∀ s W W', J s W → Below W.heap.size W W' → J s W')
    (hY : ∀ pre x W, J pre W → pre.length < l.length → YieldAt Fence.wide m Try.prog lp #[aggI x] W fun e W' => e = .returned (.bool true) ∧ J (pre ++ [x]) W' ∧ KeepsWalks W W') (W : World) (h0 : J [] W) :
    CallsIn Fence.wide (m + 1) Try.prog 90 #[.func (.yield lp) #[] #[], .pointer (some ⟨B, 0, none⟩)] W fun e W' => (∃ v, e = .returned v) ∧ J l W' := by
  have hb0 : W.cell? ⟨B, 0, none⟩ = some (.slice A l.length c) := ((hJb [] W h0).cell (World.block_lt_of_cell? w _ hB)).trans hB
  refine callsIn_of_wp Try.func90 rfl trivial ?_ rfl
  simp only [Try.ntmps90, List.size_toArray, List.length_cons, List.length_nil, Nat.reduceAdd, Nat.reduceSub, Array.replicate_succ, Array.replicate_zero, List.push_toArray, List.append_toArray, List.nil_append, List.cons_append]
  gi_wp2
  gi_loopw [7] (fun v7 wr => ∃ i : Nat, v7 = .int .i64 (i : Int) ∧ i ≤ l.length ∧ J (l.take i) wr) (fun v7 _ => match v7 with | .int _ n => l.length - n.toNat | _ => 0)
  case atStart => exact ⟨0, rfl, Nat.zero_le _, by simpa using h0⟩
  case round =>
    obtain ⟨i, rfl, hi, hJ⟩ := hrel
    by_cases hlt : i < l.length
    · have hd : decide ((i : Int) < (l.length : Int)) = true := by simpa using hlt
      have hz : (0 : Int) ≤ (i : Int) := by omega
      obtain rfl := hA (by rintro rfl; simp at hlt)
      obtain ⟨a0, a1, a2⟩ := h3 i hlt
      have bel := hJb _ _ hJ
      have x0 := (bel.cell (World.block_lt_of_cell? w _ a0)).trans a0
      have x1 := (bel.cell (World.block_lt_of_cell? w _ a1)).trans a1
      have x2 := (bel.cell (World.block_lt_of_cell? w _ a2)).trans a2
      have hJ2 : J (l.take i) (wr.alloc (.cells #[.int .i64 (gd l i).f0, .int .i64 (gd l i).f1, .int .i64 (gd l i).f2] 117)) := hJa _ _ _ hJ ((Below.refl _ _).alloc (Nat.le_refl _) _)
      obtain ⟨fn, tmps, assign, body, hy, hR⟩ := hY (l.take i) (gd l i) _ hJ2 (by rw [List.length_take]; omega)
      unfold aggI at hy
      gi_wp2
      refine hR.mono ?_
      rintro e W3 ⟨rfl, hJ3, hk3⟩
      gi_wp2
      go_roundw
      case rel => exact ⟨i + 1, by push_cast; rfl, by omega, by rw [List.take_succ_eq_append_getElem hlt, ← gd_at hlt]; exact hJ3⟩
      case measure => simp; omega
    · have hd : decide ((i : Int) < (l.length : Int)) = false := by simpa using hlt
      gi_wp2
      go_end0
      exact ⟨⟨_, rfl⟩, by rw [List.take_of_length_le (by omega)] at hJ; exact hJ⟩
end Go.Proofs.Ytkegdcnnankokaa.Hpi

/-
slices.AppendSeq at heap.item[int]: one yield.
-/
namespace Go.Proofs.Ytkegdcnnankokaa.Hpi
set_option linter.unusedVariables false
set_option linter.unusedSimpArgs false
open Go.Maps Go.Sort Go.Shelf Go.RowKit Go.Proofs.YtkegdcnnankokaaW.PrintWords Go.Proofs.YtkegdcnnankokaaW.PrintLast Go.Proofs.YtkegdcnnankokaaW.PrintMore Hp
def cellsI (e : It Int) : List Value := [.int .i64 e.f0, .int .i64 e.f1, .int .i64 e.f2]
theorem cellsI_len : ∀ ss : List (It Int), (ss.flatMap cellsI).length = ss.length * 3
  | [] => rfl
  | a :: ss => by rw [List.flatMap_cons, List.length_append, cellsI_len ss, List.length_cons]; simp [cellsI]; omega
def apAssign : Code := (Code.region 2 #[{ dst := some 5, op := Op.alloc 117, type := 0, pos := "iter.go:51", after := #[], guard := none }, { dst := none, op := Op.store 117 (Operand.tmp 5) (Operand.tmp 7), type := 0, pos := "iter.go:51", after := #[{ on := 0, ground := Ground.data }, { on := 0, ground := Ground.phase }], guard := none }] false)
def apBody : Code := (Code.block 1 (Code.region 3 #[{ dst := some 8, op := Op.load 64 (Operand.tmp 2), type := 64, pos := "iter.go:52", after := #[], guard := none }, { dst := some 9, op := Op.load 117 (Operand.tmp 5), type := 117, pos := "iter.go:52", after := #[], guard := none }, { dst := some 10, op := Op.buildSlice 64 1 #[(0, Operand.tmp 9)], type := 64, pos := "iter.go:52", after := #[{ on := 1, ground := Ground.data }], guard := none }, { dst := some 11, op := Op.call { callee := Callee.builtin Builtin.append, args := #[Operand.tmp 8, Operand.tmp 10], argTypes := #[64, 64] }, type := 64, pos := "iter.go:52", after := #[{ on := 0, ground := Ground.data }, { on := 2, ground := Ground.data }], guard := none }, { dst := none, op := Op.store 64 (Operand.tmp 2) (Operand.tmp 11), type := 0, pos := "iter.go:52", after := #[{ on := 3, ground := Ground.data }, { on := 3, ground := Ground.chain }, { on := 0, ground := Ground.phase }, { on := 1, ground := Ground.phase }, { on := 2, ground := Ground.phase }, { on := 3, ground := Ground.phase }], guard := none }] false))
/-- the record is the program's own: the loop's two parts stand in its body. -/
theorem ap_code : (match Try.f101.body with
    | some (.seq _ (.seq (.seq _ (.block _ (.rangeFunc _ _ a b))) _)) => some (a, b)
    | _ => none) = some (apAssign, apBody) := by rfl
def apRec (fn : FuncId) (sv : Value) (Bs D : Nat) (st : LoopState) (pend : Option Code) : Loop :=
  { state := st, pending := pend, fn, tmps := #[.slice none 0 0, sv, .pointer (some ⟨Bs, 0, none⟩), undef, .slice none 0 0, undef, sv, undef, undef, undef, undef, undef, undef], params := #[7], assign := apAssign, body := apBody, defers := D }
structure ApAt (w0 : World) (fn : FuncId) (sv : Value) (Bs l D : Nat) (ss : List (It Int)) (W : World) : Prop where
  box : ∃ v, W.heap[Bs]? = some (.cells #[v] 64 (0, 0)) ∧ W.ownsRow w0.heap.size 117 3 v ss.length (ss.flatMap cellsI) ∧ (v = .slice none 0 0 ↔ ss = [])
  L : W.heap[l]? = some (.loop (apRec fn sv Bs D .ready none))
  K : W.heap[D]? = some (.deferred (some []))
  below : Below w0.heap.size w0 W
theorem one3 (x : It Int) : ∀ u ∈ cellsI x, u.oneCell' = true := by
  intro u hu
  simp only [cellsI, List.mem_cons, List.not_mem_nil, or_false] at hu
  rcases hu with rfl | rfl | rfl <;> rfl
theorem new3 (w : World) (x : It Int) (t : TypeId) : ∀ j u, (cellsI x)[j]? = some u → (w.alloc (.cells #[.int .i64 x.f0, .int .i64 x.f1, .int .i64 x.f2] t)).cell? ((⟨w.heap.size, 0, none⟩ : Addr).add j) = some u := by
  intro j u hj
  have hb := World.alloc_heap_new w (.cells #[.int .i64 x.f0, .int .i64 x.f1, .int .i64 x.f2] t (0, 0))
  have ha : ∀ n, (⟨w.heap.size, 0, none⟩ : Addr).add n = ⟨w.heap.size, n, none⟩ := fun n => by unfold Addr.add; split <;> simp_all
  rw [ha]
  match j, hj with
  | 0, hj => exact cell_of_heap hb (by simpa [cellsI] using hj)
  | 1, hj => exact cell_of_heap hb (by simpa [cellsI] using hj)
  | 2, hj => exact cell_of_heap hb (by simpa [cellsI] using hj)
  | n + 3, hj => exact absurd hj (by simp [cellsI])
set_option maxRecDepth 100000 in
set_option maxHeartbeats 2000000 in
theorem apYield (m : Nat) (w0 : World) (fn : FuncId) (hfn : Fence.wide.fn fn) (sv : Value) (Bs l D : Nat) (hBl : Bs ≠ l) (hDl : D ≠ l) (hDB : D ≠ Bs) (h0B : w0.heap.size ≤ Bs) (h0l : w0.heap.size ≤ l)
    (N : Nat) (hN : N ≤ 1000000) (ss : List (It Int)) (x : It Int) (W : World) (h : ApAt w0 fn sv Bs l D ss W) (hlen : ss.length < N) :
    YieldAt Fence.wide m Try.prog l #[aggI x] W fun e W' => e = .returned (.bool true) ∧ ApAt w0 fn sv Bs l D (ss ++ [x]) W' ∧ KeepsWalks W W' := by
  have hne : (64 : TypeId) ≠ 117 := by decide
  obtain ⟨i0, hi, hz0, hz1, hz2⟩ := info_parts infoI
  obtain ⟨v, hv, hrow, _⟩ := h.box
  refine ⟨fn, #[.slice none 0 0, sv, .pointer (some ⟨Bs, 0, none⟩), undef, .slice none 0 0, undef, sv, aggI x, undef, undef, undef, undef, undef], apAssign, apBody, by simpa [apRec] using run_yield (P := Try.prog) (args := #[aggI x]) h.L rfl, roundIn_of_wpIn hfn ?_⟩
  have hl : l < W.heap.size := (Array.getElem?_eq_some_iff.1 h.L).1
  obtain ⟨Wa, hWa⟩ : ∃ Wa, W.alloc (.cells #[.int .i64 x.f0, .int .i64 x.f1, .int .i64 x.f2] 117) = Wa := ⟨_, rfl⟩
  have hBW : Bs < W.heap.size := (Array.getElem?_eq_some_iff.1 hv).1
  have hDW : D < W.heap.size := (Array.getElem?_eq_some_iff.1 h.K).1
  have hva : Wa.heap[Bs]? = some (.cells #[v] 64 (0, 0)) := by rw [← hWa]; exact (Below.heap_alloc _ _ _ hBW).trans hv
  have hLa : Wa.heap[l]? = some (.loop (apRec fn sv Bs D .ready none)) := by rw [← hWa]; exact (Below.heap_alloc _ _ _ hl).trans h.L
  have hKa : Wa.heap[D]? = some (.deferred (some [])) := by rw [← hWa]; exact (Below.heap_alloc _ _ _ hDW).trans h.K
  have hrowa : Wa.ownsRow w0.heap.size 117 3 v ss.length (ss.flatMap cellsI) := by rw [← hWa]; exact hrow.alloc _
  have hba : Below w0.heap.size w0 Wa := by rw [← hWa]; exact h.below.alloc h.below.size _
  have hka : KeepsWalks W Wa := by rw [← hWa]; exact KeepsWalks.alloc _ _
  obtain ⟨b5, hb5⟩ : ∃ b5, W.heap.size = b5 := ⟨_, rfl⟩
  have hia : Wa.heap[b5]? = some (.cells #[.int .i64 x.f0, .int .i64 x.f1, .int .i64 x.f2] 117 (0, 0)) := by rw [← hWa, ← hb5]; exact World.alloc_heap_new _ _
  have hbr := run_beginRound (P := Try.prog) hLa rfl
  obtain ⟨W2, hW2⟩ : ∃ W2, Wa.putObj l (.loop { apRec fn sv Bs D .ready none with state := .busy }) = W2 := ⟨_, rfl⟩
  rw [hW2] at hbr
  have hg2 : Wa.grownBy W2 (some l) := by rw [← hW2]; exact grownBy_putObj_a _ _ _
  have hk2 : KeepsWalks Wa W2 := by rw [← hW2]; exact KeepsWalks.putObj _ hLa rfl
  have hv2 : W2.heap[Bs]? = some (.cells #[v] 64 (0, 0)) := by rw [← hW2]; exact (World.putObj_heap_other hBl).trans hva
  have hK2 : W2.heap[D]? = some (.deferred (some [])) := by rw [← hW2]; exact (World.putObj_heap_other hDl).trans hKa
  have hi2 : W2.heap[b5]? = some (.cells #[.int .i64 x.f0, .int .i64 x.f1, .int .i64 x.f2] 117 (0, 0)) := by rw [← hW2]; exact (World.putObj_heap_other (by omega)).trans hia
  have hL2 : W2.heap[l]? = some (.loop { apRec fn sv Bs D .ready none with state := .busy }) := by rw [← hW2]; exact World.putObj_heap_same (Array.getElem?_eq_some_iff.1 hLa).1
  have hrow2 : W2.ownsRow w0.heap.size 117 3 v ss.length (ss.flatMap cellsI) := hrowa.kept hg2 (ownsRow_ne_a hrowa hLa (fun cur e => by first | cases e | exact hne (Obj.cells.inj e).2.1))
  have hb2 : Below w0.heap.size w0 W2 := hba.grown hg2 hba.size (fun k e => by cases e; exact h0l)
  obtain ⟨hc2, hf2⟩ := cell_of_box_a hv2
  have i0c : W2.cell? ⟨b5, 0, none⟩ = some (.int .i64 x.f0) := cell_of_heap hi2 rfl
  have i1c : W2.cell? ⟨b5, 1, none⟩ = some (.int .i64 x.f1) := cell_of_heap hi2 rfl
  have i2c : W2.cell? ⟨b5, 2, none⟩ = some (.int .i64 x.f2) := cell_of_heap hi2 rfl
  unfold apAssign aggI
  gi_wp2_with gi_round_op_a
  clear hWa hW2
  have hBlt : Bs < W2.heap.size := (Array.getElem?_eq_some_iff.1 hv2).1
  have hl2 : l < W2.heap.size := (Array.getElem?_eq_some_iff.1 hL2).1
  have hDlt : D < W2.heap.size := (Array.getElem?_eq_some_iff.1 hK2).1
  have ne_of : ∀ {j : Nat} {o : Obj}, W2.heap[j]? = some o → (∀ cur, o ≠ .cells cur 117 (0, 0)) → some j ≠ v.ownBlock := fun hj hno => by
    rcases ownsRow_ne_a hrow2 hj hno with e | e
    · rw [e]; simp
    · exact fun e' => e e'.symm
  have hmax : ss.length + 1 ≤ maxLen := by have : maxLen = 9223372036854775807 := rfl; omega
  have hbt : (ss.length + 1) * 24 ≤ 140737488355328 := by omega
  unfold apBody
  gi_wp2_with (first
    | (gi_at_builtin; refine wpListIn_append_own _ rfl _ _ 64 rfl w0.heap.size 117 i0 (.agg #[.int .i64 0, .int .i64 0, .int .i64 0]) 3 24 Try.underlying64 hi hz0 hz1 hz2 rfl (by decide) _ _ _ rfl (hrow2.alloc _) ⟨W2.heap.size, 0, none⟩ 1 1 (cellsI x) rfl rfl (new3 W2 x _) (one3 x) hmax hbt (by have := hb2.size; simp; omega) ?_; intro v' w3 hown' hg3 hnil3
       have hv3 : w3.heap[Bs]? = some (.cells #[v] 64 (0, 0)) := (hg3.block Bs (by simp; omega) (ne_of hv2 (fun cur e => by first | cases e | exact hne (Obj.cells.inj e).2.1))).trans ((Below.heap_alloc _ _ Bs hBlt).trans hv2)
       obtain ⟨hc3, hf3⟩ := cell_of_box_a hv3
       obtain ⟨g', cap', cur', rfl, hbase', hgb', hr1, hr2, hr3, hr4⟩ : ∃ g' cap' cur', v' = .slice (some ⟨g', 0, none⟩) (ss.length + 1) cap' ∧ w0.heap.size ≤ g' ∧ w3.heap[g']? = some (.cells cur' 117 (0, 0)) ∧ ss.length + 1 ≤ cap' ∧ cap' ≤ maxLen ∧ cur'.size = cap' * 3 ∧ cur'.toList.take ((ss.length + 1) * 3) = ss.flatMap cellsI ++ cellsI x := by
         rcases hown'.2 with ⟨_, h0⟩ | h'
         · exact absurd h0 (by omega)
         · exact h'
       go_frame)
    | gi_round_op_a)
  have hg3' : (W2.alloc (.cells #[.int .i64 x.f0, .int .i64 x.f1, .int .i64 x.f2] 117)).grownBy w3 v.ownBlock := hg3
  have hL3 : w3.heap[l]? = some (.loop { apRec fn sv Bs D .ready none with state := .busy }) := (hg3'.block l (by simp; omega) (ne_of hL2 (fun cur e => by first | cases e | exact hne (Obj.cells.inj e).2.1))).trans ((Below.heap_alloc _ _ l hl2).trans hL2)
  have hK3 : w3.heap[D]? = some (.deferred (some [])) := (hg3'.block D (by simp; omega) (ne_of hK2 (fun cur e => by first | cases e | exact hne (Obj.cells.inj e).2.1))).trans ((Below.heap_alloc _ _ D hDlt).trans hK2)
  obtain ⟨w4, hw4⟩ : ∃ w4, w3.setCell ⟨Bs, 0, none⟩ (.slice (some ⟨g', 0, none⟩) (ss.length + 1) cap') = w4 := ⟨_, rfl⟩
  rw [hw4]
  have hg4 : w3.grownBy w4 (some Bs) := by rw [← hw4]; exact grownBy_setCell0_a _ _ _
  have hv4 : w4.heap[Bs]? = some (.cells #[.slice (some ⟨g', 0, none⟩) (ss.length + 1) cap'] 64 (0, 0)) := by rw [← hw4]; exact heap_setCell_box_a _ hv3
  have hL4 : w4.heap[l]? = some (.loop { apRec fn sv Bs D .ready none with state := .busy }) := (hg4.block l (Array.getElem?_eq_some_iff.1 hL3).1 (fun e => hBl (by cases e; rfl))).trans hL3
  have hK4 : w4.heap[D]? = some (.deferred (some [])) := (hg4.block D (Array.getElem?_eq_some_iff.1 hK3).1 (fun e => hDB (by cases e; rfl))).trans hK3
  have hrow4 := hown'.kept hg4 (ownsRow_ne_a hown' hv3 (fun cur e => by first | cases e | exact hne (Obj.cells.inj e).2.1))
  have hl4 : l < w4.heap.size := (Array.getElem?_eq_some_iff.1 hL4).1
  have hb3 : Below w0.heap.size w0 w3 := (hb2.alloc hb2.size _).grown hg3' (by have := hb2.size; simp; omega) (fun k e => (hrow2.lt k e).1)
  have hb4 : Below w0.heap.size w0 w4 := hb3.grown hg4 hb3.size (fun k e => by cases e; exact h0B)
  have hk4 : KeepsWalks W w4 := (((hka.trans hk2).trans (KeepsWalks.alloc _ _)).trans (KeepsWalks.of_grownBy hg3' (ownsRow_not_walk_a (hrow2.alloc _)))).trans (by rw [← hw4]; exact KeepsWalks.setCell _ _ _)
  clear hw4
  have hlast := hrow4.kept (grownBy_putObj_a w4 l (.loop { { apRec fn sv Bs D .ready none with state := .busy } with state := if (none : Option Code).isNone then .ready else .done, pending := none })) (ownsRow_ne_a hrow4 hL4 (fun cur e => by first | cases e | exact hne (Obj.cells.inj e).2.1))
  refine ⟨_, _, run_endRound none hL4, rfl, ⟨⟨_, (World.putObj_heap_other hBl).trans hv4, ?_, by simp⟩, World.putObj_heap_same hl4, (World.putObj_heap_other hDl).trans hK4, hb4.grown (grownBy_putObj_a _ _ _) hb4.size (fun k e => by cases e; exact h0l)⟩, hk4.trans (KeepsWalks.putObj _ hL4 rfl)⟩
  rw [List.flatMap_append, List.length_append, List.length_singleton]
  simpa using hlast
theorem ApAt.above {w0 : World} {fn : FuncId} {sv : Value} {Bs l D : Nat} {ss : List (It Int)} {W W' : World} (h : ApAt w0 fn sv Bs l D ss W) (hb : Below W.heap.size W W') : ApAt w0 fn sv Bs l D ss W' := by
  obtain ⟨v, hv, hr, hn⟩ := h.box
  have hlt : ∀ {k : Nat} {o : Obj}, W.heap[k]? = some o → W'.heap[k]? = some o := fun hk => (hb.block _ (Array.getElem?_eq_some_iff.1 hk).1).trans hk
  exact ⟨⟨v, hlt hv, hr.kept (row := none) ⟨hb.os, hb.tape, hb.output, hb.size, fun k hk _ => hb.block k hk⟩ (Classical.em _), hn⟩, hlt h.L, hlt h.K, h.below.trans (hb.mono h.below.size)⟩
set_option maxRecDepth 100000 in
set_option maxHeartbeats 2000000 in
/-- slices.AppendSeq(nil, slices.Values(xs)): a row of the call's own that holds xs's elements. -/
theorem append_items (w : World) (B q c : Nat) (l : List (It Int)) (A : Option Addr) (hB : w.cell? ⟨B, 0, none⟩ = some (.slice A l.length c)) (hA : l ≠ [] → A = some ⟨q, 0, none⟩)
    (h3 : ∀ i, i < l.length → w.cell? ⟨q, i * 3, none⟩ = some (.int .i64 (gd l i).f0) ∧ w.cell? ⟨q, i * 3 + 1, none⟩ = some (.int .i64 (gd l i).f1) ∧ w.cell? ⟨q, i * 3 + 2, none⟩ = some (.int .i64 (gd l i).f2)) (hlen : l.length ≤ 1000000) :
    Calls Try.prog 101 #[.slice none 0 0, .func (.func 90) #[] #[.pointer (some ⟨B, 0, none⟩)]] w fun e w' =>
      ∃ v : Value, e = .returned v ∧ w'.ownsRow w.heap.size 117 3 v l.length (l.flatMap cellsI) ∧ (v = .slice none 0 0 ↔ l = []) ∧ Below w.heap.size w w' := by
  refine (callsIn_wide (n := 6)).1 ?_
  refine callsIn_of_wp_marks Try.func101 rfl trivial ?_ rfl
  simp only [Try.ntmps101, List.size_toArray, List.length_cons, List.length_nil, Nat.reduceAdd, Nat.reduceSub, Array.replicate_succ, Array.replicate_zero, List.push_toArray, List.append_toArray, List.nil_append, List.cons_append]
  gi_wp2
  refine wpIn_rangeFunc ?_
  intro fn hfn
  rw [show Fence.wide.round = none from rfl]
  -- the variable s, the loop's end list, the loop's record: three new blocks
  have sv0 : Value := .func (.func 90) #[] #[.pointer (some ⟨B, 0, none⟩)]
  obtain ⟨Wa, hWa⟩ : ∃ Wa, w.alloc (.cells #[.slice none 0 0] 64) = Wa := ⟨_, rfl⟩
  have sa : Wa.heap.size = w.heap.size + 1 := by rw [← hWa]; simp
  have va : Wa.heap[w.heap.size]? = some (.cells #[.slice none 0 0] 64 (0, 0)) := by rw [← hWa]; exact World.alloc_heap_new w _
  have ba : Below w.heap.size w Wa := by rw [← hWa]; exact (Below.refl _ w).alloc (Nat.le_refl _) _
  rw [hWa]
  clear hWa
  obtain ⟨Wb, hWb⟩ : ∃ Wb, Wa.alloc (.deferred (some [])) = Wb := ⟨_, rfl⟩
  have sb : Wb.heap.size = Wa.heap.size + 1 := by rw [← hWb]; simp
  have db : Wb.heap[Wa.heap.size]? = some (.deferred (some [])) := by rw [← hWb]; exact World.alloc_heap_new Wa _
  have vb : Wb.heap[w.heap.size]? = some (.cells #[.slice none 0 0] 64 (0, 0)) := by rw [← hWb]; exact (Below.heap_alloc _ _ _ (by omega)).trans va
  have bb : Below w.heap.size w Wb := by rw [← hWb]; exact ba.alloc ba.size _
  obtain ⟨Wc, hWc⟩ : ∃ Wc, Wb.alloc (.loop (apRec fn (.func (.func 90) #[] #[.pointer (some ⟨B, 0, none⟩)]) w.heap.size Wa.heap.size .ready none)) = Wc := ⟨_, rfl⟩
  have sc : Wc.heap.size = Wb.heap.size + 1 := by rw [← hWc]; simp
  have lc : Wc.heap[Wb.heap.size]? = some (.loop (apRec fn (.func (.func 90) #[] #[.pointer (some ⟨B, 0, none⟩)]) w.heap.size Wa.heap.size .ready none)) := by rw [← hWc]; exact World.alloc_heap_new Wb _
  have dc : Wc.heap[Wa.heap.size]? = some (.deferred (some [])) := by rw [← hWc]; exact (Below.heap_alloc _ _ _ (by omega)).trans db
  have vc : Wc.heap[w.heap.size]? = some (.cells #[.slice none 0 0] 64 (0, 0)) := by rw [← hWc]; exact (Below.heap_alloc _ _ _ (by omega)).trans vb
  have bc : Below w.heap.size w Wc := by rw [← hWc]; exact bb.alloc bb.size _
  have h0 : ApAt w fn (.func (.func 90) #[] #[.pointer (some ⟨B, 0, none⟩)]) w.heap.size Wb.heap.size Wa.heap.size [] Wc :=
    ⟨⟨_, vc, ⟨rfl, .inl ⟨rfl, rfl⟩⟩, by simp⟩, lc, dc, bc⟩
  refine ⟨Wb.heap.size, [{ target := .collected Wa.heap.size, args := #[] }], Wc, { target := .fn (.func 90) #[.pointer (some ⟨B, 0, none⟩)], args := #[.func (.yield Wb.heap.size) #[] #[]] }, Wc, 90,
    #[.func (.yield Wb.heap.size) #[] #[], .pointer (some ⟨B, 0, none⟩)], Wc, ?_, ?_, ?_, ?_, fun _ => by omega, ?_⟩
  · rw [← hWc, ← hWb, World.size_alloc]; exact run_enterLoop_outer _ _ _ _ _
  · simp [resolve, go_sem]
  · intro f' _; trivial
  · have he : ∀ args w, (callFunc 90 args).run Try.prog w = .ok (.enter 90 args) w := enters_of Try.func90 (by kernel_rfl) rfl
    simp [invoke, go_sem, he]
  · refine (values_items w B q c l A hB hA h3 hlen 4 Wb.heap.size (ApAt w fn (.func (.func 90) #[] #[.pointer (some ⟨B, 0, none⟩)]) w.heap.size Wb.heap.size Wa.heap.size) (fun s W' h => h.below) (fun s W W' h hb => h.above hb)
      (fun pre x W hJ hl => apYield 4 w fn hfn _ w.heap.size Wb.heap.size Wa.heap.size (by omega) (by omega) (by omega) (Nat.le_refl _) (by omega) l.length hlen pre x W hJ hl) Wc h0).mono ?_
    rintro e W2 ⟨⟨v0, rfl⟩, h2⟩
    obtain ⟨v, hv, hrow, hnil⟩ := h2.box
    have hend := run_endLoop (P := Try.prog) h2.L (by simp [apRec])
    have hne : (64 : TypeId) ≠ 117 := by decide
    generalize hW3 : W2.putObj Wb.heap.size (.loop { apRec fn (.func (.func 90) #[] #[.pointer (some ⟨B, 0, none⟩)]) w.heap.size Wa.heap.size .ready none with state := .exhausted }) = W3 at hend
    have hg3 : W2.grownBy W3 (some Wb.heap.size) := by rw [← hW3]; exact grownBy_putObj_a _ _ _
    have hv3 : W3.heap[w.heap.size]? = some (.cells #[v] 64 (0, 0)) := by rw [← hW3]; exact (World.putObj_heap_other (by omega)).trans hv
    have hK3 : W3.heap[Wa.heap.size]? = some (.deferred (some [])) := by rw [← hW3]; exact (World.putObj_heap_other (by omega)).trans h2.K
    have hrow3 := hrow.kept hg3 (ownsRow_ne_a hrow h2.L (fun cur e => by cases e))
    have hb3 : Below w.heap.size w W3 := h2.below.grown hg3 h2.below.size (fun k e => by cases e; omega)
    obtain ⟨hc3, hf3⟩ := cell_of_box_a hv3
    clear hW3
    refine ⟨none, W3, hend, ?_⟩
    gi_wp2
    rw [← sa]
    refine ⟨by simp, .inl ⟨_, _, rfl, run_takeDeferred hK3, ?_⟩⟩
    exact ⟨_, results_tmp rfl _ _ _, v, rfl, hrow3.kept (grownBy_putObj_a _ _ _) (ownsRow_ne_a hrow3 hK3 (fun cur e => by cases e)), hnil, hb3.grown (grownBy_putObj_a _ _ _) hb3.size (fun k e => by cases e; omega)⟩

end Go.Proofs.Ytkegdcnnankokaa.Hpi
