/-
slices.Values at []int: what its iterator gives to a loop that leaves the slice alone; slices.AppendSeq, Collect, Sorted of it.
-/
import Derived.Shelf.SlIterI.Sorted
import Derived.Ground.GgzProg
import Derived.Lib.Hide
import Derived.Test.YtidhcdifmcffcaaShelf
import Derived.Test.YtidhcdifmcffcaaPCenx0
import Derived.Test.YtidhcdifmcffcaaPureKit
namespace Go.Proofs
set_option linter.unusedVariables false
set_option linter.unusedSimpArgs false
open Go.RowKit Go.Maps Go.Sort Go.Shelf
shelf_lay_g SlLaysZI.n6 Ggz 6 at Try 70 as Try.sortedA
end Go.Proofs
namespace Go.Proofs.Ytidhcdifmcffcaa.PCen
open Go.RowKit Go.Maps Go.Sort Go.Shelf Go.Proofs.YtidhcdifmcffcaaW.PrintWords Go.Proofs.YtidhcdifmcffcaaW.PrintLast Go.Proofs.YtidhcdifmcffcaaW.PrintMore

set_option maxRecDepth 100000 in
set_option maxHeartbeats 1000000 in
theorem values_run (w : World) (B : Nat) (A : Option Addr) (c : Nat) (l : List Int) (hB : w.cell? ⟨B, 0, none⟩ = some (.slice A l.length c)) (hC : Kd.C (Kd.int .i64) w A l.length l) (hlen : l.length ≤ 4611686018427387904)
    (m lp : Nat) (J : List Int → World → Prop) (hJb : ∀ s W', J s W' → Below w.heap.size w W')
    (hY : ∀ pre x W, J pre W → pre.length < l.length → YieldAt Fence.wide m Try.prog lp #[encZ x] W fun e W' => e = .returned (.bool true) ∧ J (pre ++ [x]) W' ∧ KeepsWalks W W') (W : World) (h0 : J [] W) :
    CallsIn Fence.wide (m + 1) Try.prog 94 #[.func (.yield lp) #[] #[], .pointer (some ⟨B, 0, none⟩)] W fun e W' => (∃ v, e = .returned v) ∧ J l W' := by
  have hb0 : W.cell? ⟨B, 0, none⟩ = some (.slice A l.length c) := ((hJb [] W h0).cell (World.block_lt_of_cell? w _ hB)).trans hB
  refine callsIn_of_wp Try.func94 rfl trivial ?_ rfl
  simp only [Try.ntmps94, List.size_toArray, List.length_cons, List.length_nil, Nat.reduceAdd, Nat.reduceSub, Array.replicate_succ, Array.replicate_zero, List.push_toArray, List.append_toArray, List.nil_append, List.cons_append]
  gi_wp2
  gi_loopw [7] (fun v7 wr => ∃ i : Nat, v7 = .int .i64 (i : Int) ∧ i ≤ l.length ∧ J (l.take i) wr) (fun v7 _ => match v7 with | .int _ n => l.length - n.toNat | _ => 0)
  case atStart => exact ⟨0, rfl, by omega, by simpa using h0⟩
  case round =>
    obtain ⟨i, rfl, hi, hJ⟩ := hrel
    by_cases hlt : i < l.length
    · have hd : decide ((i : Int) < (l.length : Int)) = true := by simpa using hlt
      have hz : (0 : Int) ≤ (i : Int) := by omega
      obtain ⟨ad, e, hx⟩ := Kd.at_int hC (i : Int) (by omega) (by omega)
      subst e
      rw [rd_at hlt, Int.toNat_natCast] at hx
      have hx' := ((hJb _ _ hJ).cell (World.block_lt_of_cell? w _ hx)).trans hx
      obtain ⟨fn, tmps, assign, body, hy, hR⟩ := hY (l.take i) l[i] wr hJ (by simp; omega)
      gi_wp2
      refine hR.mono ?_
      rintro e W3 ⟨rfl, hJ3, hk3⟩
      gi_wp2
      go_roundw
      case rel => exact ⟨i + 1, by push_cast; rfl, by omega, by rw [List.take_succ_eq_append_getElem hlt]; exact hJ3⟩
      case measure => simp; omega
    · have hd : decide ((i : Int) < (l.length : Int)) = false := by simpa using hlt
      gi_wp2
      go_end0
      exact ⟨⟨_, rfl⟩, by rw [List.take_of_length_le (by omega)] at hJ; exact hJ⟩

set_option maxRecDepth 100000 in
set_option maxHeartbeats 2000000 in
/-- slices.AppendSeq(nil, slices.Values(xs)): a row of the call's own that holds xs's elements. -/
theorem append_values (w : World) (B : Nat) (A : Option Addr) (c : Nat) (l : List Int) (hB : w.cell? ⟨B, 0, none⟩ = some (.slice A l.length c)) (hC : Kd.C (Kd.int .i64) w A l.length l) (hlen : l.length ≤ 4611686018427387904) (hbytes : l.length * 8 ≤ 140737488355328) :
    Calls Try.prog 117 #[.slice none 0 0, .func (.func 94) #[] #[.pointer (some ⟨B, 0, none⟩)]] w fun e w' =>
      ∃ v : Value, e = .returned v ∧ w'.ownsRow w.heap.size 3 1 v l.length (l.map encZ) ∧ (v = .slice none 0 0 ↔ l = []) ∧ Below w.heap.size w w' := by
  refine (callsIn_wide (n := 6)).1 ?_
  have hmax : l.length ≤ maxLen := by have : maxLen = 9223372036854775807 := rfl; omega
  refine callsIn_of_wp_marks Try.func117 rfl trivial ?_ rfl
  simp only [Try.ntmps117, List.size_toArray, List.length_cons, List.length_nil, Nat.reduceAdd, Nat.reduceSub, Array.replicate_succ, Array.replicate_zero, List.push_toArray, List.append_toArray, List.nil_append, List.cons_append]
  gi_wp2
  refine wpIn_rangeFunc ?_
  intro fn hfn
  rw [show Fence.wide.round = none from rfl]
  -- the variable s, the loop's end list, the loop's record: three new blocks
  have sv0 : Value := .func (.func 94) #[] #[.pointer (some ⟨B, 0, none⟩)]
  obtain ⟨Wa, hWa⟩ : ∃ Wa, w.alloc (.cells #[.slice none 0 0] 29) = Wa := ⟨_, rfl⟩
  have sa : Wa.heap.size = w.heap.size + 1 := by rw [← hWa]; simp
  have va : Wa.heap[w.heap.size]? = some (.cells #[.slice none 0 0] 29 (0, 0)) := by rw [← hWa]; exact World.alloc_heap_new w _
  have ba : Below w.heap.size w Wa := by rw [← hWa]; exact (Below.refl _ w).alloc (Nat.le_refl _) _
  rw [hWa]
  clear hWa
  obtain ⟨Wb, hWb⟩ : ∃ Wb, Wa.alloc (.deferred (some [])) = Wb := ⟨_, rfl⟩
  have sb : Wb.heap.size = Wa.heap.size + 1 := by rw [← hWb]; simp
  have db : Wb.heap[Wa.heap.size]? = some (.deferred (some [])) := by rw [← hWb]; exact World.alloc_heap_new Wa _
  have vb : Wb.heap[w.heap.size]? = some (.cells #[.slice none 0 0] 29 (0, 0)) := by rw [← hWb]; exact (Below.heap_alloc _ _ _ (by omega)).trans va
  have bb : Below w.heap.size w Wb := by rw [← hWb]; exact ba.alloc ba.size _
  obtain ⟨Wc, hWc⟩ : ∃ Wc, Wb.alloc (.loop (AnyZI.apRec Try.sortedA_ren fn (.func (.func 94) #[] #[.pointer (some ⟨B, 0, none⟩)]) w.heap.size Wa.heap.size .ready none)) = Wc := ⟨_, rfl⟩
  have sc : Wc.heap.size = Wb.heap.size + 1 := by rw [← hWc]; simp
  have lc : Wc.heap[Wb.heap.size]? = some (.loop (AnyZI.apRec Try.sortedA_ren fn (.func (.func 94) #[] #[.pointer (some ⟨B, 0, none⟩)]) w.heap.size Wa.heap.size .ready none)) := by rw [← hWc]; exact World.alloc_heap_new Wb _
  have dc : Wc.heap[Wa.heap.size]? = some (.deferred (some [])) := by rw [← hWc]; exact (Below.heap_alloc _ _ _ (by omega)).trans db
  have vc : Wc.heap[w.heap.size]? = some (.cells #[.slice none 0 0] 29 (0, 0)) := by rw [← hWc]; exact (Below.heap_alloc _ _ _ (by omega)).trans vb
  have bc : Below w.heap.size w Wc := by rw [← hWc]; exact bb.alloc bb.size _
  have h0 : AnyZI.ApAt Try.sortedA_ren w fn (.func (.func 94) #[] #[.pointer (some ⟨B, 0, none⟩)]) w.heap.size Wb.heap.size Wa.heap.size [] Wc :=
    ⟨⟨_, vc, ⟨rfl, .inl ⟨rfl, rfl⟩⟩, by simp⟩, lc, dc, bc⟩
  refine ⟨Wb.heap.size, [{ target := .collected Wa.heap.size, args := #[] }], Wc, { target := .fn (.func 94) #[.pointer (some ⟨B, 0, none⟩)], args := #[.func (.yield Wb.heap.size) #[] #[]] }, Wc, 94,
    #[.func (.yield Wb.heap.size) #[] #[], .pointer (some ⟨B, 0, none⟩)], Wc, ?_, ?_, ?_, ?_, fun _ => by omega, ?_⟩
  · rw [← hWc, ← hWb, World.size_alloc]; exact run_enterLoop_outer _ _ _ _ _
  · simp [resolve, go_sem]
  · intro f' _; trivial
  · have he : ∀ args w, (callFunc 94 args).run Try.prog w = .ok (.enter 94 args) w := enters_of Try.func94 (by kernel_rfl) rfl
    simp [invoke, go_sem, he]
  · refine (values_run w B A c l hB hC hlen 4 Wb.heap.size (AnyZI.ApAt Try.sortedA_ren w fn (.func (.func 94) #[] #[.pointer (some ⟨B, 0, none⟩)]) w.heap.size Wb.heap.size Wa.heap.size) (fun s W' h => h.below)
      (fun pre x W hJ hl => AnyZI.apYield { Try.sortedA with } Fence.wide 4 w fn hfn _ w.heap.size Wb.heap.size Wa.heap.size (by omega) (by omega) (by omega) (Nat.le_refl _) (by omega) l.length hmax hbytes pre x W hJ hl) Wc h0).mono ?_
    rintro e W2 ⟨⟨v0, rfl⟩, h2⟩
    obtain ⟨v, hv, hrow, hnil⟩ := h2.box
    have hend := run_endLoop (P := Try.prog) h2.L (by simp [AnyZI.apRec])
    have hne : (29 : TypeId) ≠ 3 := by decide
    generalize hW3 : W2.putObj Wb.heap.size (.loop { AnyZI.apRec Try.sortedA_ren fn (.func (.func 94) #[] #[.pointer (some ⟨B, 0, none⟩)]) w.heap.size Wa.heap.size .ready none with state := .exhausted }) = W3 at hend
    have hg3 : W2.grownBy W3 (some Wb.heap.size) := by rw [← hW3]; exact grownBy_putObj_a _ _ _
    have hv3 : W3.heap[w.heap.size]? = some (.cells #[v] 29 (0, 0)) := by rw [← hW3]; exact (World.putObj_heap_other (by omega)).trans hv
    have hK3 : W3.heap[Wa.heap.size]? = some (.deferred (some [])) := by rw [← hW3]; exact (World.putObj_heap_other (by omega)).trans h2.K
    have hrow3 := hrow.kept hg3 (ownsRow_ne_a hrow h2.L (fun cur e => by cases e))
    have hb3 : Below w.heap.size w W3 := h2.below.grown hg3 h2.below.size (fun k e => by cases e; omega)
    obtain ⟨hc3, hf3⟩ := cell_of_box_a hv3
    clear hW3
    refine ⟨none, W3, hend, ?_⟩
    gi_wp2
    rw [← sa]
    refine ⟨by simp, .inl ⟨_, _, rfl, run_takeDeferred hK3, ?_⟩⟩
    exact ⟨_, results_tmp rfl _ _ _, v, rfl, hrow3.kept (grownBy_putObj_a _ _ _) (ownsRow_ne_a hrow3 hK3 (fun cur e => by cases e)), hnil, hb3.grown (grownBy_putObj_a _ _ _) hb3.size (fun k e => by cases e; omega)⟩

set_option maxRecDepth 100000 in
set_option maxHeartbeats 1000000 in
/-- slices.Sorted(slices.Values(xs)): a row of the call's own that holds xs's elements, rising. -/
theorem sorted_values (w : World) (B : Nat) (A : Option Addr) (c : Nat) (l : List Int) (hB : w.cell? ⟨B, 0, none⟩ = some (.slice A l.length c)) (hC : Kd.C (Kd.int .i64) w A l.length l) (hlen : l.length < 4611686018427387904) (hbytes : l.length * 8 ≤ 140737488355328) :
    Calls Try.prog 70 #[.func (.func 94) #[] #[.pointer (some ⟨B, 0, none⟩)]] w fun e w' =>
      ∃ v : Value, e = .returned v ∧ w'.ownsRow w.heap.size 3 1 v l.length ((l.mergeSort fun x y => decide (x ≤ y)).map encZ) ∧ Below w.heap.size w w' := by
  have HA := Lib.hid (append_values w B A c l hB hC (by omega) hbytes)
  go_enter Try.func70, Try.ntmps70
  go_wp2_with (go_at_call 93; go_enter Try.func93, Try.ntmps93; go_wp2_with (go_at_call 117; refine (HA.out).mono ?_; rintro e W ⟨v, rfl, hrow, hnil, hb⟩))
  rcases hrow.2 with ⟨rfl, hz⟩ | ⟨gb, cap, cur, rfl, hbase, hgb, r1, r2, r3, r4⟩
  · obtain rfl : l = [] := List.eq_nil_of_length_eq_zero hz
    refine (Try.slices_Sort_int_none none 0 W).mono ?_
    rintro e w' ⟨rfl, rfl⟩
    go_wp2
    go_ret
    exact ⟨_, rfl, by simpa using hrow, hb⟩
  · have hH : Holds encZ W gb 0 l.toArray := holds_of_block_i hgb (by simpa using r4)
    have hgl : gb < W.heap.size := (Array.getElem?_eq_some_iff.1 hgb).1
    refine (Try.slices_Sort_int gb 0 cap l W hH hgl hlen).mono ?_
    rintro e w' ⟨rfl, nn, os, rfl⟩
    go_wp2
    go_ret
    exact ⟨_, rfl, ownsRow_sorted_i (by simp) hbase hgb r1 r2 r3, hb.grown (grownBy_sorted_i _) hb.size (fun j hj => by cases hj; exact hbase)⟩
end Go.Proofs.Ytidhcdifmcffcaa.PCen
