/-
What a call may touch: a set of blocks; all else of the elder world stays.
-/
import Derived.Test.YtkegdcnnankokaaWWords
import Derived.Maps.OwnSet
namespace Go.Proofs.Ytkegdcnnankokaa
set_option linter.unusedVariables false
set_option linter.unusedSimpArgs false
open Go.RowKit Go.Maps Go.Proofs.YtkegdcnnankokaaW.PrintWords
open Go.ChangeMaps (setBlock heap_setBlock_same heap_setBlock_other)
structure Fr (F : Nat → Prop) (w w' : World) : Prop where
  os : w'.os = w.os
  tape : w'.tape = w.tape
  output : w'.output = w.output
  size : w.heap.size ≤ w'.heap.size
  block : ∀ k, k < w.heap.size → ¬ F k → w'.heap[k]? = w.heap[k]?
section
variable {F G : Nat → Prop} {w w1 w2 : World}
theorem Fr.refl (F : Nat → Prop) (w : World) : Fr F w w := ⟨rfl, rfl, rfl, Nat.le_refl _, fun _ _ _ => rfl⟩
theorem Fr.mono (h : Fr F w w1) (hFG : ∀ k, k < w.heap.size → F k → G k) : Fr G w w1 := ⟨h.os, h.tape, h.output, h.size, fun k hk hn => h.block k hk (fun q => hn (hFG k hk q))⟩
theorem Fr.trans (h : Fr F w w1) (h2 : Fr G w1 w2) (hG : ∀ k, k < w.heap.size → G k → F k) : Fr F w w2 :=
  ⟨h2.os.trans h.os, h2.tape.trans h.tape, h2.output.trans h.output, Nat.le_trans h.size h2.size, fun k hk hn => (h2.block k (Nat.lt_of_lt_of_le hk h.size) (fun q => hn (hG k hk q))).trans (h.block k hk hn)⟩
theorem Fr.of_below (F : Nat → Prop) (h : Below w.heap.size w w1) : Fr F w w1 := ⟨h.os, h.tape, h.output, h.size, fun k hk _ => h.block k hk⟩
theorem Fr.of_grown {row : Option Nat} (h : w.grownBy w1 row) (hF : ∀ k, row = some k → F k) : Fr F w w1 := ⟨h.os, h.tape, h.output, h.size, fun k hk hn => h.block k hk (fun e => hn (hF k e.symm))⟩
theorem Fr.to_below (h : Fr F w w1) {B : Nat} (hB : B ≤ w.heap.size) (hF : ∀ k, F k → B ≤ k) : Below B w w1 := ⟨h.os, h.tape, h.output, h.size, fun k hk => h.block k (Nat.lt_of_lt_of_le hk hB) (fun q => Nat.lt_irrefl k (Nat.lt_of_lt_of_le hk (hF k q)))⟩
theorem Fr.cell (h : Fr F w w1) {a : Addr} {u : Value} (hc : w.cell? a = some u) (hn : ¬ F a.block) : w1.cell? a = some u := by
  have hlt := World.block_lt_of_cell? w a hc
  exact (World.cell?_of_block (h.block _ hlt hn)).trans hc
theorem Fr.drew (h : Fr F w w1) : Fr F w w1.drew := ⟨h.os, h.tape, h.output, h.size, h.block⟩
theorem Fr.alloc (h : Fr F w w1) (o : Obj) : Fr F w (w1.alloc o) := h.trans (Fr.of_below (fun _ => False) ((Below.refl w1.heap.size w1).alloc (Nat.le_refl _) o)) (fun _ _ q => q.elim)
theorem Fr.grown_row {α : Type} {d : Kd α} {e base : Nat} {ok : Nat → Prop} {v : Value} {xs : List α} (h : Fr F w w1) (hR : Kd.R d e w base ok v xs) (hn : ∀ k, ok k → ¬ F k) : Kd.R d e w1 base ok v xs :=
  Kd.R_step hR (fun k hk hlt => h.block k hlt (hn k hk))
theorem Fr.heap (h : Fr F w w1) {b : Nat} {o : Obj} (hb : w.heap[b]? = some o) (hn : ¬ F b) : w1.heap[b]? = some o := by
  have hlt : b < w.heap.size := (Array.getElem?_eq_some_iff.1 hb).1
  exact (h.block b hlt hn).trans hb
theorem Fr.map {H : Type} {P : Program} {k : TypeId} {R : Value → Option (DataW H × List MemPlace)} {b n : Nat} {D : DataW H} (h : Fr F w w1) (hm : w.ownsMap P k R b n D) (hn : ¬ F b) : w1.ownsMap P k R b n D := by
  have hlt := hm.lt
  obtain ⟨es, clock, h1, h2⟩ := hm
  exact ⟨es, clock, (h.block b hlt hn).trans h1, h2⟩
theorem cell_of_heap {w : World} {b i : Nat} {cs : Array Value} {t : TypeId} {fz : Nat × Nat} {u : Value} (h : w.heap[b]? = some (.cells cs t fz)) (hu : cs[i]? = some u) : w.cell? ⟨b, i, none⟩ = some u := by
  unfold World.cell?
  simp only [h]
  simpa using hu
end
end Go.Proofs.Ytkegdcnnankokaa
