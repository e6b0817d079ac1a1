/-
heap.Heap[string]'s Put, walked.
-/
import Derived.Test.YtkegdcnnankokaaHsOps
namespace Go.Proofs.Ytkegdcnnankokaa.Hps
set_option linter.unusedVariables false
set_option linter.unusedSimpArgs false
open Go.Maps Go.RowKit Go.Proofs.YtkegdcnnankokaaW.PrintWords Go.Proofs.YtkegdcnnankokaaW.PrintLast Go.Proofs.YtkegdcnnankokaaW.PrintMore Hp
open Go.ChangeMaps (setBlock heap_setBlock_same heap_setBlock_other)
theorem wpList_lookup_run {P : Program} {ops : Array Oper} {rest : List Oper} {o : Oper} {a : Act} {Q : Exit → Act → World → Prop} (w : World) (hg : o.guard = none) (m x : Operand) (t : TypeId) (b : Bool) (hop : o.op = Op.lookup t m x b) {vm vx r : Value} (hm : a.eval m = vm) (hx : a.eval x = vx)
    (hrun : (Instr.lookup t vm vx b).run P w = .ok r w) (hK : wpList P ops Q rest (a.put o.dst r) w) : wpList P ops Q (o :: rest) a w := by
  refine wpList_plain hg fun K' hK' => ?_
  unfold Oper.wp
  simp [execOp, hop, hm, hx, hrun, Result.andThen]
  exact hK' _ _ hK
theorem set_hd {w : World} {b : Nat} {cs : Array Value} {t : TypeId} (h : w.heap[b]? = some (.cells cs t (0, 0))) (i : Nat) (u : Value) : (w.setCell ⟨b, i, none⟩ u).heap[b]? = some (.cells (cs.setIfInBounds i u) t (0, 0)) ∧ Fr (fun k => k = b) w (w.setCell ⟨b, i, none⟩ u) := by
  constructor
  · unfold World.setCell
    simp [Array.getElem?_modify, h]
  · refine ⟨rfl, rfl, rfl, by simp [World.setCell], fun k _ hn => Below.heap_setCell w _ u k hn⟩
theorem hd_frozen {w : World} {b : Nat} {cs : Array Value} {t : TypeId} (h : w.heap[b]? = some (.cells cs t (0, 0))) (i : Nat) : w.frozen? ⟨b, i, none⟩ = false := by
  unfold World.frozen?
  simp [h]
set_option maxRecDepth 100000 in
theorem look_at {w : World} {h N M seq : Nat} {F : Nat → Prop} {l : List (It ByteArray)} (H : HpAt w h F N M l seq) {x : ByteArray} (hx : wfk x) : ∃ A c mv, w.heap[h]? = some (.cells #[.slice A l.length c, mv, .int .i64 (seq : Int)] 123 (0, 0)) ∧
    (∀ w1 : World, Fr (fun k => ¬ F k) w w1 → ∃ z : Int, (Instr.lookup 121 mv (.string x) true).run Try.prog w1 = .ok (.tuple #[.int .i64 z, .bool (hasX l x)]) w1 ∧ z = (posO l x).getD 0) ∧
    ((mv = .map none ∧ A = none ∧ c = 0 ∧ l = [] ∧ F = fun k => k = h) ∨ ∃ mb n g, mv = .map (some mb) ∧ n ≤ N ∧ Raw w h (.slice A l.length c) mb n (seq : Int) l g ∧ AtFull g l ∧ F = foot h (.slice A l.length c) mb) := by
  obtain ⟨_, _, _, _, ⟨rfl, h1, rfl⟩ | ⟨v, mb, n, g, hn, R, hg, rfl⟩⟩ := H
  · refine ⟨none, 0, _, h1, fun w1 _ => ⟨0, ?_, ?_⟩, .inl ⟨rfl, rfl, rfl, rfl, rfl⟩⟩
    · have := Maps.look_nil (w := w1) true lawK Try.underlying121 (zeroV w1) (key_of hx)
      simpa [hasX, posO] using this
    · simp [posO]
  · obtain ⟨A, c, rfl⟩ := Kd.R_slice R.row
    refine ⟨A, c, _, R.hd, fun w1 hF => ?_, .inr ⟨mb, n, g, rfl, hn, R, hg, rfl⟩⟩
    obtain ⟨D, hD, hm, hI⟩ := R.map
    have hD1 := hF.map hD (fun q => q (.inr (.inl rfl)))
    obtain ⟨u, ps, hrun, hv⟩ := hD1.look_ok lawK Try.underlying121 (zeroV w1) (plainElem_int (H := Unit) Try.underlying3 (a := 0) (by decide)) (key_of hx)
    obtain ⟨z, rfl, hz, _⟩ := plainElem_int_inv Try.underlying3 hv
    have h1 := (hI x).1
    have h2 := (hI x).2
    rw [hg x] at h1 h2
    refine ⟨z, ?_, ?_⟩
    · rw [hrun, h1]
      unfold hasX
      exact rfl
    · have h3 := congrArg Prod.fst hz
      simp only at h3
      rw [h2] at h3
      injection h3 with h3
      injection h3 with _ h3
      exact h3.symm
end Go.Proofs.Ytkegdcnnankokaa.Hps
