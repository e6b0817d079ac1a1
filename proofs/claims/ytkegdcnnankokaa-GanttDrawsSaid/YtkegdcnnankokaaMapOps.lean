/-
A map that the call made, told by the value at each key: at the operations of a walk.
-/
import Derived.Test.YtkegdcnnankokaaMapTells
import Derived.Test.YtkegdcnnankokaaSpansSpec
namespace Go.Proofs.Ytkegdcnnankokaa.PGan
set_option linter.unusedVariables false
set_option linter.unusedSimpArgs false
open Go.Maps Go.RowKit Go.Proofs.YtkegdcnnankokaaW.PrintWords Go.Proofs.YtkegdcnnankokaaW.PrintLast Go.Proofs.YtkegdcnnankokaaW.PrintMore
open Go.ChangeMaps (setBlock heap_setBlock_same heap_setBlock_other)
section
variable {P : Program} {k e : TypeId} {b n : Nat} {z : Value} {g : Value → Value} {ops : Array Oper} {rest : List Oper} {o : Oper} {a : Act} {Q : Exit → Act → World → Prop}
theorem wpList_lookup_tells (w : World) (hg : o.guard = none) (m x : Operand) (t : TypeId) (hop : o.op = Op.lookup t m x false) (K : Keyed P k) (ht : P.underlying t = some (.map k e)) (hz : (zeroValue e).run P w = .ok z w)
    (h : MapTells P k w b n z g) (hm : a.eval m = .map (some b)) (key : Value) (kl : Lit) (hx : a.eval x = key) (hkey : keyOf P k key = some kl)
    (hK : wpList P ops Q rest (a.put o.dst (g key)) w) : wpList P ops Q (o :: rest) a w := by
  refine wpList_plain hg fun K' hK' => ?_
  have hrun := h.lookup K ht hz hkey
  unfold Oper.wp
  simp [execOp, hop, hm, hx, hrun, Result.andThen]
  exact hK' _ _ hK
theorem wpList_entry_tells (w : World) (hg : o.guard = none) (m x : Operand) (t : TypeId) (hop : o.op = Op.mapEntry t m x) (K : Keyed P k) (ht : P.underlying t = some (.map k e)) (hz : (zeroValue e).run P w = .ok z w)
    (h : MapTells P k w b n z g) (hm : a.eval m = .map (some b)) (key : Value) (kl : Lit) (hx : a.eval x = key) (hkey : keyOf P k key = some kl)
    (hK : ∀ (st : Nat) (ob : Obj), (∀ (w2 : World) (v : Value) (g' : Value → Value), w2.heap[b]? = (setBlock w b ob).heap[b]? → g' key = v → (∀ y, y ≠ key → g' y = g y) →
        ∃ w3, (Instr.entryStore t (.map (some b)) (.int .i64 (st : Int)) v).run P w2 = .ok () w3 ∧ MapTells P k w3 b (n + 1) z g' ∧ ∃ o, w3 = setBlock w2 b o) →
      wpList P ops Q rest (a.put o.dst (.tuple #[g key, .int .i64 (st : Int)])) (setBlock w b ob)) : wpList P ops Q (o :: rest) a w := by
  refine wpList_plain hg fun K' hK' => ?_
  obtain ⟨st, w1, hrun, ⟨ob, rfl⟩, hst⟩ := h.entry K ht hz hkey
  unfold Oper.wp
  simp [execOp, hop, hm, hx, hrun, Result.andThen]
  exact hK' _ _ (hK st ob hst)
theorem wpList_entryStore_run (w w1 : World) (hg : o.guard = none) (m s x : Operand) (t : TypeId) (hop : o.op = Op.entryStore t m s x) {vm vs vx : Value} (hm : a.eval m = vm) (hs : a.eval s = vs) (hx : a.eval x = vx)
    (hrun : (Instr.entryStore t vm vs vx).run P w = .ok () w1) (hK : wpList P ops Q rest (a.put o.dst undef) w1) : wpList P ops Q (o :: rest) a w := by
  refine wpList_plain hg fun K' hK' => ?_
  unfold Oper.wp
  simp [execOp, hop, hm, hs, hx, hrun, Result.andThen]
  exact hK' _ _ hK
theorem wpList_delete_tells (w : World) (hg : o.guard = none) (m x : Operand) (t : TypeId) (hop : o.op = Op.call { callee := Callee.builtin Builtin.delete, args := #[m, x], argTypes := #[t, k] }) (K : Keyed P k) (ht : P.underlying t = some (.map k e))
    (h : MapTells P k w b n z g) (hm : a.eval m = .map (some b)) (key : Value) (kl : Lit) (hx : a.eval x = key) (hkey : keyOf P k key = some kl) (g' : Value → Value) (g1 : g' key = z) (g2 : ∀ y, y ≠ key → g' y = g y)
    (hK : ∀ ob w1, w1 = setBlock w b ob → MapTells P k w1 b n z g' → wpList P ops Q rest (a.put o.dst (.tuple #[])) w1) : wpList P ops Q (o :: rest) a w := by
  refine wpList_plain hg fun K' hK' => ?_
  obtain ⟨w1, hrun, hT, ob, e1⟩ := h.drop K ht hkey o.type g' g1 g2
  unfold Oper.wp
  simp [execOp, hop, resolve, invoke, builtin, hm, hx, hrun, Result.andThen]
  exact hK' _ _ (hK ob w1 e1 hT)
end
/-- a task on a worker, as a key. -/
def sv (t c : Int) : Value := .agg #[.int .i64 t, .int .i64 c]
theorem sv_inj {t c t' c' : Int} (h : sv t c = sv t' c') : t = t' ∧ c = c' := by
  unfold sv at h
  injection h with h
  have h2 : [Value.int .i64 t, Value.int .i64 c] = [Value.int .i64 t', Value.int .i64 c'] := congrArg Array.toList h
  injection h2 with h3 h4
  injection h4 with h4
  injection h3 with _ h3
  injection h4 with _ h4
  exact ⟨h3, h4⟩
theorem zeroRow (w : World) : (zeroValue 30).run Try.prog w = .ok (.slice none 0 0) w := by kernel_rfl
theorem keyTypeSpot : Try.prog.keyType 89 = true := by kernel_rfl
theorem key_spot {t c : Int} (ht : (Lit.int .i64 t).wf = true) (hc : (Lit.int .i64 c).wf = true) : ∃ kl, keyOf Try.prog 89 (sv t c) = some kl := by
  unfold keyOf
  rw [Try.underlying89]
  have h2 : (sv t c).formed Try.prog 89 = true := by kernel_rfl
  simp only [keyTypeSpot, h2, Bool.and_self, if_true]
  have h3 : ∃ d, Try.prog.types.size = d + 1 := ⟨Try.prog.types.size - 1, by have : 0 < Try.prog.types.size := of_decide_eq_true (by kernel_rfl); omega⟩
  obtain ⟨d, hd⟩ := h3
  rw [hd]
  have hp : ∀ x : Int, (Lit.int .i64 x).wf = true → Try.prog.keyLits (d + 1) 3 [.int .i64 x] = some [.int .i64 x] := fun x hx => by
    unfold Program.keyLits
    rw [Try.underlying3]
    simp [hx]
  have hcs : (sv t c).cells.toList = [.int .i64 t, .int .i64 c] := rfl
  have hc2 : Try.prog.cellsOf 89 = 2 := by kernel_rfl
  have hc3 : Try.prog.cellsOf 3 = 1 := by kernel_rfl
  rw [hcs]
  unfold Program.keyLits
  rw [Try.underlying89]
  simp [hc2, hc3, hp t ht, hp c hc]
end Go.Proofs.Ytkegdcnnankokaa.PGan
