/- Functions of the program as Lean functions, and proofs that the code comes to their answers: printed by this session's program. -/
import Derived.Test.YtkegdcnnankokaaProg
import Derived.Below
import Derived.Deep.Draws
import Derived.Deep.AppendLies
import Derived.Maps.AppendAt
import Derived.OwnWalk
import Derived.Laws.BytesArg
import Derived.Laws.MakeOwn
import Derived.Laws.OwnMore
import Derived.Deep.OwnRows
import Derived.Tactics
import Derived.Lib.ConvBytes
import Derived.Laws.Slices
import Derived.WalkKit
import Derived.KernelRfl
import Derived.RowKit3
import Derived.Deep.LoopGhost
import Derived.Deep.QuietTactic
import Derived.BigQuiet
import Derived.WideLaws
import Derived.Deep.DeepCutAuto
import Derived.Deep.CutBlock
import Derived.Deep.RegionHeld3
import Derived.Laws.Rows
import Derived.Lib.AppendStr
import Derived.ArgAppend
import Derived.Laws.IdiomCopy
import Derived.OrdersHeld
import Derived.Laws.BitsLemmas
import Derived.RowKit
import Derived.Test.YtkegdcnnankokaaWWords
import Derived.Test.YtkegdcnnankokaaWLast
import Derived.Test.YtkegdcnnankokaaWTab
import Derived.Test.YtkegdcnnankokaaWFour
import Derived.Test.YtkegdcnnankokaaWQPut
import Derived.Test.YtkegdcnnankokaaWApart
import Derived.Test.YtkegdcnnankokaaWArr
import Derived.Test.YtkegdcnnankokaaWZeros
import Derived.Test.YtkegdcnnankokaaWFoot
import Derived.Test.YtkegdcnnankokaaWKept
import Derived.Test.YtkegdcnnankokaaWShare
import Derived.Test.YtkegdcnnankokaaWN
import Derived.Test.YtkegdcnnankokaaWFootNe
import Derived.Test.YtkegdcnnankokaaWAt
import Derived.Test.YtkegdcnnankokaaWEqStruct
import Derived.Test.YtkegdcnnankokaaWRepsOne
import Derived.Test.YtkegdcnnankokaaWInv
import Derived.Test.YtkegdcnnankokaaWInvWords
import Derived.Test.YtkegdcnnankokaaWGuard
import Derived.Test.YtkegdcnnankokaaWNEv
import Derived.Test.YtkegdcnnankokaaWMore
namespace Go.Proofs.Ytkegdcnnankokaa.PHpa
open Go.RowKit Go.Proofs.YtkegdcnnankokaaW.PrintWords Go.Proofs.YtkegdcnnankokaaW.PrintLast Go.Proofs.YtkegdcnnankokaaW.PrintMore
attribute [local go_sem] max2_int min2_int max_two min_two max_three min_three max_four min_four   -- for this text's walks alone
set_option linter.unusedVariables false
set_option linter.unusedSimpArgs false



def errW : Option Int → Value
  | none => .nilIface
  | some c => .iface 0 (.int .i64 c)
theorem errW_none : errW none = .nilIface := rfl
theorem errW_some (c : Int) : errW (some c) = .iface 0 (.int .i64 c) := rfl

theorem info3 : (Try.prog.info? 3).map (fun i => (i.zero, i.size, i.bytes)) = some (some (.int .i64 0), 1, 8) := by kernel_rfl
-- the values' own types

theorem px_add0 (g n : Nat) : (⟨g, 0, none⟩ : Addr).add n = ⟨g, n, none⟩ := by
  unfold Addr.add
  split <;> simp_all
theorem xa {w W : World} (h : Below w.heap.size w W) (o : Obj) : Below w.heap.size w (W.alloc o) := below_alloc h o
theorem xb {B : Nat} {w W : World} (h : Below B w W) (m : Nat) : Below B w (W.drewN m) := pw_below_drewN h m
theorem xc {base : Nat} {w W : World} (h : Below base w W) : Below base w W.drew := below_drew1 h
end Go.Proofs.Ytkegdcnnankokaa.PHpa
