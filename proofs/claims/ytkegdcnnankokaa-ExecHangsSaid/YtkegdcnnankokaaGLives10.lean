/-
The document's example of exec, in the printed contracts' form (walked by hand: ExecLives).
-/
import Derived.Test.YtkegdcnnankokaaPLintx0
import Derived.Test.YtkegdcnnankokaaExecLives
namespace Go.Proofs.Ytkegdcnnankokaa.PLint
set_option linter.unusedVariables false
set_option linter.unusedSimpArgs false
open Go.RowKit Go.Proofs.YtkegdcnnankokaaW.PrintWords Go.Proofs.YtkegdcnnankokaaW.PrintLast Go.Proofs.YtkegdcnnankokaaW.PrintMore
def pinfoldlaw10_lives.f : Option (Bool) := some true
theorem pinfoldlaw10_lives.calls (r : Bool) (w : World) (h : pinfoldlaw10_lives.f = some r) :
    Calls Try.prog 28 #[] w fun e w' => e = .returned (.bool r) ∧ Below w.heap.size w w' := by
  obtain rfl := Option.some.inj h
  exact lives_any w
end Go.Proofs.Ytkegdcnnankokaa.PLint
