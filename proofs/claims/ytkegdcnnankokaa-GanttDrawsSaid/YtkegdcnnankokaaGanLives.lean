/-
The document's example of gantt: as it says.
-/
import Derived.Test.YtkegdcnnankokaaPGanx4
namespace Go.Proofs.Ytkegdcnnankokaa.PGan
set_option linter.unusedVariables false
set_option linter.unusedSimpArgs false
open Go.RowKit Go.Proofs.YtkegdcnnankokaaW.PrintWords Go.Proofs.YtkegdcnnankokaaW.PrintLast Go.Proofs.YtkegdcnnankokaaW.PrintMore
theorem lives_true : pinfoldlaw30_lives.f = some true := by
  unfold pinfoldlaw30_lives.f
  decide +kernel
end Go.Proofs.Ytkegdcnnankokaa.PGan
