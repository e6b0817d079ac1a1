/-
prog.ins: what is wrong with an instruction.
-/
import Derived.Test.YtgiimdoabkcoaaaPrA
namespace Go.Proofs.Ytgiimdoabkcoaaa
set_option linter.unusedVariables false
set_option linter.unusedSimpArgs false
open Go.RowKit

def insErr (op a b n len : Int) : Int :=
  if ¬ (1 ≤ op ∧ op ≤ 14) then 30 else if regOK (shA op) a = false ∨ regOK (shB op) b = false then 31 else numErr op n len

end Go.Proofs.Ytgiimdoabkcoaaa
