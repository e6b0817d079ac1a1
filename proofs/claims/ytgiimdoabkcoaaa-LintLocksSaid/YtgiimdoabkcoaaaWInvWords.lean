-- OUT OF THE TEXTS THAT print.sh LAYS: what this claim doesn't use is left out by this session's shake.py
import Derived.Test.YtgiimdoabkcoaaaWInv
import Derived.Test.YtgiimdoabkcoaaaWFootNe
namespace Go.Proofs.YtgiimdoabkcoaaaW.PrintWords
open Go.RowKit
end Go.Proofs.YtgiimdoabkcoaaaW.PrintWords
namespace Go.Proofs.YtgiimdoabkcoaaaW.PrintLast
section
variable {ops : Array Oper} {a : Act} {o og : Oper} {g : Nat} {t : Tmp} {u : Bool}
end
end Go.Proofs.YtgiimdoabkcoaaaW.PrintLast
