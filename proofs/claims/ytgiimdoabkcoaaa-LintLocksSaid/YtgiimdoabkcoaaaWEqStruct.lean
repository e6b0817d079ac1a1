-- OUT OF THE TEXTS THAT print.sh LAYS: what this claim doesn't use is left out by this session's shake.py
import Derived.Test.YtgiimdoabkcoaaaWWords
import Derived.Laws.StructEq
namespace Go.Proofs.YtgiimdoabkcoaaaW.PrintWords
open Go.RowKit
section
variable {P : Program} {d : Nat} {xs ys : Array Value} {f : Field} {fs : List Field} {a b : Value} {r s : Bool} {w : World}
end
end Go.Proofs.YtgiimdoabkcoaaaW.PrintWords
