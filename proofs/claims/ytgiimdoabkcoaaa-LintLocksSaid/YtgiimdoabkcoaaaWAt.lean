-- OUT OF THE TEXTS THAT print.sh LAYS: what this claim doesn't use is left out by this session's shake.py
import Derived.Test.YtgiimdoabkcoaaaWFootNe
namespace Go.Proofs.YtgiimdoabkcoaaaW.PrintWords
open Go.RowKit
section
variable {w w' u : World} {m B g : Nat} {o : Obj} {row : Option Nat} {S : Nat → Prop} {a : Addr} {v : Value}
end
namespace Kd
section
variable {α : Type} {d : Kd α} {e base n m : Nat} {ok : Nat → Prop} {w w' : World} {v : Value} {A : Option Addr} {xs : List α}
end
end Kd
end Go.Proofs.YtgiimdoabkcoaaaW.PrintWords
