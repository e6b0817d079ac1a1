-- OUT OF THE TEXTS THAT print.sh LAYS: what this claim doesn't use is left out by this session's shake.py
import Derived.Test.YtgiimdoabkcoaaaWWords
import Derived.Test.YtgiimdoabkcoaaaWLast
namespace Go.Proofs.YtgiimdoabkcoaaaW.PrintWords
open Go.RowKit
namespace Kd
section
variable {α : Type} {d : Kd α} {e base g o n cap : Nat} {ok okp : Nat → Prop} {w W : World} {v : Value} {xs : List α}
end
section
variable {α : Type} {enc : α → Value} {h1 : ∀ x, (enc x).oneCell' = true} {e base g o n cap : Nat} {ok : Nat → Prop} {W : World} {xs : List α}
end
end Kd
end Go.Proofs.YtgiimdoabkcoaaaW.PrintWords
