-- OUT OF THE TEXTS THAT print.sh LAYS: what this claim doesn't use is left out by this session's shake.py
import Derived.Test.YtgiimdoabkcoaaaWN
namespace Go.Proofs.YtgiimdoabkcoaaaW.PrintWords
open Go.RowKit
namespace Kd
section
variable {α : Type} {d : Kd α} {W : World} {g n : Nat} {S ok : Nat → Prop} {A : Option Addr} {ad : Addr} {xs : List α}
end
end Kd
end Go.Proofs.YtgiimdoabkcoaaaW.PrintWords
