/-
A region that draws its order, reads, calls quietly, and ends in one store: walked in the order of the text.
-/
import Derived.Test.YtkegdcnnankokaaExt
import Derived.StillTailTactics
namespace Go
set_option linter.unusedVariables false
set_option linter.unusedSimpArgs false
theorem region_tail {P : Program} {id : Nat} {Q : Exit → Act → World → Prop} {a : Act} {w : World} {l : List Oper} (n : Nat) (hm : P.follows .mixedOrders = true) (hB : Region.lexTailB .any l.toArray n = true)
    (W : World) (hW : W = w.drew) (h : wpStill P l.toArray W (fun a' => wpList P l.toArray Q (l.drop n) a' W) (l.take n) a) : (Code.region id l.toArray true).wp P Q a w := by
  subst hW; exact wp_region_still_tail n hm hB h
end Go
