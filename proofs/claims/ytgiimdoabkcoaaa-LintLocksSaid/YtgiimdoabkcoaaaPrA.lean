/-
prog.of, prog.Name, prog.isReg, prog.number: what they answer.
-/
import Derived.Test.YtgiimdoabkcoaaaBase
namespace Go.Proofs.Ytgiimdoabkcoaaa
set_option linter.unusedVariables false
set_option linter.unusedSimpArgs false
open Go.RowKit

def shA (op : Int) : Bool := op != 4 && op != 6
def shB (op : Int) : Bool := op == 2 || op == 3 || op == 8
def shN (op : Int) : Bool := op == 1 || op == 4 || op == 5 || op == 7 || op == 9 || op == 10 || op == 12


def ofPost (w : World) (a b n : Bool) (e : Ending) (w' : World) : Prop := e = .returned (.agg #[.bool a, .bool b, .bool n]) ∧ Below w.heap.size w w'

def opOK (op : Int) : Prop := 1 ≤ op ∧ op ≤ 14
def namePost (w : World) (good : Bool) (e : Ending) (w' : World) : Prop := ∃ s : ByteArray, e = .returned (.string s) ∧ s.toList.isEmpty = !good ∧ Below w.heap.size w w'

def regOK (had : Bool) (r : Int) : Bool := r == 0 || (had && decide (0 < r) && decide (r < 4))
def boolPost (w : World) (b : Bool) (e : Ending) (w' : World) : Prop := e = .returned (.bool b) ∧ w = w'

def mostN (op : Int) : Int := if op = 7 ∨ op = 12 ∨ op = 9 ∨ op = 10 then 15 else 0
def numErr (op n len : Int) : Int :=
  if op = 1 then 0 else if op = 4 ∨ op = 5 then (if n < 0 ∨ len ≤ n then 32 else 0) else if n < 0 ∨ mostN op < n then 26 else 0
def intPost (w : World) (x : Int) (e : Ending) (w' : World) : Prop := e = .returned (.int .i64 x) ∧ Below w.heap.size w w'

end Go.Proofs.Ytgiimdoabkcoaaa
