/-
prog.Check: what is wrong with a program, and where.
-/
import Derived.Test.YtgiimdoabkcoaaaPrIns
namespace Go.Proofs.Ytgiimdoabkcoaaa
set_option linter.unusedVariables false
set_option linter.unusedSimpArgs false
open Go.RowKit

structure Ins where
  op : Int
  a : Int
  b : Int
  n : Int
instance : Inhabited Ins := ⟨⟨0, 0, 0, 0⟩⟩

def Ins.err (x : Ins) (len : Int) : Int := insErr x.op x.a x.b x.n len
def Ins.val (x : Ins) : Value := .agg #[.int .i64 x.op, .int .i64 x.a, .int .i64 x.b, .int .i32 x.n]
/-- instructions lie in memory, one behind the other, from A on. -/
def InsAt (w : World) (A : Option Addr) (l : List Ins) : Prop :=
  ∀ (i : Nat) (h : i < l.length), ∃ ad, A = some ad ∧ w.cell? (ad.add (i * 4)) = some (.int .i64 l[i].op) ∧ w.cell? ⟨(ad.add (i * 4)).block, (ad.add (i * 4)).off + 1, none⟩ = some (.int .i64 l[i].a) ∧
    w.cell? ⟨(ad.add (i * 4)).block, (ad.add (i * 4)).off + 2, none⟩ = some (.int .i64 l[i].b) ∧ w.cell? ⟨(ad.add (i * 4)).block, (ad.add (i * 4)).off + 3, none⟩ = some (.int .i32 l[i].n)
theorem InsAt.below {w w1 : World} {A : Option Addr} {l : List Ins} (h : InsAt w A l) (hb : Below w.heap.size w w1) : InsAt w1 A l := fun i hi => by
  obtain ⟨ad, e, c0, c1, c2, c3⟩ := h i hi
  exact ⟨ad, e, bel_cell hb c0, bel_cell hb c1, bel_cell hb c2, bel_cell hb c3⟩
def InsWf (l : List Ins) : Prop := ∀ x ∈ l, -2147483648 ≤ x.n ∧ x.n ≤ 2147483647

/-- the first instruction that is wrong, from place i on. -/
def firstErr (len : Int) : List Ins → Int → Option (Int × Int)
  | [], _ => none
  | x :: l, i => if x.err len = 0 then firstErr len l (i + 1) else some (x.err len, i)
def lastOp (l : List Ins) : Int := (l.getD (l.length - 1) default).op
def checkL (l : List Ins) : Int × Int :=
  match firstErr l.length l 0 with
  | some r => r
  | none => if lastOp l = 4 ∨ lastOp l = 14 then (0, 0) else (32, (l.length : Int) - 1)
def checkS (prio : Int) (l : List Ins) : Int × Int :=
  if prio < 0 ∨ 3 < prio then (26, 0) else if l.length = 0 ∨ 64 < l.length then (33, 0) else checkL l

def twoPost (w : World) (r : Int × Int) (e : Ending) (w' : World) : Prop := e = .returned (.tuple #[.int .i64 r.1, .int .i64 r.2]) ∧ Below w.heap.size w w'

theorem firstErr_at (len : Int) : ∀ (l : List Ins) (i : Int) (k : Nat) (hk : k < l.length), (∀ j (hj : j < l.length), j < k → l[j].err len = 0) → l[k].err len ≠ 0 → firstErr len l i = some (l[k].err len, i + k)
  | x :: l, i, 0, _, _, h2 => by
    have h2' : x.err len ≠ 0 := h2
    simp [firstErr, h2']
  | x :: l, i, k + 1, hk, h1, h2 => by
    have h0 : x.err len = 0 := h1 0 (by simp) (by omega)
    have := firstErr_at len l (i + 1) k (by simpa using hk) (fun j hj hjk => h1 (j + 1) (by simpa using hj) (by omega)) h2
    simp only [firstErr, h0, if_true, List.getElem_cons_succ]
    rw [this]
    congr 2
    push_cast; omega
theorem firstErr_none (len : Int) : ∀ (l : List Ins) (i : Int), (∀ j (hj : j < l.length), l[j].err len = 0) → firstErr len l i = none
  | [], _, _ => rfl
  | x :: l, i, h => by
    have h0 : x.err len = 0 := h 0 (by simp)
    simp only [firstErr, h0, if_true]
    exact firstErr_none len l (i + 1) (fun j hj => h (j + 1) (by simpa using hj))

end Go.Proofs.Ytgiimdoabkcoaaa
