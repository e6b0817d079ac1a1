/-
What the locks that stay in a socket do, plain.
-/
import Derived.Test.YtgiimdoabkcoaaaWWords
namespace Go.Proofs.Ytgiimdoabkcoaaa.Co
set_option linter.unusedVariables false
set_option linter.unusedSimpArgs false
/-- a socket's tasks that wait. -/
abbrev Rw := Int × List Int
structure LS where
  held : Bool
  owner : Int
  socket : Int
  passes : Int
  round : List Rw
instance : Inhabited LS := ⟨⟨false, 0, 0, 0, []⟩⟩
def ls0 : LS := ⟨false, 0, 0, 0, []⟩
def rg (r : List Rw) (i : Nat) : Rw := r.getD i (0, [])
def rowI (r : List Rw) (s : Int) : Option Nat := r.findIdx? (fun p => decide (p.1 = s))
def offI (r : List Rw) (s : Int) : Option Nat := r.findIdx? (fun p => decide (p.1 ≠ s))
def oI (o : Option Nat) : Int := match o with | some i => (i : Int) | none => -1
def waitsB (r : List Rw) (t : Int) : Bool := r.any (fun p => p.2.contains t)
def addAt (r : List Rw) (i : Nat) (t : Int) : List Rw := r.set i ((rg r i).1, (rg r i).2 ++ [t])
def addP (r : List Rw) (s t : Int) : List Rw := match rowI r s with
  | some i => addAt r i t
  | none => r ++ [(s, [t])]
/-- Take: the lock behind it, whether it was given, the error. -/
def takeP (x : LS) (t s : Int) : LS × Bool × Int :=
  if t < 0 ∨ s < 0 then (x, false, 1)
  else if x.held = true ∧ x.owner = t then (x, false, 8)
  else if waitsB x.round t = true then (x, false, 9)
  else if x.held = false then (⟨true, t, s, 0, x.round⟩, true, 0)
  else (⟨x.held, x.owner, x.socket, x.passes, addP x.round s t⟩, false, 0)
def firstT (r : List Rw) (i : Nat) : Int := (rg r i).2.headD 0
def firstR (r : List Rw) (i : Nat) : List Rw := if (rg r i).2.tail = [] then r.eraseIdx i else r.set i ((rg r i).1, (rg r i).2.tail)
def moveR (r : List Rw) (s : Int) : List Rw := match rowI r s with
  | some k => r.eraseIdx k ++ [rg r k]
  | none => r
def awayP (x : LS) : LS := ⟨x.held, firstT x.round ((offI x.round x.socket).getD 0), (rg x.round ((offI x.round x.socket).getD 0)).1, 0, moveR (firstR x.round ((offI x.round x.socket).getD 0)) x.socket⟩
def stayP (x : LS) (i : Nat) : LS := ⟨x.held, firstT x.round i, x.socket, x.passes + 1, firstR x.round i⟩
def nextP (x : LS) : LS := match rowI x.round x.socket with
  | some i => if x.passes < 3 ∨ x.round.length = 1 then stayP x i else awayP x
  | none => awayP x
/-- Give: the lock behind it, who has it next, whether somebody has, the error. -/
def giveP (x : LS) (t : Int) : LS × Int × Bool × Int :=
  if x.held = false ∨ x.owner ≠ t then (x, 0, false, 8)
  else if x.round = [] then (ls0, 0, false, 0)
  else (nextP x, (nextP x).owner, true, 0)
def waitingP (x : LS) : List Int := x.round.flatMap (fun p => p.2)
/-- what is always so. -/
structure Ok (x : LS) : Prop where
  full : ∀ p ∈ x.round, p.2 ≠ []
  nodup : (x.round.map (·.1)).Nodup
  none : x.held = false → x.round = []
  pass : 0 ≤ x.passes
section
variable {r : List Rw} {s t : Int} {i : Nat}
theorem rg_at (h : i < r.length) : rg r i = r[i] := by simp [rg, h]
theorem rowI_some (h : rowI r s = some i) : i < r.length ∧ (rg r i).1 = s := by
  obtain ⟨h1, h2, _⟩ := List.findIdx?_eq_some_iff_getElem.1 h
  exact ⟨h1, by rw [rg_at h1]; simpa using h2⟩
theorem rowI_none (h : rowI r s = none) : ∀ p ∈ r, p.1 ≠ s := by
  intro p hp
  have := List.findIdx?_eq_none_iff.1 h p hp
  simpa using this
theorem offI_some (h : offI r s = some i) : i < r.length ∧ (rg r i).1 ≠ s := by
  obtain ⟨h1, h2, _⟩ := List.findIdx?_eq_some_iff_getElem.1 h
  exact ⟨h1, by rw [rg_at h1]; simpa using h2⟩
theorem offI_none (h : offI r s = none) : ∀ p ∈ r, p.1 = s := by
  intro p hp
  have := List.findIdx?_eq_none_iff.1 h p hp
  simpa using this
theorem off_exists (hn : (r.map (·.1)).Nodup) (hr : r ≠ []) (h : rowI r s = none ∨ 2 ≤ r.length) : ∃ i, offI r s = some i := by
  cases ho : offI r s with
  | some i => exact ⟨i, rfl⟩
  | none =>
    have hall := offI_none ho
    exfalso
    rcases h with h | h
    · match r, hr with
      | p :: _, _ => exact rowI_none h p (by simp) (hall p (by simp))
    · match r, h with
      | p :: q :: l, _ =>
        have h1 := hall p (by simp)
        have h2 := hall q (by simp)
        simp only [List.map_cons, List.nodup_cons] at hn
        exact hn.1 (by rw [h1, ← h2]; simp)
end
end Go.Proofs.Ytgiimdoabkcoaaa.Co
