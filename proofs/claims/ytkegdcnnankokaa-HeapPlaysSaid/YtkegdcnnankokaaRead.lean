/-
What came in, as cells: the form's reading of an argument says what its cells hold (integers, bools, strings, slices, structs and arrays of these).
-/
import Derived.Test.YtkegdcnnankokaaBase
import Derived.ProofKit
import Derived.OpenShut
import Derived.ShutString
import Derived.ChangeOld
import Derived.Below
import Derived.SizedLaws
import Derived.Deep.Slices
namespace Go.Proofs.Ytkegdcnnankokaa
set_option linter.unusedVariables false
set_option linter.unusedSimpArgs false
open Go.RowKit Go.ChangeShapes Go.WideShapes

/-- the cells of a value of type t, as they were read. -/
def Rep (P : Program) (w : World) : Nat → TypeId → List Value → Prop
  | 0, _, _ => False
  | f + 1, t, cs =>
    match P.underlying t with
    | some .bool => ∃ b, cs = [.bool b]
    | some (.int k) => ∃ n, cs = [.int k n] ∧ (Lit.int k n).wf = true
    | some .string => ∃ s : ByteArray, cs = [.string s] ∧ s.size ≤ maxLen
    | some (.slice e) => cs = [.slice none 0 0] ∨ ∃ (a : Addr) (len cap : Nat), cs = [.slice (some a) len cap] ∧ len ≤ cap ∧ cap ≤ maxLen ∧
        ∀ i, i < len → ∃ c : List Value, c.length = P.cellsOf e ∧ (∀ j v, c[j]? = some v → w.cell? ((a.add (i * P.cellsOf e)).add j) = some v) ∧ Rep P w f e c
    | some (.struct fs) => cs.length = P.cellsOf t ∧ ∀ (i : Nat) (fl : Field), fs[i]? = some fl → Rep P w f fl.type ((cs.drop fl.offset).take (P.cellsOf fl.type))
    | some (.array n e) => cs.length = P.cellsOf t ∧ ∀ i, i < n → Rep P w f e ((cs.drop (i * P.cellsOf e)).take (P.cellsOf e))
    | _ => True

theorem rep_of_trod {H : Type} {enc : TypeId × Value → H} {P : Program} {w : World} {base : Nat} {spare : Nat → Bool} {held : Bool} :
    ∀ (fuel : Nat) (t : TypeId) (cs : List Value) (x : DataW H × List MemPlace), DataW.trod enc P w base spare held fuel t cs = some x → Rep P w fuel t cs := by
  intro fuel
  induction fuel with
  | zero => intro t cs x h; simp [DataW.trod] at h
  | succ f ih =>
    intro t cs x h
    unfold Rep
    split
    · rename_i hu; obtain ⟨b, h1, _⟩ := DataW.trod_bool hu h; exact ⟨b, h1⟩
    · rename_i hu; obtain ⟨n, h1, _, h2⟩ := DataW.trod_int hu h; exact ⟨n, h1, h2⟩
    · rename_i hu; obtain ⟨s, h1, _, h2⟩ := DataW.trod_string hu h; exact ⟨s, h1, h2⟩
    · rename_i e hu
      rcases DataW.trod_slice hu h with ⟨h1, _⟩ | ⟨a, len, cap, elems, rest, n, hf, h1, _, _, h2, h3, h4, h5, _, _⟩
      · exact .inl h1
      · obtain rfl : f = n := by omega
        refine .inr ⟨a, len, cap, h1, h2, h3, fun i hi => ?_⟩
        have hk := h5 i hi
        rw [List.getElem?_eq_getElem (by omega)] at hk
        obtain ⟨c, hc1, hc2⟩ := Option.bind_eq_some_iff.1 hk
        obtain ⟨_, hl, hg⟩ := World.cells?_some hc1
        refine ⟨c, hl, fun j v hj => ?_, ih _ _ _ hc2⟩
        have hjl : j < P.cellsOf e := by rw [← hl]; exact (List.getElem?_eq_some_iff.1 hj).1
        rw [hg j hjl]; exact hj
    · rename_i fs hu
      obtain ⟨xs, n, hf, _, hl, hxl, hx⟩ := DataW.trod_struct hu h
      obtain rfl : f = n := by omega
      refine ⟨hl, fun i fl hi => ?_⟩
      have := hx i fl hi
      have hi' : i < xs.length := by rw [hxl]; exact (Array.getElem?_eq_some_iff.1 hi).1
      rw [List.getElem?_eq_getElem hi'] at this
      exact ih _ _ _ this
    · rename_i n e hu
      obtain ⟨xs, m, hf, _, hl, hxl, hx⟩ := DataW.trod_array hu h
      obtain rfl : f = m := by omega
      refine ⟨hl, fun i hi => ?_⟩
      have := hx i hi
      rw [List.getElem?_eq_getElem (by omega)] at this
      exact ih _ _ _ this
    · trivial

theorem rep_of_Trod {H : Type} {enc : TypeId × Value → H} {P : Program} {w : World} {base : Nat} {spare : Nat → Bool} {held : Bool} {t : TypeId} {v : Value} {d : DataW H} {p : List MemPlace}
    (h : DataW.Trod enc P w base spare held t v d p) : ∃ f, Rep P w f t v.cells.toList := by
  obtain ⟨f, hf⟩ := h
  exact ⟨f, rep_of_trod f t _ _ hf⟩

section
variable {P : Program} {w : World} {f : Nat} {t : TypeId} {cs : List Value}
theorem rep_bool (hu : P.underlying t = some .bool) (h : Rep P w f t cs) : ∃ b, cs = [.bool b] := by
  cases f with
  | zero => exact h.elim
  | succ f => unfold Rep at h; rw [hu] at h; exact h
theorem rep_int {k : IntKind} (hu : P.underlying t = some (.int k)) (h : Rep P w f t cs) : ∃ n, cs = [.int k n] ∧ (Lit.int k n).wf = true := by
  cases f with
  | zero => exact h.elim
  | succ f => unfold Rep at h; rw [hu] at h; exact h
theorem rep_string (hu : P.underlying t = some .string) (h : Rep P w f t cs) : ∃ s : ByteArray, cs = [.string s] ∧ s.size ≤ maxLen := by
  cases f with
  | zero => exact h.elim
  | succ f => unfold Rep at h; rw [hu] at h; exact h
theorem rep_slice {e : TypeId} (hu : P.underlying t = some (.slice e)) (h : Rep P w f t cs) : ∃ g, cs = [.slice none 0 0] ∨ ∃ (a : Addr) (len cap : Nat), cs = [.slice (some a) len cap] ∧ len ≤ cap ∧ cap ≤ maxLen ∧
        ∀ i, i < len → ∃ c : List Value, c.length = P.cellsOf e ∧ (∀ j v, c[j]? = some v → w.cell? ((a.add (i * P.cellsOf e)).add j) = some v) ∧ Rep P w g e c := by
  cases f with
  | zero => exact h.elim
  | succ f => unfold Rep at h; rw [hu] at h; exact ⟨f, h⟩
theorem rep_struct {fs : Array Field} (hu : P.underlying t = some (.struct fs)) (h : Rep P w f t cs) : ∃ g, cs.length = P.cellsOf t ∧ ∀ (i : Nat) (fl : Field), fs[i]? = some fl → Rep P w g fl.type ((cs.drop fl.offset).take (P.cellsOf fl.type)) := by
  cases f with
  | zero => exact h.elim
  | succ f => unfold Rep at h; rw [hu] at h; exact ⟨f, h⟩
theorem rep_array {n : Nat} {e : TypeId} (hu : P.underlying t = some (.array n e)) (h : Rep P w f t cs) : ∃ g, cs.length = P.cellsOf t ∧ ∀ i, i < n → Rep P w g e ((cs.drop (i * P.cellsOf e)).take (P.cellsOf e)) := by
  cases f with
  | zero => exact h.elim
  | succ f => unfold Rep at h; rw [hu] at h; exact ⟨f, h⟩
end
theorem wf_i64 {n : Int} (h : (Lit.int .i64 n).wf = true) : -9223372036854775808 ≤ n ∧ n ≤ 9223372036854775807 := by
  simp [Lit.wf, IntKind.min, IntKind.max, IntKind.bits, IntKind.signed] at h; omega
theorem wf_i32 {n : Int} (h : (Lit.int .i32 n).wf = true) : -2147483648 ≤ n ∧ n ≤ 2147483647 := by
  simp [Lit.wf, IntKind.min, IntKind.max, IntKind.bits, IntKind.signed] at h; omega
theorem wf_u64 {n : Int} (h : (Lit.int .u64 n).wf = true) : 0 ≤ n ∧ n ≤ 18446744073709551615 := by
  simp [Lit.wf, IntKind.min, IntKind.max, IntKind.bits, IntKind.signed] at h; omega
theorem list2 {α : Type} {l : List α} (h : l.length = 2) : ∃ a b, l = [a, b] := by
  match l, h with
  | [a, b], _ => exact ⟨a, b, rfl⟩
theorem list3 {α : Type} {l : List α} (h : l.length = 3) : ∃ a b c, l = [a, b, c] := by
  match l, h with
  | [a, b, c], _ => exact ⟨a, b, c, rfl⟩
theorem list4 {α : Type} {l : List α} (h : l.length = 4) : ∃ a b c d, l = [a, b, c, d] := by
  match l, h with
  | [a, b, c, d], _ => exact ⟨a, b, c, d, rfl⟩
theorem list5 {α : Type} {l : List α} (h : l.length = 5) : ∃ a b c d e, l = [a, b, c, d, e] := by
  match l, h with
  | [a, b, c, d, e], _ => exact ⟨a, b, c, d, e, rfl⟩
/-- a list, out of one thing at each place. -/
theorem list_of_all {α : Type} (n : Nat) (R : Nat → α → Prop) (h : ∀ i, i < n → ∃ x, R i x) : ∃ l : List α, l.length = n ∧ ∀ i (hi : i < l.length), R i l[i] := by
  induction n with
  | zero => exact ⟨[], rfl, fun i hi => absurd hi (by simp)⟩
  | succ n ih =>
    obtain ⟨l, hl, hr⟩ := ih (fun i hi => h i (by omega))
    obtain ⟨x, hx⟩ := h n (by omega)
    refine ⟨l ++ [x], by simp [hl], fun i hi => ?_⟩
    by_cases hin : i < l.length
    · rw [List.getElem_append_left hin]; exact hr i hin
    · have hi' : i = n := by simp at hi; omega
      subst hi'
      rw [List.getElem_append_right (by omega)]
      simpa [hl] using hx
end Go.Proofs.Ytkegdcnnankokaa
