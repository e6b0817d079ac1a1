/-
strings.Join in the printed contracts' form.
-/
import Derived.Test.YtidhcdifmcffcaaShelf
import Derived.Test.YtidhcdifmcffcaaPCenx0
import Derived.Test.YtidhcdifmcffcaaPureKit
namespace Go.Proofs.Ytidhcdifmcffcaa.PCen
set_option linter.unusedVariables false
set_option linter.unusedSimpArgs false
open Go.RowKit Go.Proofs.YtidhcdifmcffcaaW.PrintWords Go.Proofs.YtidhcdifmcffcaaW.PrintLast Go.Proofs.YtidhcdifmcffcaaW.PrintMore
def joinB (l : List ByteArray) (s : ByteArray) : ByteArray := ⟨(Lib.join (l.map (·.data.toList)) s.data.toList).toArray⟩
def strings_Join.f (l0 : List ByteArray) (a1 : ByteArray) : Option (ByteArray) := if l0.length ≤ 1000000 ∧ (joinB l0 a1).size ≤ 140737488355328 then some (joinB l0 a1) else none
theorem strings_Join.calls (A0 : Option Addr) (c0 : Nat) (l0 : List ByteArray) (a1 : ByteArray) (r : ByteArray) (w : World) (hr0 : Kd.C Kd.string w A0 l0.length l0) (hc0 : l0.length ≤ c0) (h : strings_Join.f l0 a1 = some r) :
    Calls Try.prog 77 #[.slice A0 l0.length c0, .string a1] w fun e w' => e = .returned (.string r) ∧ Below w.heap.size w w' := by
  unfold strings_Join.f at h
  split at h
  case isFalse => cases h
  rename_i hb
  obtain rfl := Option.some.inj h
  by_cases hz : l0.length = 0
  · obtain rfl : l0 = [] := List.eq_nil_of_length_eq_zero hz
    refine (Try.strings_Join_none A0 c0 a1 w).mono ?_
    rintro e w' ⟨rfl, rfl⟩
    exact ⟨rfl, Below.refl _ _⟩
  · obtain ⟨ad, e, hx⟩ := Kd.at_string hr0 0 (by omega) (by omega)
    subst e
    obtain ⟨b, o, s⟩ := ad
    have h0 : ((⟨b, o, s⟩ : Addr).add ((0 : Int).toNat)) = ⟨b, o, s⟩ := by simp [Addr.add]
    rw [h0] at hx
    obtain rfl : s = none := by
      cases s with
      | none => rfl
      | some q =>
        unfold World.cell? at hx
        split at hx <;> simp_all
    have hlt := World.block_lt_of_cell? w _ hx
    refine (Try.strings_Join b o c0 l0 a1 w ?_ hlt (by omega) hc0 ?_).mono ?_
    · intro j x hj
      obtain ⟨hj1, rfl⟩ := List.getElem?_eq_some_iff.1 hj
      obtain ⟨ad, e, hy⟩ := Kd.at_string hr0 (j : Int) (by omega) (by omega)
      obtain rfl := Option.some.inj e
      rw [rdOf_at hj1, Int.toNat_natCast] at hy
      have ha : (⟨b, o, none⟩ : Addr).add j = ⟨b, o + j, none⟩ := by
        unfold Addr.add
        split
        · rename_i hq; simp [hq]
        · rfl
      rwa [ha] at hy
    · have := hb.2
      simpa [joinB, ByteArray.size] using this
    · rintro e w' ⟨rfl, hbel⟩
      exact ⟨rfl, hbel⟩
end Go.Proofs.Ytidhcdifmcffcaa.PCen
