/-
What a heap's functions do with its list, plain, over whatever things; where each thing is.
-/
import Derived.Test.YtkegdcnnankokaaWWords
namespace Go.Proofs.Ytkegdcnnankokaa.Hp
set_option linter.unusedVariables false
set_option linter.unusedSimpArgs false
structure It (α : Type) where
  f0 : Int
  f1 : Int
  f2 : α
section
variable {α : Type} [Inhabited α]
instance itInh : Inhabited (It α) := ⟨⟨0, 0, default⟩⟩
def lt (a b : It α) : Prop := a.f0 < b.f0 ∨ (a.f0 = b.f0 ∧ a.f1 < b.f1)
instance ltDec (a b : It α) : Decidable (lt a b) := by unfold lt; infer_instance
def gd (l : List (It α)) (i : Nat) : It α := l.getD i default
def sw (l : List (It α)) (i j : Nat) : List (It α) := (l.set i (gd l j)).set j (gd l i)
def aheadP (a b : It α) : Int := if lt a b then -1 else if lt b a then 1 else 0
theorem sw_len (l : List (It α)) (i j : Nat) : (sw l i j).length = l.length := by simp [sw]
def upP (l : List (It α)) (i : Nat) : List (It α) := if _h : 0 < i ∧ lt (gd l i) (gd l ((i - 1) / 2)) then upP (sw l i ((i - 1) / 2)) ((i - 1) / 2) else l
termination_by i
decreasing_by omega
def kid (l : List (It α)) (i : Nat) : Nat := if 2 * i + 2 < l.length ∧ lt (gd l (2 * i + 2)) (gd l (2 * i + 1)) then 2 * i + 2 else 2 * i + 1
theorem kid_b (l : List (It α)) (i : Nat) (h : 2 * i + 1 < l.length) : i < kid l i ∧ kid l i < l.length := by unfold kid; split <;> omega
def downP (l : List (It α)) (i : Nat) : List (It α) := if _h : 2 * i + 1 < l.length ∧ ¬ lt (gd l i) (gd l (kid l i)) then downP (sw l i (kid l i)) (kid l i) else l
termination_by l.length - i
decreasing_by have := kid_b l i _h.1; rw [sw_len]; omega
theorem upP_go {l : List (It α)} {i : Nat} (h : 0 < i) (h2 : lt (gd l i) (gd l ((i - 1) / 2))) : upP l i = upP (sw l i ((i - 1) / 2)) ((i - 1) / 2) := by rw [upP, dif_pos ⟨h, h2⟩]
theorem upP_stop {l : List (It α)} {i : Nat} (h : ¬ (0 < i ∧ lt (gd l i) (gd l ((i - 1) / 2)))) : upP l i = l := by rw [upP, dif_neg h]
theorem downP_go {l : List (It α)} {i : Nat} (h : 2 * i + 1 < l.length) (h2 : ¬ lt (gd l i) (gd l (kid l i))) : downP l i = downP (sw l i (kid l i)) (kid l i) := by rw [downP, dif_pos ⟨h, h2⟩]
theorem downP_stop {l : List (It α)} {i : Nat} (h : ¬ (2 * i + 1 < l.length ∧ ¬ lt (gd l i) (gd l (kid l i)))) : downP l i = l := by rw [downP, dif_neg h]
theorem gd_at {l : List (It α)} {i : Nat} (h : i < l.length) : gd l i = l[i] := by simp [gd, h]
theorem gd_set (l : List (It α)) (i j : Nat) (x : It α) (h : i < l.length) : gd (l.set i x) j = if j = i then x else gd l j := by
  unfold gd
  simp only [List.getD_eq_getElem?_getD, List.getElem?_set]
  by_cases e : i = j
  · subst e; simp [h]
  · have : ¬ j = i := fun q => e q.symm
    simp [e, this]
theorem gd_sw {l : List (It α)} {i j : Nat} (hi : i < l.length) (hj : j < l.length) (k : Nat) : gd (sw l i j) k = if k = j then gd l i else if k = i then gd l j else gd l k := by
  unfold sw
  rw [gd_set _ _ _ _ (by simpa using hj), gd_set _ _ _ _ hi]
def Apart (l : List (It α)) : Prop := ∀ i j, i < l.length → j < l.length → (gd l i).f2 = (gd l j).f2 → i = j
theorem apart_sw {l : List (It α)} {i j : Nat} (hi : i < l.length) (hj : j < l.length) (h : Apart l) : Apart (sw l i j) := by
  intro a b ha hb e
  rw [sw_len] at ha hb
  rw [gd_sw hi hj, gd_sw hi hj] at e
  by_cases a1 : a = j
  · rw [if_pos a1] at e
    by_cases b1 : b = j
    · omega
    · rw [if_neg b1] at e
      by_cases b2 : b = i
      · rw [if_pos b2] at e
        have := h i j hi hj e; omega
      · rw [if_neg b2] at e
        have := h i b hi hb e; omega
  · rw [if_neg a1] at e
    by_cases a2 : a = i
    · rw [if_pos a2] at e
      by_cases b1 : b = j
      · rw [if_pos b1] at e
        have := h j i hj hi e; omega
      · rw [if_neg b1] at e
        by_cases b2 : b = i
        · omega
        · rw [if_neg b2] at e
          have := h j b hj hb e; omega
    · rw [if_neg a2] at e
      by_cases b1 : b = j
      · rw [if_pos b1] at e
        have := h a i ha hi e; omega
      · rw [if_neg b1] at e
        by_cases b2 : b = i
        · rw [if_pos b2] at e
          have := h a j ha hj e; omega
        · rw [if_neg b2] at e
          exact h a b ha hb e
/-- row and list, but for the place at which something is held out. -/
theorem hole_step {r l : List (It α)} {i p : Nat} (hi : i < l.length) (hp : p < l.length) (hne : i ≠ p) (hr : r.set i (gd l i) = l) : gd r p = gd l p ∧ (r.set i (gd r p)).set p (gd l i) = sw l i p := by
  have hrl : r.length = l.length := by rw [← hr]; simp
  have h1 : gd r p = gd l p := by
    have : gd (r.set i (gd l i)) p = gd r p := by rw [gd_set _ _ _ _ (by omega), if_neg (fun e => hne e.symm)]
    rw [hr] at this; exact this.symm
  have h2 : ∀ z, r.set i z = l.set i z := fun z => by
    have := congrArg (fun q => List.set q i z) hr
    simpa [List.set_set] using this
  refine ⟨h1, ?_⟩
  rw [h2, h1]; rfl
end
section
variable {α : Type} [Inhabited α] [DecidableEq α]
/-- where a thing is. -/
def posO (l : List (It α)) (y : α) : Option Int := Option.map (fun n : Nat => (n : Int)) (l.findIdx? (fun e => decide (e.f2 = y)))
theorem posO_some {l : List (It α)} (h : Apart l) {i : Nat} (hi : i < l.length) : posO l (gd l i).f2 = some (i : Int) := by
  unfold posO
  have : l.findIdx? (fun e => decide (e.f2 = (gd l i).f2)) = some i := by
    rw [List.findIdx?_eq_some_iff_getElem]
    refine ⟨hi, by simp [gd_at hi], fun j hj => ?_⟩
    have hjl : j < l.length := by omega
    simp only [decide_eq_true_eq]
    intro e
    rw [← gd_at hjl] at e
    exact absurd (h j i hjl hi e) (by omega)
  rw [this]; rfl
theorem posO_none {l : List (It α)} {y : α} : posO l y = none ↔ ∀ i, i < l.length → (gd l i).f2 ≠ y := by
  unfold posO
  rw [Option.map_eq_none_iff, List.findIdx?_eq_none_iff]
  constructor
  · intro h i hi e
    have := h l[i] (List.getElem_mem hi)
    rw [gd_at hi] at e
    simp [e] at this
  · intro h e he
    obtain ⟨i, hi, rfl⟩ := List.getElem_of_mem he
    have := h i hi
    rw [gd_at hi] at this
    simp [this]
theorem posO_of {l : List (It α)} {y : α} {n : Int} (h : posO l y = some n) : ∃ i : Nat, n = (i : Int) ∧ i < l.length ∧ (gd l i).f2 = y := by
  unfold posO at h
  obtain ⟨i, hi, rfl⟩ := Option.map_eq_some_iff.1 h
  obtain ⟨h1, h2, _⟩ := List.findIdx?_eq_some_iff_getElem.1 hi
  exact ⟨i, rfl, h1, by rw [gd_at h1]; simpa using h2⟩
theorem posO_sw {l : List (It α)} {i j : Nat} (hi : i < l.length) (hj : j < l.length) (h : Apart l) {y : α} (h1 : y ≠ (gd l i).f2) (h2 : y ≠ (gd l j).f2) : posO (sw l i j) y = posO l y := by
  cases hp : posO l y with
  | none =>
    rw [posO_none] at hp ⊢
    intro k hk
    rw [sw_len] at hk
    rw [gd_sw hi hj]
    split
    · exact fun e => h1 e.symm
    · split
      · exact fun e => h2 e.symm
      · exact hp k hk
  | some n =>
    obtain ⟨k, rfl, hk, hy⟩ := posO_of hp
    have k1 : k ≠ j := fun e => h2 (by rw [← hy, e])
    have k2 : k ≠ i := fun e => h1 (by rw [← hy, e])
    have e : gd (sw l i j) k = gd l k := by rw [gd_sw hi hj, if_neg k1, if_neg k2]
    have := posO_some (apart_sw hi hj h) (i := k) (by rw [sw_len]; exact hk)
    rw [e, hy] at this
    exact this
/-- the map tells where each thing is, but one. -/
def AtBut (g : α → Option Int) (l : List (It α)) (x : α) : Prop := ∀ y, y ≠ x → g y = posO l y
def AtFull (g : α → Option Int) (l : List (It α)) : Prop := ∀ y, g y = posO l y
def gset (g : α → Option Int) (x : α) (v : Option Int) : α → Option Int := fun y => if y = x then v else g y
theorem hole_at {g : α → Option Int} {l : List (It α)} {i p : Nat} (hi : i < l.length) (hp : p < l.length) (hne : i ≠ p) (h : Apart l) (hg : AtBut g l (gd l i).f2) : AtBut (gset g (gd l p).f2 (some (i : Int))) (sw l i p) (gd l i).f2 := by
  intro y hy
  unfold gset
  by_cases e : y = (gd l p).f2
  · rw [if_pos e, e]
    have := posO_some (apart_sw hi hp h) (i := i) (by rw [sw_len]; exact hi)
    rw [gd_sw hi hp, if_neg hne, if_pos rfl] at this
    exact this.symm
  · rw [if_neg e, hg y hy, posO_sw hi hp h hy e]
theorem hole_end {g : α → Option Int} {l : List (It α)} {i : Nat} (hi : i < l.length) (h : Apart l) (hg : AtBut g l (gd l i).f2) : AtFull (gset g (gd l i).f2 (some (i : Int))) l := by
  intro y
  unfold gset
  by_cases e : y = (gd l i).f2
  · rw [if_pos e, e, posO_some h hi]
  · rw [if_neg e, hg y e]
end
end Go.Proofs.Ytkegdcnnankokaa.Hp
namespace Go.Proofs.Ytkegdcnnankokaa.Hp
section
variable {α : Type} [Inhabited α]
theorem gd_snoc (l : List (It α)) (p : It α) (i : Nat) : gd (l ++ [p]) i = if i < l.length then gd l i else if i = l.length then p else default := by
  unfold gd
  simp only [List.getD_eq_getElem?_getD, List.getElem?_append]
  by_cases h : i < l.length
  · simp [h]
  · by_cases h2 : i = l.length
    · subst h2; simp
    · have : 0 < i - l.length := by omega
      simp [h, h2]
      rw [List.getElem?_eq_none (by simp; omega)]
      rfl
end
section
variable {α : Type} [Inhabited α] [DecidableEq α]
def hasX (l : List (It α)) (x : α) : Bool := (posO l x).isSome
theorem hasX_false {l : List (It α)} {x : α} : hasX l x = false ↔ ∀ i, i < l.length → (gd l i).f2 ≠ x := by
  rw [← posO_none]
  unfold hasX
  cases posO l x <;> simp
theorem apart_snoc {l : List (It α)} (h : Apart l) {p : It α} (hp : hasX l p.f2 = false) : Apart (l ++ [p]) := by
  rw [hasX_false] at hp
  intro i j hi hj e
  rw [List.length_append, List.length_singleton] at hi hj
  rw [gd_snoc, gd_snoc] at e
  by_cases h1 : i < l.length
  · rw [if_pos h1] at e
    by_cases h2 : j < l.length
    · rw [if_pos h2] at e
      exact h i j h1 h2 e
    · rw [if_neg h2, if_pos (by omega)] at e
      exact absurd e (hp i h1)
  · rw [if_neg h1, if_pos (by omega)] at e
    by_cases h2 : j < l.length
    · rw [if_pos h2] at e
      exact absurd e.symm (hp j h2)
    · omega
theorem but_snoc {l : List (It α)} (h : Apart l) {p : It α} (hp : hasX l p.f2 = false) {g : α → Option Int} (hg : AtFull g l) : AtBut g (l ++ [p]) p.f2 := by
  intro y hy
  rw [hg y]
  cases hq : posO l y with
  | none =>
    symm
    rw [posO_none] at hq ⊢
    intro i hi
    rw [List.length_append, List.length_singleton] at hi
    rw [gd_snoc]
    split
    · rename_i h1; exact hq i h1
    · rw [if_pos (by omega)]
      exact fun e => hy e.symm
  | some n =>
    obtain ⟨i, rfl, hi, rfl⟩ := posO_of hq
    have e : gd (l ++ [p]) i = gd l i := by rw [gd_snoc, if_pos hi]
    have := posO_some (apart_snoc h hp) (i := i) (by simp; omega)
    rw [e] at this
    exact this.symm
end
section
variable {α : Type} [Inhabited α]
theorem upP_keep (Q : List (It α) → Prop) (hQ : ∀ l i j, i < l.length → j < l.length → Q l → Q (sw l i j)) : ∀ (i : Nat) (l : List (It α)), i < l.length → Q l → Q (upP l i) := by
  intro i
  induction i using Nat.strongRecOn with
  | _ i ih =>
    intro l hi h
    by_cases hc : 0 < i ∧ lt (gd l i) (gd l ((i - 1) / 2))
    · rw [upP_go hc.1 hc.2]
      exact ih _ (by omega) _ (by rw [sw_len]; omega) (hQ l _ _ hi (by omega) h)
    · rw [upP_stop hc]; exact h
theorem downP_keep (Q : List (It α) → Prop) (hQ : ∀ l i j, i < l.length → j < l.length → Q l → Q (sw l i j)) : ∀ (d i : Nat) (l : List (It α)), l.length - i = d → i < l.length → Q l → Q (downP l i) := by
  intro d
  induction d using Nat.strongRecOn with
  | _ d ih =>
    intro i l hd hi h
    by_cases hc : 2 * i + 1 < l.length ∧ ¬ lt (gd l i) (gd l (kid l i))
    · have hk := kid_b l i hc.1
      rw [downP_go hc.1 hc.2]
      exact ih (l.length - kid l i) (by omega) _ _ (by rw [sw_len]) (by rw [sw_len]; exact hk.2) (hQ l _ _ hi hk.2 h)
    · rw [downP_stop hc]; exact h
theorem upP_len (l : List (It α)) (i : Nat) (hi : i < l.length) : (upP l i).length = l.length := upP_keep (fun q => q.length = l.length) (fun q a b _ _ h => by rw [sw_len]; exact h) i l hi rfl
theorem downP_len (l : List (It α)) (i : Nat) (hi : i < l.length) : (downP l i).length = l.length := downP_keep (fun q => q.length = l.length) (fun q a b _ _ h => by rw [sw_len]; exact h) _ i l rfl hi rfl
theorem upP_apart {l : List (It α)} {i : Nat} (hi : i < l.length) (h : Apart l) : Apart (upP l i) := upP_keep Apart (fun _ _ _ ha hb h => apart_sw ha hb h) i l hi h
theorem downP_apart {l : List (It α)} {i : Nat} (hi : i < l.length) (h : Apart l) : Apart (downP l i) := downP_keep Apart (fun _ _ _ ha hb h => apart_sw ha hb h) _ i l rfl hi h
theorem all_sw {P : It α → Prop} {l : List (It α)} {i j : Nat} (hi : i < l.length) (hj : j < l.length) (h : ∀ k, k < l.length → P (gd l k)) : ∀ k, k < (sw l i j).length → P (gd (sw l i j) k) := by
  intro k hk
  rw [sw_len] at hk
  rw [gd_sw hi hj]
  split
  · exact h i hi
  · split
    · exact h j hj
    · exact h k hk
theorem upP_all {P : It α → Prop} {l : List (It α)} {i : Nat} (hi : i < l.length) (h : ∀ k, k < l.length → P (gd l k)) : ∀ k, k < (upP l i).length → P (gd (upP l i) k) := upP_keep (fun q => ∀ k, k < q.length → P (gd q k)) (fun _ _ _ ha hb h => all_sw ha hb h) i l hi h
theorem downP_all {P : It α → Prop} {l : List (It α)} {i : Nat} (hi : i < l.length) (h : ∀ k, k < l.length → P (gd l k)) : ∀ k, k < (downP l i).length → P (gd (downP l i) k) := downP_keep (fun q => ∀ k, k < q.length → P (gd q k)) (fun _ _ _ ha hb h => all_sw ha hb h) _ i l rfl hi h
end
end Go.Proofs.Ytkegdcnnankokaa.Hp
namespace Go.Proofs.Ytkegdcnnankokaa.Hp
section
variable {α : Type} [Inhabited α]
theorem gd_take (l : List (It α)) (m k : Nat) : gd (l.take m) k = if k < m then gd l k else default := by
  unfold gd
  simp only [List.getD_eq_getElem?_getD, List.getElem?_take]
  split <;> rfl
theorem apart_take {l : List (It α)} (h : Apart l) (m : Nat) : Apart (l.take m) := by
  intro i j hi hj e
  rw [List.length_take] at hi hj
  rw [gd_take, gd_take, if_pos (by omega), if_pos (by omega)] at e
  exact h i j (by omega) (by omega) e
theorem gd_cut {l : List (It α)} {i : Nat} (hi : i < l.length - 1) (k : Nat) : gd ((l.take (l.length - 1)).set i (gd l (l.length - 1))) k = if k = i then gd l (l.length - 1) else if k < l.length - 1 then gd l k else default := by
  rw [gd_set _ _ _ _ (by rw [List.length_take]; omega), gd_take]
theorem cut_len {l : List (It α)} {i : Nat} : ((l.take (l.length - 1)).set i (gd l (l.length - 1))).length = l.length - 1 := by
  rw [List.length_set, List.length_take]; omega
theorem apart_cut {l : List (It α)} (h : Apart l) {i : Nat} (hi : i < l.length - 1) : Apart ((l.take (l.length - 1)).set i (gd l (l.length - 1))) := by
  intro a b ha hb e
  rw [cut_len] at ha hb
  rw [gd_cut hi, gd_cut hi] at e
  by_cases h1 : a = i
  · rw [if_pos h1] at e
    by_cases h2 : b = i
    · omega
    · rw [if_neg h2, if_pos hb] at e
      have := h _ b (by omega) (by omega) e
      omega
  · rw [if_neg h1, if_pos ha] at e
    by_cases h2 : b = i
    · rw [if_pos h2] at e
      have := h a _ (by omega) (by omega) e
      omega
    · rw [if_neg h2, if_pos hb] at e
      exact h a b (by omega) (by omega) e
end
section
variable {α : Type} [Inhabited α] [DecidableEq α]
theorem posO_eq {l : List (It α)} (h : Apart l) {i : Nat} (hi : i < l.length) {z : α} (e : (gd l i).f2 = z) : posO l z = some (i : Int) := e ▸ posO_some h hi
def posN (l : List (It α)) (y : α) : Nat := ((posO l y).getD 0).toNat
def removeP (l : List (It α)) (i : Nat) : List (It α) :=
  if i < l.length - 1 then downP (upP ((l.take (l.length - 1)).set i (gd l (l.length - 1))) i) (posN (upP ((l.take (l.length - 1)).set i (gd l (l.length - 1))) i) (gd l (l.length - 1)).f2) else l.take (l.length - 1)
theorem full_take {l : List (It α)} (h : Apart l) {g : α → Option Int} (hg : AtFull g l) {i : Nat} (hi : i < l.length) (hl : ¬ i < l.length - 1) : AtFull (gset g (gd l i).f2 none) (l.take (l.length - 1)) := by
  intro z
  have hi2 : i = l.length - 1 := by omega
  unfold gset
  by_cases e : z = (gd l i).f2
  · rw [if_pos e]
    symm
    rw [posO_none]
    intro k hk
    rw [List.length_take] at hk
    rw [gd_take, if_pos (by omega), e]
    intro q
    have := h k i (by omega) hi q
    omega
  · rw [if_neg e, hg z]
    cases hq : posO l z with
    | none =>
      symm
      rw [posO_none] at hq ⊢
      intro k hk
      rw [List.length_take] at hk
      rw [gd_take, if_pos (by omega)]
      exact hq k (by omega)
    | some n =>
      obtain ⟨k, rfl, hk, hz⟩ := posO_of hq
      have hki : k ≠ i := fun q => e (by rw [← hz, q])
      exact (posO_eq (apart_take h _) (by rw [List.length_take]; omega) (by rw [gd_take, if_pos (by omega)]; exact hz)).symm
theorem full_cut {l : List (It α)} (h : Apart l) {g : α → Option Int} (hg : AtFull g l) {i : Nat} (hi : i < l.length - 1) : AtFull (gset (gset g (gd l i).f2 none) (gd l (l.length - 1)).f2 (some (i : Int))) ((l.take (l.length - 1)).set i (gd l (l.length - 1))) := by
  intro z
  unfold gset
  by_cases e1 : z = (gd l (l.length - 1)).f2
  · rw [if_pos e1]
    exact (posO_eq (apart_cut h hi) (i := i) (by rw [cut_len]; exact hi) (by rw [gd_cut hi, if_pos rfl]; exact e1.symm)).symm
  · rw [if_neg e1]
    by_cases e : z = (gd l i).f2
    · rw [if_pos e]
      symm
      rw [posO_none]
      intro k hk
      rw [cut_len] at hk
      rw [gd_cut hi]
      split
      · exact fun q => e1 q.symm
      · rename_i h1
        rw [e]
        intro q
        exact h1 (h k i (by omega) (by omega) q)
    · rw [if_neg e, hg z]
      cases hq : posO l z with
      | none =>
        symm
        rw [posO_none] at hq ⊢
        intro k hk
        rw [cut_len] at hk
        rw [gd_cut hi]
        split
        · exact fun q => e1 q.symm
        · exact hq k (by omega)
      | some n =>
        obtain ⟨k, rfl, hk, hz⟩ := posO_of hq
        have hki : k ≠ i := fun q => e (by rw [← hz, q])
        have hkl : k ≠ l.length - 1 := fun q => e1 (by rw [← hz, q])
        exact (posO_eq (apart_cut h hi) (i := k) (by rw [cut_len]; omega) (by rw [gd_cut hi, if_neg hki, if_pos (by omega)]; exact hz)).symm
theorem pos_in {l : List (It α)} (h : Apart l) {i : Nat} (hi : i < l.length) {z : α} (e : (gd l i).f2 = z) : posN l z = i := by
  unfold posN
  rw [posO_eq h hi e]
  rfl
/-- what was in the list is somewhere behind. -/
theorem upP_has {l : List (It α)} {i : Nat} (hi : i < l.length) {z : α} (h : ∃ k, k < l.length ∧ (gd l k).f2 = z) : ∃ k, k < (upP l i).length ∧ (gd (upP l i) k).f2 = z := by
  refine upP_keep (fun q => ∃ k, k < q.length ∧ (gd q k).f2 = z) (fun q a b ha hb hh => ?_) i l hi h
  obtain ⟨k, hk, hz⟩ := hh
  by_cases h1 : k = a
  · exact ⟨b, by rw [sw_len]; exact hb, by rw [gd_sw ha hb, if_pos rfl, ← h1]; exact hz⟩
  · by_cases h2 : k = b
    · refine ⟨a, by rw [sw_len]; exact ha, ?_⟩
      rw [gd_sw ha hb]
      by_cases h3 : a = b
      · omega
      · rw [if_neg h3, if_pos rfl, ← h2]; exact hz
    · exact ⟨k, by rw [sw_len]; exact hk, by rw [gd_sw ha hb, if_neg h2, if_neg h1]; exact hz⟩
end
end Go.Proofs.Ytkegdcnnankokaa.Hp
namespace Go.Proofs.Ytkegdcnnankokaa.Hp
section
variable {α : Type} [Inhabited α] [DecidableEq α]
theorem removeP_len {l : List (It α)} (h : Apart l) {i : Nat} (hi : i < l.length) : (removeP l i).length = l.length - 1 := by
  unfold removeP
  split
  · rename_i h1
    have hc : i < ((l.take (l.length - 1)).set i (gd l (l.length - 1))).length := by rw [cut_len]; exact h1
    obtain ⟨k, hk, hky⟩ := upP_has hc (z := (gd l (l.length - 1)).f2) ⟨i, hc, by rw [gd_cut h1, if_pos rfl]⟩
    rw [pos_in (upP_apart hc (apart_cut h h1)) hk hky, downP_len _ _ hk, upP_len _ _ hc, cut_len]
  · rw [List.length_take]; omega
def popP (l : List (It α)) : List (It α) := if l.length = 0 then l else removeP l 0
def dueF (now : Int) : Nat → List (It α) → List α × List (It α)
  | 0, l => ([], l)
  | f + 1, l => if l.length = 0 ∨ (gd l 0).f0 > now then ([], l) else ((gd l 0).f2 :: (dueF now f (removeP l 0)).1, (dueF now f (removeP l 0)).2)
def dueP (now : Int) (l : List (It α)) : List α × List (It α) := dueF now l.length l
theorem dueP_stop {now : Int} {l : List (It α)} (h : l.length = 0 ∨ (gd l 0).f0 > now) : dueP now l = ([], l) := by
  unfold dueP
  cases hl : l.length with
  | zero => rfl
  | succ m =>
    unfold dueF
    rw [if_pos h]
theorem dueP_go {now : Int} {l : List (It α)} (ha : Apart l) (h1 : 0 < l.length) (h2 : ¬ (gd l 0).f0 > now) : dueP now l = ((gd l 0).f2 :: (dueP now (removeP l 0)).1, (dueP now (removeP l 0)).2) := by
  have hlen := removeP_len ha h1
  unfold dueP
  obtain ⟨m, hm⟩ : ∃ m, l.length = m + 1 := ⟨l.length - 1, by omega⟩
  rw [hlen, hm]
  show dueF now (m + 1) l = _
  rw [dueF, if_neg (by rintro (q | q); omega; exact h2 q)]
  rfl
end
end Go.Proofs.Ytkegdcnnankokaa.Hp
