/-
A heap and the document's list, side by side: what stays.
-/
import Derived.Test.YtkegdcnnankokaaHiAll
import Derived.Test.YtkegdcnnankokaaHiDrop
import Derived.Test.YtkegdcnnankokaaHeapDropLaw
import Derived.Test.YtkegdcnnankokaaHeapTie
namespace Go.Proofs.Ytkegdcnnankokaa.Hpi
set_option linter.unusedVariables false
set_option linter.unusedSimpArgs false
open Go.Maps Go.RowKit Go.Proofs.YtkegdcnnankokaaW.PrintWords Go.Proofs.YtkegdcnnankokaaW.PrintLast Go.Proofs.YtkegdcnnankokaaW.PrintMore Hp Go.Proofs.Ytkegdcnnankokaa.PHpb
abbrev SR := S130
abbrev K130 : Kd SR := k130
def bnd : Nat → Nat
  | 0 => 0
  | k + 1 => bnd k + k * (2 * k + 3) + 2 * k + 4
theorem bnd_up : ∀ {a b : Nat}, a ≤ b → bnd a ≤ bnd b
  | a, 0, h => by rw [Nat.le_zero.1 h]; exact Nat.le_refl _
  | a, b + 1, h => by
    by_cases e : a = b + 1
    · rw [e]; exact Nat.le_refl _
    · have := bnd_up (show a ≤ b by omega)
      show bnd a ≤ bnd b + b * (2 * b + 3) + 2 * b + 4
      omega
theorem bnd_le {k : Nat} (h : k ≤ 90) : bnd k ≤ 900000 := Nat.le_trans (bnd_up h) (by decide +kernel)
/-- a row that is only read, in blocks of nobody's. -/
def DocR (w0 w : World) (F : Nat → Prop) (A : Option Addr) (n c : Nat) (ls : List SR) : Prop := n = ls.length ∧ n ≤ c ∧ ∃ P : Nat → Prop, (∀ k, P k → w0.heap.size ≤ k ∧ k < w.heap.size ∧ ¬ F k) ∧ ∀ W', (∀ k, P k → W'.heap[k]? = w.heap[k]?) → Kd.C K130 W' A n ls
section
variable {w0 w w1 : World} {F F' G : Nat → Prop} {A : Option Addr} {n c m : Nat} {ls : List SR}
theorem DocR.nil (w0 w : World) (F : Nat → Prop) : DocR w0 w F none 0 0 [] := ⟨rfl, Nat.le_refl _, fun _ => False, fun _ q => q.elim, fun _ _ => ⟨rfl, by simp, fun h => absurd h (by simp)⟩⟩
theorem DocR.reads (h : DocR w0 w F A n c ls) : Kd.C K130 w A n ls := by obtain ⟨_, _, P, _, hC⟩ := h; exact hC w (fun _ _ => rfl)
theorem DocR.step (h : DocR w0 w F A n c ls) (hF : Fr G w w1) (hG : ∀ k, G k → F k ∨ w.heap.size ≤ k) (hF' : ∀ k, F' k → F k ∨ w.heap.size ≤ k) : DocR w0 w1 F' A n c ls := by
  obtain ⟨h1, h2, P, hP, hC⟩ := h
  refine ⟨h1, h2, P, fun k q => ⟨(hP k q).1, Nat.lt_of_lt_of_le (hP k q).2.1 hF.size, fun f => (hF' k f).elim (hP k q).2.2 (fun r => absurd (hP k q).2.1 (Nat.not_lt.2 r))⟩, fun W' hW => hC W' (fun k q => (hW k q).trans (hF.block k (hP k q).2.1 (fun g => (hG k g).elim (hP k q).2.2 (fun r => absurd (hP k q).2.1 (Nat.not_lt.2 r)))))⟩
theorem DocR.behind (h : DocR w0 w F A n c ls) (hb : Below w.heap.size w w1) : DocR w0 w1 F A n c ls := h.step (Fr.of_below (fun _ => False) hb) (fun _ q => q.elim) (fun _ q => .inl q)
theorem DocR.drop (h : DocR w0 w F A n c ls) (hm : m ≤ n) : DocR w0 w F (if c = m then A else A.map (·.add (m * 2))) (n - m) (c - m) (ls.drop m) := by
  obtain ⟨h1, h2, P, hP, hC⟩ := h
  subst h1
  refine ⟨by rw [List.length_drop], by omega, P, hP, fun W' hW => ?_⟩
  have := Kd.C_drop (hC W' hW) hm h2
  rw [List.length_drop] at this
  exact this
theorem DocR.new {v : Value} (hR : Kd.R K130 130 w1 w.heap.size (fun _ => True) v ls) (h0 : w0.heap.size ≤ w.heap.size) (hF : ∀ k, F k → k < w.heap.size) : ∃ A c, v = .slice A ls.length c ∧ DocR w0 w1 F A ls.length c ls := by
  obtain ⟨A, c, rfl⟩ := Kd.R_slice hR
  have ht := Kd.R_tight rfl hR
  refine ⟨A, c, rfl, rfl, (Kd.R_reads' hR).2.1, fun k => some k = (Value.slice A ls.length c).ownBlock, fun k q => ?_, fun W' hW => (Kd.R_reads' (Kd.R_move ht (w1 := W') hW)).2.2⟩
  have h1 := Kd.R_base hR k q.symm
  exact ⟨Nat.le_trans h0 h1, Kd.R_lt hR k q.symm, fun f => absurd (hF k f) (Nat.not_lt.2 h1)⟩
end
/-- the heap and the document's list, made since w0. -/
structure HS (w0 w : World) (h kk : Nat) (F : Nat → Prop) (l s : List (It Int)) (seq : Nat) (A : Option Addr) (n c : Nat) : Prop where
  hp : HpAt w h F (bnd kk) kk l seq
  rep : Rep l s
  sq : ∀ a ∈ s, a.f1 < (seq : Int)
  low : ∀ k, F k → w0.heap.size ≤ k
  bel : Below w0.heap.size w0 w
  doc : DocR w0 w F A n c (s.map toR)
section
variable {w0 w w1 : World} {h kk seq n c : Nat} {F : Nat → Prop} {l s : List (It Int)} {A : Option Addr}
theorem HS.behind (H : HS w0 w h kk F l s seq A n c) (hb : Below w.heap.size w w1) : HS w0 w1 h kk F l s seq A n c :=
  ⟨H.hp.behind hb, H.rep, H.sq, H.low, H.bel.trans (hb.mono H.bel.size), H.doc.behind hb⟩
theorem HS.len (H : HS w0 w h kk F l s seq A n c) : n = s.length := by rw [H.doc.1, List.length_map]
theorem HS.sk (H : HS w0 w h kk F l s seq A n c) : s.length ≤ kk := by rw [← H.rep.len]; exact H.hp.1
theorem HS.find (H : HS w0 w h kk F l s seq A n c) (x : Int) : (atP x (s.map toR) 0 = -1 ∧ hasX l x = false ∧ ∀ e ∈ s, e.f2 ≠ x) ∨ ∃ (s1 s2 : List (It Int)) (a : It Int) (i : Nat), s = s1 ++ a :: s2 ∧ a.f2 = x ∧ atP x (s.map toR) 0 = (s1.length : Int) ∧ i < l.length ∧ gd l i = a ∧ hasX l x = true := by
  rcases at_tie (x := x) s 0 with ⟨h1, h2⟩ | ⟨s1, s2, a, h1, h2, _, h4⟩
  · refine .inl ⟨h1, ?_, h2⟩
    rw [rep_has H.rep x, List.any_eq_false]
    intro e he
    simpa using h2 e he
  · right
    obtain ⟨i, hi, hg⟩ := (H.rep.mem a).2 (by rw [h1]; simp)
    refine ⟨s1, s2, a, i, h1, h2, by simpa using h4, hi, hg, (has_in H.hp.2.2.1 hi (by rw [hg]; exact h2)).2⟩
end
end Go.Proofs.Ytkegdcnnankokaa.Hpi
