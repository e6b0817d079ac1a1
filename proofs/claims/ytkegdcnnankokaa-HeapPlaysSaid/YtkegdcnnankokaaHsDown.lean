import Derived.Test.YtkegdcnnankokaaHeapSpec
import Derived.Test.YtkegdcnnankokaaFr
import Derived.Test.YtkegdcnnankokaaPHpax0
import Derived.Maps.OwnSet
import Derived.WalkKit
import Derived.StillTailTactics
import Derived.Test.YtkegdcnnankokaaPureKit
import Derived.Test.YtkegdcnnankokaaPHpax1
import Derived.Deep.DeepCutAuto
/-
heap.Heap[string]: how it lies in memory; set walked.
-/
namespace Go.Proofs.Ytkegdcnnankokaa.Hps
set_option linter.unusedVariables false
set_option linter.unusedSimpArgs false
open Go.Maps Go.RowKit Go.Proofs.YtkegdcnnankokaaW.PrintWords Go.Proofs.YtkegdcnnankokaaW.PrintLast Go.Proofs.YtkegdcnnankokaaW.PrintMore Hp
attribute [local go_sem] max2_int min2_int
theorem infoI : (Try.prog.info? 148).map (fun i => (i.zero, i.size, i.bytes)) = some (some (.agg #[(.int .i64 0), (.int .i64 0), (.string ⟨#[]⟩)]), 3, 32) := by kernel_rfl
def zI : It ByteArray := default
def kI : Kd (It ByteArray) := Kd.iso (Kd.pair (Kd.int .i64) (Kd.pair (Kd.int .i64) Kd.string)) (fun x : It ByteArray => (x.f0, x.f1, x.f2))
theorem kI_open {w : World} {x : It ByteArray} {cs : List Value} (h : kI.K w x cs) : cs = [.int .i64 x.f0, .int .i64 x.f1, .string x.f2] := by
  obtain ⟨_, _, rfl, rfl, ⟨_, _, rfl, rfl, rfl⟩⟩ := h
  exact rfl
theorem kI_openM {w : World} {base : Nat} {ok : Nat → Prop} {x : It ByteArray} {cs : List Value} (h : kI.M w base ok x cs) : cs = [.int .i64 x.f0, .int .i64 x.f1, .string x.f2] := by
  obtain ⟨_, _, rfl, rfl, ⟨_, _, rfl, rfl, rfl⟩⟩ := h
  exact rfl
theorem kI_mk (w : World) (x : It ByteArray)  : kI.K w x [.int .i64 x.f0, .int .i64 x.f1, .string x.f2] := ⟨[.int .i64 x.f0], [.int .i64 x.f1, .string x.f2], rfl, rfl, ⟨[.int .i64 x.f1], [.string x.f2], rfl, rfl, rfl⟩⟩
theorem kI_mkM (w : World) (base : Nat) (ok : Nat → Prop) (x : It ByteArray)  : kI.M w base ok x [.int .i64 x.f0, .int .i64 x.f1, .string x.f2] := ⟨[.int .i64 x.f0], [.int .i64 x.f1, .string x.f2], rfl, rfl, ⟨[.int .i64 x.f1], [.string x.f2], rfl, rfl, rfl⟩⟩
/-- of its kind. -/
def wfk (x : ByteArray) : Prop := x.size ≤ maxLen
theorem lawK : Keyed Try.prog 9 := string_keyed Try.underlying9
theorem zeroV (w : World) : (zeroValue 3).run Try.prog w = .ok (.int .i64 0) w := by kernel_rfl
theorem key_of {x : ByteArray} (h : wfk x) : keyOf Try.prog 9 (.string x) = some (Lit.string (x).data.toList) := by
  have hk := Try.underlying9
  simp [keyOf, mapKey, hk, wfk] at h ⊢
  omega
theorem lit_inj {x y : ByteArray} (h : (Lit.string (x).data.toList) = (Lit.string (y).data.toList)) : x = y := by
  injection h with h
  exact ByteArray.ext (Array.toList_inj.1 h)
/-- the map tells g. -/
def Idx (D : DataW Unit) (g : ByteArray → Option Int) : Prop := IsMap D ∧ ∀ y, Maps.has D (Lit.string (y).data.toList) = (g y).isSome ∧ D.atKey (Lit.string (y).data.toList) (.lit (.int .i64 0)) = .lit (.int .i64 ((g y).getD 0))
theorem idx_put {D : DataW Unit} {g : ByteArray → Option Int} (h : Idx D g) (x : ByteArray) (n : Int) : Idx (D.put (Lit.string (x).data.toList) (.lit (.int .i64 n))) (gset g x (some n)) := by
  obtain ⟨hm, h⟩ := h
  refine ⟨hm.put _ _, fun y => ?_⟩
  have ht : WideAt.IsKeyLit (Lit.string (x).data.toList) := trivial
  by_cases e : y = x
  · subst e
    rw [has_put_same hm ht, atKey_put_same hm ht]
    simp [gset]
  · have hne : (Lit.string (y).data.toList) ≠ (Lit.string (x).data.toList) := fun q => e (lit_inj q)
    rw [has_put_other hne, atKey_put_other hne]
    simpa [gset, e] using h y
theorem idx_del {D : DataW Unit} {g : ByteArray → Option Int} (h : Idx D g) (x : ByteArray) : Idx (D.del (Lit.string (x).data.toList)) (gset g x none) := by
  obtain ⟨hm, h⟩ := h
  refine ⟨hm.del _, fun y => ?_⟩
  by_cases e : y = x
  · subst e
    rw [has_del_same, atKey_del_same]
    simp [gset]
  · have hne : (Lit.string (y).data.toList) ≠ (Lit.string (x).data.toList) := fun q => e (lit_inj q)
    rw [has_del_other hne, atKey_del_other hne]
    simpa [gset, e] using h y
structure Raw (w : World) (h : Nat) (v : Value) (mb n : Nat) (seq : Int) (its : List (It ByteArray)) (g : ByteArray → Option Int) : Prop where
  hd : w.heap[h]? = some (.cells #[v, .map (some mb), .int .i64 seq] 123 (0, 0))
  row : Kd.R kI 148 w 0 (fun k => k ≠ h ∧ k ≠ mb) v its
  map : ∃ D : DataW Unit, w.ownsMap Try.prog 9 (plainElem Try.prog 3) mb n D ∧ Idx D g
  ne : h ≠ mb
def foot (h : Nat) (v : Value) (mb : Nat) : Nat → Prop := fun k => k = h ∨ k = mb ∨ v.ownBlock = some k
section
variable {w : World} {h mb n : Nat} {v : Value} {seq : Int} {its : List (It ByteArray)} {g : ByteArray → Option Int}
theorem Raw.lt (R : Raw w h v mb n seq its g) : ∀ k, foot h v mb k → k < w.heap.size := by
  rintro k (rfl | rfl | hk)
  · exact (Array.getElem?_eq_some_iff.1 R.hd).1
  · obtain ⟨D, hD, _⟩ := R.map; exact hD.lt
  · exact Kd.R_lt R.row k hk
theorem Raw.kept {F : Nat → Prop} {w1 : World} (R : Raw w h v mb n seq its g) (hF : Fr F w w1) (hn : ∀ k, foot h v mb k → ¬ F k) : Raw w1 h v mb n seq its g := by
  obtain ⟨D, hD, hI⟩ := R.map
  refine ⟨hF.heap R.hd (hn h (.inl rfl)), ?_, ⟨D, hF.map hD (hn mb (.inr (.inl rfl))), hI⟩, R.ne⟩
  have hT := Kd.R_tight rfl R.row
  exact Kd.R_mono (Kd.R_step hT (fun k hk hlt => hF.block k hlt (hn k (.inr (.inr hk.symm))))) (fun k hk => R.row.1 k hk.symm)
theorem Raw.drew (R : Raw w h v mb n seq its g) : Raw w.drew h v mb n seq its g := R.kept (F := fun _ => False) ((Fr.refl _ w).drew) (fun _ _ q => q)
theorem Raw.behind {w1 : World} (R : Raw w h v mb n seq its g) (hb : Below w.heap.size w w1) : Raw w1 h v mb n seq its g := R.kept (Fr.of_below (fun _ => False) hb) (fun _ _ q => q)
end
end Go.Proofs.Ytkegdcnnankokaa.Hps

/-
heap.Heap[string]'s set, walked.
-/
namespace Go.Proofs.Ytkegdcnnankokaa.Hps
set_option linter.unusedVariables false
set_option linter.unusedSimpArgs false
open Go.Maps Go.RowKit Go.Proofs.YtkegdcnnankokaaW.PrintWords Go.Proofs.YtkegdcnnankokaaW.PrintLast Go.Proofs.YtkegdcnnankokaaW.PrintMore Hp
theorem region_tail {P : Program} {id : Nat} {Q : Exit → Act → World → Prop} {a : Act} {w : World} {l : List Oper} (n : Nat) (hm : P.follows .mixedOrders = true) (hB : Region.lexTailB .any l.toArray n = true)
    (W : World) (hW : W = w.drew) (h : wpStill P l.toArray W (fun a' => wpList P l.toArray Q (l.drop n) a' W) (l.take n) a) : (Code.region id l.toArray true).wp P Q a w := by
  subst hW; exact wp_region_still_tail n hm hB h
theorem wf_small {i : Nat} (h : i ≤ 1000000) : (Lit.int .i64 (i : Int)).wf = true := by
  have h1 : IntKind.i64.min = -9223372036854775808 := by decide
  have h2 : IntKind.i64.max = 9223372036854775807 := by decide
  show (decide (IntKind.i64.min ≤ (i : Int)) && decide ((i : Int) ≤ IntKind.i64.max)) = true
  rw [h1, h2, Bool.and_eq_true]
  exact ⟨decide_eq_true (by omega), decide_eq_true (by omega)⟩
set_option maxRecDepth 100000 in
set_option maxHeartbeats 4000000 in
theorem set_any {w : World} {h mb n : Nat} {v : Value} {seq : Int} {its : List (It ByteArray)} {g : ByteArray → Option Int} (R : Raw w h v mb n seq its g) {i : Nat} (hi : i < its.length) (x : It ByteArray) (hx : wfk x.f2) (hn : n ≤ 1000000) (hl : its.length ≤ 1000000) :
    Calls Try.prog 99 #[.pointer (some ⟨h, 0, none⟩), .int .i64 (i : Int), .agg #[.int .i64 x.f0, .int .i64 x.f1, .string x.f2]] w fun e w' => e = .returned (.tuple #[]) ∧ Raw w' h v mb (n + 1) seq (its.set i x) (gset g x.f2 (some (i : Int))) ∧ Fr (foot h v mb) w w' := by
  obtain ⟨q, cap, rfl, _, hql, cells, hqc⟩ := Kd.R_form R.row (by omega)
  have hq := R.row.1 q (by simp [Value.ownBlock])
  have hn0 : (0 : Int) ≤ (i : Int) ∧ (i : Int) < (its.length : Int) := by omega
  have hn0b := eq_true hn0
  go_enter Try.func99, Try.ntmps99
  go_wp2
  obtain ⟨W, hW⟩ : ∃ W, w.alloc (.cells #[.int .i64 x.f0, .int .i64 x.f1, .string x.f2] 148) = W := ⟨_, rfl⟩
  obtain ⟨bx, hbx⟩ : ∃ bx, w.heap.size = bx := ⟨_, rfl⟩
  have FW : Fr (fun _ => False) w W := hW ▸ Fr.of_below _ ((Below.refl w.heap.size w).alloc (Nat.le_refl _) _)
  have RW := R.kept FW (fun _ _ q => q)
  have hxb : W.heap[bx]? = some (.cells #[.int .i64 x.f0, .int .i64 x.f1, .string x.f2] 148 (0, 0)) := by rw [← hW, ← hbx]; exact Array.getElem?_push_size
  have b0 : W.cell? ⟨bx, 0, none⟩ = some (.int .i64 x.f0) := cell_of_heap hxb rfl
  have b1 : W.cell? ⟨bx, 1, none⟩ = some (.int .i64 x.f1) := cell_of_heap hxb rfl
  have b2 : W.cell? ⟨bx, 2, none⟩ = some (.string x.f2) := cell_of_heap hxb rfl
  have h0 : W.cell? ⟨h, 0, none⟩ = some (.slice (some ⟨q, 0, none⟩) its.length cap) := cell_of_heap RW.hd rfl
  have h1 : W.cell? ⟨h, 1, none⟩ = some (.map (some mb)) := cell_of_heap RW.hd rfl
  rw [hW, hbx]
  clear hW
  refine region_tail 7 (by kernel_rfl) (by kernel_rfl) _ rfl ?_
  simp only [List.take_succ_cons, List.take_zero, List.drop_succ_cons, List.drop_zero]
  repeat still_step
  refine wpStill_nil ?_
  obtain ⟨c, hcl, _, hcc, _⟩ := Kd.R_elem RW.row zI (i : Int) (by omega) (by omega)
  obtain ⟨c0, c1, c2, rfl⟩ : ∃ c0 c1 c2, c = [c0, c1, c2] := by
    match c, hcl with
    | [c0, c1, c2], _ => exact ⟨_, _, _, rfl⟩
  have hR1 := RW.row
  have hinf : (Try.prog.info? 148).map (·.size) = some 3 := by kernel_rfl
  refine Kd.R_store kI (w0 := W) 0 rfl rfl 148 (.tmp 12) (.tmp 11) rfl 148 (i : Int) 0 its x (.agg #[.int .i64 x.f0, .int .i64 x.f1, .string x.f2]) [.int .i64 x.f0, .int .i64 x.f1, .string x.f2] [c0, c1, c2] (fun k => k ≠ h ∧ k ≠ mb) (fun _ => False) rfl rfl rfl rfl hinf (by simp [Value.oneCell']) (show Kd.R kI 148 W.drew 0 _ _ _ from hR1) (by omega) (by omega) rfl hcc (Nat.le_refl 3) (kI_mkM _ _ _ x) (fun _ hk => hk.elim) ⟨rfl, rfl, rfl, Nat.le_refl _, fun _ hk => absurd hk (Nat.not_lt_zero _)⟩ ?_
  intro w1 hrow1 hB1 hg1
  have F1 : Fr (foot h (.slice (some ⟨q, 0, none⟩) its.length cap) mb) W w1 := Fr.of_grown (w := W) ⟨hg1.os, hg1.tape, hg1.output, hg1.size, hg1.block⟩ (fun k hk => .inr (.inr (by simpa [Value.ownBlock] using hk)))
  have G1 : Fr (fun k => k = q) W w1 := Fr.of_grown (w := W) ⟨hg1.os, hg1.tape, hg1.output, hg1.size, hg1.block⟩ (fun k hk => by injection hk with hk; exact hk.symm)
  have hd1 := G1.heap RW.hd (fun e => hq.1 e.symm)
  obtain ⟨D, hD, hI⟩ := RW.map
  have hD1 := G1.map hD (fun e => hq.2 e.symm)
  have k1 : w1.cell? ⟨h, 1, none⟩ = some (.map (some mb)) := cell_of_heap hd1 rfl
  have e2 : w1.cell? ⟨bx, 2, none⟩ = some (.string x.f2) := G1.cell b2 (fun e => by have : bx = q := e; omega)
  have hkx := key_of hx
  go_wp2
  refine region_tail 7 (by kernel_rfl) (by kernel_rfl) _ rfl ?_
  simp only [List.take_succ_cons, List.take_zero, List.drop_succ_cons, List.drop_zero]
  repeat still_step
  refine wpStill_nil ?_
  refine wpList_mapUpdate_own w1.drew rfl (.tmp 16) (.tmp 18) (.tmp 19) 121 rfl 9 3 lawK Try.underlying121 (plainElem Try.prog 3) mb n D rfl hD1.drew (by unfold maxLen; omega) _ _ (Lit.string (x.f2).data.toList) rfl rfl hkx (.lit (.int .i64 (i : Int))) [] (plainElem_int Try.underlying3 (wf_small (by omega))) ?_
  intro w2 hD2 hg2
  go_wp2
  go_end0
  have hg2' : Fr (fun k => k = mb) w1 w2 := Fr.of_grown (w := w1) ⟨hg2.os, hg2.tape, hg2.output, hg2.size, hg2.block⟩ (fun k hk => by injection hk with hk; exact hk.symm)
  have hT := Kd.R_tight rfl hrow1
  refine ⟨rfl, ⟨hg2'.heap hd1 R.ne, ?_, ⟨_, hD2, idx_put hI x.f2 (i : Int)⟩, R.ne⟩, ?_⟩
  · have := Kd.R_step hT (fun k hk hlt => hg2'.block k hlt (fun e => hq.2 (by have : k = mb := e; have h8 : some k = some q := hk; injection h8; omega)))
    rw [Int.toNat_natCast] at this
    exact Kd.R_mono this (fun k hk => by have h8 : some k = some q := hk; injection h8 with h8; subst h8; exact hq)
  · have F0 : Fr (foot h (.slice (some ⟨q, 0, none⟩) its.length cap) mb) w W := FW.mono (fun _ _ q => q.elim)
    refine (F0.trans F1 (fun _ _ q => q)).trans hg2' (fun k _ q => .inr (.inl q))
end Go.Proofs.Ytkegdcnnankokaa.Hps

/-
heap.Heap[string]'s up, walked.
-/
namespace Go.Proofs.Ytkegdcnnankokaa.Hps
set_option linter.unusedVariables false
set_option linter.unusedSimpArgs false
open Go.Maps Go.RowKit Go.Proofs.YtkegdcnnankokaaW.PrintWords Go.Proofs.YtkegdcnnankokaaW.PrintLast Go.Proofs.YtkegdcnnankokaaW.PrintMore Hp
def cmpP (a b : Int) : Int := if a < b then -1 else if a > b then 1 else 0
theorem compare_f (a b : Int) : PHpa.cmp_Compare_int.f a b = some (cmpP a b) := by
  unfold PHpa.cmp_Compare_int.f PHpa.cmp_isNaN_int.f cmpP
  by_cases h : a < b
  · simp [h]
  · by_cases h2 : a > b
    · simp [h, h2]
    · simp [h, h2]
theorem cmpP_3 (a b : Int) : cmpP a b = -1 ∨ cmpP a b = 0 ∨ cmpP a b = 1 := by
  unfold cmpP
  split
  · simp
  · split <;> simp
theorem or_f {p q : Int} (hp : p = -1 ∨ p = 0 ∨ p = 1) (hq : q = -1 ∨ q = 0 ∨ q = 1) : PHpa.cmp_Or_int.f 4 [p, q] = some (if p = 0 then q else p) := by
  rcases hp with rfl | rfl | rfl <;> rcases hq with rfl | rfl | rfl <;> decide +kernel
theorem ahead_f (a b : It ByteArray) : PHpa.heap_ahead_string.f 4 a.f0 a.f1 a.f2 b.f0 b.f1 b.f2 = some (aheadP a b) := by
  unfold PHpa.heap_ahead_string.f
  rw [compare_f, compare_f]
  simp only [Option.bind_some]
  rw [or_f (cmpP_3 _ _) (cmpP_3 _ _)]
  simp only [Option.bind_some]
  congr 1
  unfold aheadP cmpP lt
  by_cases h1 : a.f0 < b.f0
  · simp [h1]
  · by_cases h2 : a.f0 > b.f0
    · simp [h1, h2]
      omega
    · have h3 : a.f0 = b.f0 := by omega
      by_cases h4 : a.f1 < b.f1
      · simp [h3, h4]
      · by_cases h5 : a.f1 > b.f1
        · simp [h3, h4, h5]
        · simp [h3, h4, h5]
theorem ahead_any (a b : It ByteArray) (w : World) : Calls Try.prog 98 #[.agg #[.int .i64 a.f0, .int .i64 a.f1, .string a.f2], .agg #[.int .i64 b.f0, .int .i64 b.f1, .string b.f2]] w fun e w' => e = .returned (.int .i64 (aheadP a b)) ∧ Below w.heap.size w w' :=
  PHpa.heap_ahead_string.calls 4 a.f0 a.f1 a.f2 b.f0 b.f1 b.f2 (aheadP a b) w (ahead_f a b)
theorem ahead_lt {a b : It ByteArray} (h : lt a b) : decide (aheadP a b < 0) = true := by unfold aheadP; rw [if_pos h]; rfl
theorem ahead_nlt {a b : It ByteArray} (h : ¬ lt a b) : decide (aheadP a b < 0) = false := by unfold aheadP; rw [if_neg h]; split <;> rfl
/-- an item's cells. -/
theorem Raw.at3 {w : World} {h mb n q cap m : Nat} {seq : Int} {its : List (It ByteArray)} {g : ByteArray → Option Int} (R : Raw w h (.slice (some ⟨q, 0, none⟩) m cap) mb n seq its g) {i : Nat} (hi : i < its.length) :
    w.cell? ⟨q, i * 3, none⟩ = some (.int .i64 (gd its i).f0) ∧ w.cell? ⟨q, i * 3 + 1, none⟩ = some (.int .i64 (gd its i).f1) ∧ w.cell? ⟨q, i * 3 + 2, none⟩ = some (.string (gd its i).f2) := by
  have hm := (Kd.R_reads' R.row).1
  obtain ⟨c, _, hM, hcc, _⟩ := Kd.R_elem R.row zI (i : Int) (by omega) (by omega)
  obtain rfl := kI_openM hM
  rw [Int.toNat_natCast] at hcc
  exact ⟨hcc 0 _ rfl, hcc 1 _ rfl, hcc 2 _ rfl⟩
theorem par_num {j p : Nat} (h0 : 0 < j) (hl : j ≤ 1000000) (hp : (j - 1) / 2 = p) : ∃ jm : Int, wrap64 ((j : Int) - 1) = jm ∧ wrap64 (Int.tdiv jm 2) = (p : Int) ∧ IntKind.i64.wrap ((j : Int) - 1) = jm ∧ IntKind.i64.wrap (Int.tdiv jm 2) = (p : Int) := by
  have m1 : wrap64 ((j : Int) - 1) = ((j - 1 : Nat) : Int) := by rw [wrap_nat (by omega) (by omega)]; omega
  have m2 : wrap64 (Int.tdiv ((j - 1 : Nat) : Int) 2) = (p : Int) := by
    have : Int.tdiv ((j - 1 : Nat) : Int) 2 = (((j - 1) / 2 : Nat) : Int) := rfl
    rw [this, hp]; exact wrap_nat (by omega) (by omega)
  exact ⟨_, m1, m2, (i64_w _).trans m1, (i64_w _).trans m2⟩
theorem le_a {n m i j : Nat} (h : n + m + 1 ≤ 1000000) (hi : i < m) (hj : j ≤ i) : j ≤ 1000000 := by omega
theorem le_b {n n' m i j : Nat} (h : n + m + 1 ≤ 1000000) (hi : i < m) (hj : n' + j ≤ n + i) : n' ≤ 1000000 := by omega
theorem le_c {n m : Nat} (h : n + m + 1 ≤ 1000000) : m ≤ 1000000 := by omega
set_option maxRecDepth 100000 in
set_option maxHeartbeats 8000000 in
theorem up_any {w : World} {h mb n : Nat} {v : Value} {seq : Int} {its : List (It ByteArray)} {g : ByteArray → Option Int} (R : Raw w h v mb n seq its g) {i : Nat} (hi : i < its.length) (hA : Apart its) (hG : AtBut g its (gd its i).f2) (hwf : ∀ j, j < its.length → wfk (gd its j).f2) (hn : n + its.length + 1 ≤ 1000000) :
    Calls Try.prog 85 #[.pointer (some ⟨h, 0, none⟩), .int .i64 (i : Int)] w fun e w' => e = .returned (.tuple #[]) ∧ ∃ n' g', n' ≤ n + its.length + 1 ∧ Raw w' h v mb n' seq (upP its i) g' ∧ AtFull g' (upP its i) ∧ Fr (foot h v mb) w w' := by
  obtain ⟨q, cap, rfl, _, hql, cells, hqc⟩ := Kd.R_form R.row (by omega)
  have hq := R.row.1 q (by simp [Value.ownBlock])
  obtain ⟨x, hx⟩ : ∃ x, gd its i = x := ⟨_, rfl⟩
  obtain ⟨a0, a1, a2⟩ := R.at3 hi
  rw [hx] at a0 a1 a2 hG
  have hn0 : (0 : Int) ≤ (i : Int) ∧ (i : Int) < (its.length : Int) := by omega
  have hn0b := eq_true hn0
  have h0 : w.cell? ⟨h, 0, none⟩ = some (.slice (some ⟨q, 0, none⟩) its.length cap) := cell_of_heap R.hd rfl
  have HWF := Aside0.mk hwf
  have HN := Aside0.mk hn
  clear hwf hn
  go_enter Try.func85, Try.ntmps85
  go_wp2
  obtain ⟨W, hW⟩ : ∃ W, w.alloc (.cells #[.int .i64 x.f0, .int .i64 x.f1, .string x.f2] 148) = W := ⟨_, rfl⟩
  obtain ⟨bx, hbx⟩ : ∃ bx, w.heap.size = bx := ⟨_, rfl⟩
  have FW : Fr (fun _ => False) w W := hW ▸ Fr.of_below _ ((Below.refl w.heap.size w).alloc (Nat.le_refl _) _)
  have RW := R.kept FW (fun _ _ q => q)
  have hxb : W.heap[bx]? = some (.cells #[.int .i64 x.f0, .int .i64 x.f1, .string x.f2] 148 (0, 0)) := by rw [← hW, ← hbx]; exact Array.getElem?_push_size
  have hfx : ¬ foot h (.slice (some ⟨q, 0, none⟩) its.length cap) mb bx := fun hf => by have := R.lt bx hf; omega
  rw [hW, hbx]
  clear hW a0 a1 a2 h0 hn0 hn0b
  have HG := Aside0.mk hG
  have HA := Aside0.mk hA
  clear hG hA
  go_loopw [1] (fun v1 wr => ∃ (j : Nat) (L r : List (It ByteArray)) (g' : ByteArray → Option Int) (n' : Nat), v1 = .int .i64 (j : Int) ∧ j ≤ i ∧ Raw wr h (.slice (some ⟨q, 0, none⟩) its.length cap) mb n' seq r g' ∧ r.set j x = L ∧ gd L j = x ∧ L.length = its.length ∧ Apart L ∧ AtBut g' L x.f2 ∧ upP L j = upP its i ∧ (∀ a, a < L.length → wfk (gd L a).f2) ∧ n' + j ≤ n + i ∧ Fr (foot h (.slice (some ⟨q, 0, none⟩) its.length cap) mb) W wr) (fun v1 _ => match v1 with | .int _ z => z.toNat | _ => 0)
  case atStart => exact ⟨i, its, its, g, n, rfl, Nat.le_refl _, RW, by rw [← hx, gd_at hi, List.set_getElem_self], hx, rfl, HA.out, HG.out, rfl, HWF.out, Nat.le_refl _, Fr.refl _ _⟩
  case round =>
    obtain ⟨j, L, r, g', n', rfl, hj, hR, hrL, hLx, hLl, hLA, hLG, hLU, hLW, hnn, hF⟩ := hrel
    have hrl : r.length = its.length := by rw [← hLl, ← hrL, List.length_set]
    have d0 : wr.cell? ⟨h, 0, none⟩ = some (.slice (some ⟨q, 0, none⟩) its.length cap) := cell_of_heap hR.hd rfl
    have hxr := hF.heap hxb hfx
    have b0 : wr.cell? ⟨bx, 0, none⟩ = some (.int .i64 x.f0) := cell_of_heap hxr rfl
    have b1 : wr.cell? ⟨bx, 1, none⟩ = some (.int .i64 x.f1) := cell_of_heap hxr rfl
    have b2 : wr.cell? ⟨bx, 2, none⟩ = some (.string x.f2) := cell_of_heap hxr rfl
    by_cases hj0 : 0 < j
    · have t1 : decide ((0 : Int) < (j : Int)) = true := by simpa using hj0
      obtain ⟨p, hp⟩ : ∃ p, (j - 1) / 2 = p := ⟨_, rfl⟩
      have hpj : p < j := by omega
      obtain ⟨hpr, hst⟩ := hole_step (r := r) (l := L) (i := j) (p := p) (by omega) (by omega) (by omega) (by rw [hLx]; exact hrL)
      obtain ⟨y, hy⟩ : ∃ y, gd L p = y := ⟨_, rfl⟩
      obtain ⟨c0, c1, c2⟩ := hR.at3 (i := p) (by omega)
      rw [hpr, hy] at c0 c1 c2 hst
      have hpl : p < its.length := by omega
      have hjL : j < L.length := by omega
      have hpL : p < L.length := by omega
      have hjp : j ≠ p := by omega
      have hjr : j < r.length := by omega
      have hpr2 : p < r.length := by omega
      have hpi : p ≤ i := by omega
      have hnn2 : n' + 1 + p ≤ n + i := by omega
      have hnn3 : n' + 1 ≤ n + its.length + 1 := by omega
      have hyw : wfk y.f2 := hy ▸ hLW p hpL
      have hxw : wfk x.f2 := hLx ▸ hLW j hjL
      obtain ⟨jm, m1, m2, m3, m4⟩ := par_num hj0 (le_a HN.out hi hj) hp
      by_cases hlt : lt x y
      · have hdl := ahead_lt hlt
        go_wp2
        refine region_tail 13 (by kernel_rfl) (by kernel_rfl) _ rfl ?_
        simp only [List.take_succ_cons, List.take_zero, List.drop_succ_cons, List.drop_zero]
        repeat still_step
        refine wpStill_nil ?_
        have hSX := fun (w1 : World) (R1 : Raw w1 h (.slice (some ⟨q, 0, none⟩) its.length cap) mb n' seq r g') => Aside0.mk (set_any R1 (i := j) hjr y hyw (le_b HN.out hi hnn) (by rw [hrl]; exact le_c HN.out))
        go_wp2_with (first
          | (go_at_call 98; refine (ahead_any x y _).mono ?_; rintro e w1 ⟨rfl, hb1⟩; have R1 := hR.drew.behind hb1; have e0 : w1.cell? ⟨h, 0, none⟩ = some (.slice (some ⟨q, 0, none⟩) its.length cap) := cell_of_heap R1.hd rfl; obtain ⟨f0, f1, f2⟩ := R1.at3 (i := p) hpr2; rw [hpr, hy] at f0 f1 f2)
          | (go_at_call 99; refine ((hSX _ R1).out).mono ?_; rintro e w2 ⟨rfl, R2, F2⟩)
          | fail)
        go_roundw
        case rel =>
          refine ⟨p, sw L j p, r.set j y, gset g' y.f2 (some (j : Int)), n' + 1, rfl, hpi, R2, by rw [← hLx]; exact hst, ?_, by rw [sw_len]; exact hLl, apart_sw hjL hpL hLA, ?_, ?_, fun a ha => ?_, hnn2, ?_⟩
          · rw [gd_sw hjL hpL, if_pos rfl]; exact hLx
          · have := hole_at (i := j) (p := p) hjL hpL hjp hLA (by rw [hLx]; exact hLG)
            rw [hy, hLx] at this
            exact this
          · rw [← hLU, upP_go hj0 (by rw [hp, hLx, hy]; exact hlt), hp]
          · rw [sw_len] at ha
            rw [gd_sw hjL hpL]
            split
            · exact hLW j hjL
            · split
              · exact hLW p hpL
              · exact hLW a ha
          · exact ((hF.drew.trans (Fr.of_below (fun _ => False) hb1) (fun _ _ q => q.elim)).trans F2 (fun _ _ q => q))
        case measure => exact (show p < j from hpj)
      · have hdl := ahead_nlt hlt
        have hstop := upP_stop (l := L) (i := j) (fun q => hlt (by have := q.2; rw [hp, hLx, hy] at this; exact this))
        go_wp2
        refine region_tail 13 (by kernel_rfl) (by kernel_rfl) _ rfl ?_
        simp only [List.take_succ_cons, List.take_zero, List.drop_succ_cons, List.drop_zero]
        repeat still_step
        refine wpStill_nil ?_
        have hSX := fun (w1 : World) (R1 : Raw w1 h (.slice (some ⟨q, 0, none⟩) its.length cap) mb n' seq r g') => Aside0.mk (set_any R1 (i := j) hjr x hxw (le_b HN.out hi hnn) (by rw [hrl]; exact le_c HN.out))
        go_wp2_with (first
          | (go_at_call 98; refine (ahead_any x y _).mono ?_; rintro e w1 ⟨rfl, hb1⟩; have R1 := hR.drew.behind hb1; have e0 : w1.cell? ⟨h, 0, none⟩ = some (.slice (some ⟨q, 0, none⟩) its.length cap) := cell_of_heap R1.hd rfl; have G1 := (Fr.refl (fun _ => False) wr).drew.trans (Fr.of_below (fun _ => False) hb1) (fun _ _ q => q); have f0 := G1.cell b0 (fun q => q); have f1 := G1.cell b1 (fun q => q); have f2 := G1.cell b2 (fun q => q))
          | (go_at_call 99; refine ((hSX _ R1).out).mono ?_; rintro e w2 ⟨rfl, R2, F2⟩)
          | fail)
        go_end0
        refine ⟨rfl, n' + 1, gset g' x.f2 (some (j : Int)), hnn3, ?_, ?_, ?_⟩
        · rw [← hLU, hstop, ← hrL]; exact R2
        · rw [← hLU, hstop, ← hLx]
          exact hole_end hjL hLA (by rw [hLx]; exact hLG)
        · exact (((FW.mono (fun _ _ q => q.elim)).trans hF (fun _ _ q => q)).trans G1 (fun _ _ q => q.elim)).trans F2 (fun _ _ q => q)
    · obtain rfl : j = 0 := by omega
      have hstop := upP_stop (l := L) (i := 0) (fun q => absurd q.1 (Nat.lt_irrefl 0))
      have hjL : 0 < L.length := by omega
      have hjr : 0 < r.length := by omega
      have hnn3 : n' + 1 ≤ n + its.length + 1 := by omega
      have hxw : wfk x.f2 := hLx ▸ hLW 0 hjL
      have hSX := Aside0.mk (set_any hR.drew (i := 0) hjr x hxw (le_b HN.out hi hnn) (by rw [hrl]; exact le_c HN.out))
      clear hj hi hj0
      go_wp2
      go_region
      go_wp2_with (first
        | (go_at_call 99; refine (hSX.out).mono ?_; rintro e w2 ⟨rfl, R2, F2⟩)
        | fail)
      go_end0
      refine ⟨rfl, n' + 1, gset g' x.f2 (some ((0 : Nat) : Int)), hnn3, ?_, ?_, ?_⟩
      · rw [← hLU, hstop, ← hrL]; exact R2
      · rw [← hLU, hstop, ← hLx]
        exact hole_end hjL hLA (by rw [hLx]; exact hLG)
      · exact ((FW.mono (fun _ _ q => q.elim)).trans hF.drew (fun _ _ q => q)).trans F2 (fun _ _ q => q)
end Go.Proofs.Ytkegdcnnankokaa.Hps

/-
heap.Heap[string]'s down, walked.
-/
namespace Go.Proofs.Ytkegdcnnankokaa.Hps
set_option linter.unusedVariables false
set_option linter.unusedSimpArgs false
open Go.Maps Go.RowKit Go.Proofs.YtkegdcnnankokaaW.PrintWords Go.Proofs.YtkegdcnnankokaaW.PrintLast Go.Proofs.YtkegdcnnankokaaW.PrintMore Hp
theorem le_g {n m j k : Nat} (h : n + m + 1 ≤ 1000000) (hi : j < m) (hk : 2 * j + 1 = k) : k ≤ 2000001 := by omega
theorem kid_num {j k0 k1 : Nat} (hl : k0 ≤ 2000001) (h0 : 2 * j + 1 = k0) (h1 : k0 + 1 = k1) : ∃ z : Int, wrap64 (2 * (j : Int)) = z ∧ wrap64 (z + 1) = (k0 : Int) ∧ wrap64 ((k0 : Int) + 1) = (k1 : Int) ∧ IntKind.i64.wrap (2 * (j : Int)) = z ∧ IntKind.i64.wrap (z + 1) = (k0 : Int) ∧ IntKind.i64.wrap ((k0 : Int) + 1) = (k1 : Int) := by
  have m1 : wrap64 (2 * (j : Int)) = 2 * (j : Int) := wrap_nat (by omega) (by omega)
  have m2 : wrap64 (2 * (j : Int) + 1) = (k0 : Int) := by rw [wrap_nat (by omega) (by omega)]; omega
  have m3 : wrap64 ((k0 : Int) + 1) = (k1 : Int) := by rw [wrap_nat (by omega) (by omega)]; omega
  exact ⟨_, m1, m2, m3, (i64_w _).trans m1, (i64_w _).trans m2, (i64_w _).trans m3⟩
theorem le_d {n m k : Nat} (h : n + m + 1 ≤ 1000000) (hi : k < m) : k ≤ 2000001 := by omega
theorem le_e {n n' m i j : Nat} (h : n + m + 1 ≤ 1000000) (hi : j < m) (hj : n' + i ≤ n + j) : n' ≤ 1000000 := by omega
theorem le_f {n n' m i j : Nat} (hi : j < m) (hj : n' + i ≤ n + j) : n' + 1 ≤ n + m + 1 := by omega
set_option maxRecDepth 100000 in
set_option maxHeartbeats 8000000 in
theorem down_any {w : World} {h mb n : Nat} {v : Value} {seq : Int} {its : List (It ByteArray)} {g : ByteArray → Option Int} (R : Raw w h v mb n seq its g) {i : Nat} (hi : i < its.length) (hA : Apart its) (hG : AtBut g its (gd its i).f2) (hwf : ∀ j, j < its.length → wfk (gd its j).f2) (hn : n + its.length + 1 ≤ 1000000) :
    Calls Try.prog 100 #[.pointer (some ⟨h, 0, none⟩), .int .i64 (i : Int)] w fun e w' => e = .returned (.tuple #[]) ∧ ∃ n' g', n' ≤ n + its.length + 1 ∧ Raw w' h v mb n' seq (downP its i) g' ∧ AtFull g' (downP its i) ∧ Fr (foot h v mb) w w' := by
  obtain ⟨q, cap, rfl, _, hql, cells, hqc⟩ := Kd.R_form R.row (by omega)
  have hq := R.row.1 q (by simp [Value.ownBlock])
  obtain ⟨x, hx⟩ : ∃ x, gd its i = x := ⟨_, rfl⟩
  obtain ⟨a0, a1, a2⟩ := R.at3 hi
  rw [hx] at a0 a1 a2 hG
  have hn0 : (0 : Int) ≤ (i : Int) ∧ (i : Int) < (its.length : Int) := by omega
  have hn0b := eq_true hn0
  have h0 : w.cell? ⟨h, 0, none⟩ = some (.slice (some ⟨q, 0, none⟩) its.length cap) := cell_of_heap R.hd rfl
  have HWF := Aside0.mk hwf
  have HN := Aside0.mk hn
  clear hwf hn
  go_enter Try.func100, Try.ntmps100
  go_wp2
  obtain ⟨W, hW⟩ : ∃ W, w.alloc (.cells #[.int .i64 x.f0, .int .i64 x.f1, .string x.f2] 148) = W := ⟨_, rfl⟩
  obtain ⟨bx, hbx⟩ : ∃ bx, w.heap.size = bx := ⟨_, rfl⟩
  have FW : Fr (fun _ => False) w W := hW ▸ Fr.of_below _ ((Below.refl w.heap.size w).alloc (Nat.le_refl _) _)
  have RW := R.kept FW (fun _ _ q => q)
  have hxb : W.heap[bx]? = some (.cells #[.int .i64 x.f0, .int .i64 x.f1, .string x.f2] 148 (0, 0)) := by rw [← hW, ← hbx]; exact Array.getElem?_push_size
  have hfx : ¬ foot h (.slice (some ⟨q, 0, none⟩) its.length cap) mb bx := fun hf => by have := R.lt bx hf; omega
  rw [hW, hbx]
  clear hW a0 a1 a2 h0 hn0 hn0b
  have HG := Aside0.mk hG
  have HA := Aside0.mk hA
  clear hG hA
  go_loopw [1] (fun v1 wr => ∃ (j : Nat) (L r : List (It ByteArray)) (g' : ByteArray → Option Int) (n' : Nat), v1 = .int .i64 (j : Int) ∧ j < its.length ∧ Raw wr h (.slice (some ⟨q, 0, none⟩) its.length cap) mb n' seq r g' ∧ r.set j x = L ∧ gd L j = x ∧ L.length = its.length ∧ Apart L ∧ AtBut g' L x.f2 ∧ downP L j = downP its i ∧ (∀ a, a < L.length → wfk (gd L a).f2) ∧ n' + i ≤ n + j ∧ Fr (foot h (.slice (some ⟨q, 0, none⟩) its.length cap) mb) W wr) (fun v1 _ => match v1 with | .int _ z => its.length - z.toNat | _ => 0)
  case atStart => exact ⟨i, its, its, g, n, rfl, hi, RW, by rw [← hx, gd_at hi, List.set_getElem_self], hx, rfl, HA.out, HG.out, rfl, HWF.out, Nat.le_refl _, Fr.refl _ _⟩
  case round =>
    obtain ⟨j, L, r, g', n', rfl, hj, hR, hrL, hLx, hLl, hLA, hLG, hLU, hLW, hnn, hF⟩ := hrel
    have hrl : r.length = its.length := by rw [← hLl, ← hrL, List.length_set]
    have d0 : wr.cell? ⟨h, 0, none⟩ = some (.slice (some ⟨q, 0, none⟩) its.length cap) := cell_of_heap hR.hd rfl
    have hxr := hF.heap hxb hfx
    have b0 : wr.cell? ⟨bx, 0, none⟩ = some (.int .i64 x.f0) := cell_of_heap hxr rfl
    have b1 : wr.cell? ⟨bx, 1, none⟩ = some (.int .i64 x.f1) := cell_of_heap hxr rfl
    have b2 : wr.cell? ⟨bx, 2, none⟩ = some (.string x.f2) := cell_of_heap hxr rfl
    obtain ⟨k0, hk0⟩ : ∃ k0, 2 * j + 1 = k0 := ⟨_, rfl⟩
    obtain ⟨k1, hk1⟩ : ∃ k1, k0 + 1 = k1 := ⟨_, rfl⟩
    have hjL : j < L.length := by omega
    have hjr : j < r.length := by omega
    have hjk : j ≠ k0 := by omega
    have hjk1 : j ≠ k1 := by omega
    have hxw : wfk x.f2 := hLx ▸ hLW j hjL
    have hnn3 : n' + 1 ≤ n + its.length + 1 := le_f hj hnn
    by_cases hk : k0 < its.length
    · have hk0L : k0 < L.length := by omega
      have hk0r : k0 < r.length := by omega
      obtain ⟨y0, hy0⟩ : ∃ y0, gd L k0 = y0 := ⟨_, rfl⟩
      obtain ⟨y1, hy1⟩ : ∃ y1, gd L k1 = y1 := ⟨_, rfl⟩
      have hp0 := (hole_step (r := r) (l := L) (i := j) (p := k0) hjL hk0L hjk (by rw [hLx]; exact hrL)).1
      have hkid : kid L j = if k1 < its.length ∧ lt y1 y0 then k1 else k0 := by
        unfold kid
        have e2 : 2 * j + 2 = k1 := by omega
        rw [e2, hk0, hLl, hy0, hy1]
      have hkb := kid_b L j (by omega)
      rw [hLl] at hkb
      obtain ⟨z, m1, m2, m3, m4, m5, m6⟩ := kid_num (j := j) (le_d HN.out hk) hk0 hk1
      obtain ⟨B, hB⟩ : ∃ B, decide (k1 < its.length ∧ lt y1 y0) = B := ⟨_, rfl⟩
      go_upto_region 3 with (fail)
      go_cut [51] (fun v51 wc => v51 = .bool B ∧ Fr (fun _ => False) wr wc)
      case first =>
        by_cases hkk : k1 < its.length
        · have hk1r : k1 < r.length := by omega
          have hk1L : k1 < L.length := by omega
          have hp1 := (hole_step (r := r) (l := L) (i := j) (p := k1) hjL hk1L hjk1 (by rw [hLx]; exact hrL)).1
          obtain ⟨c0, c1, c2⟩ := hR.at3 hk0r
          rw [hp0, hy0] at c0 c1 c2
          obtain ⟨f0, f1, f2⟩ := hR.at3 hk1r
          rw [hp1, hy1] at f0 f1 f2
          have hdB : decide (aheadP y1 y0 < 0) = B := by
            rw [← hB]
            by_cases hlt : lt y1 y0
            · rw [ahead_lt hlt]; simp [hkk, hlt]
            · rw [ahead_nlt hlt]; simp [hlt]
          go_wp2
          refine region_tail 24 (by kernel_rfl) (by kernel_rfl) _ rfl ?_
          simp only [List.take_succ_cons, List.take_zero, List.drop_succ_cons, List.drop_zero]
          repeat still_step
          refine wpStill_nil ?_
          go_wp2_with (first
            | (go_at_call 98; refine (ahead_any y1 y0 _).mono ?_; rintro e w1 ⟨rfl, hb1⟩)
            | fail)
          go_meet
          case rel => exact ⟨rfl, (Fr.refl (fun _ => False) wr).drew.trans (Fr.of_below (fun _ => False) hb1) (fun _ _ q => q)⟩
        · have hBf : B = false := by rw [← hB]; simp [hkk]
          go_wp2
          go_region
          go_wp2
          go_meet
          case rel => exact ⟨by rw [hBf], (Fr.refl (fun _ => False) wr).drew⟩
      case rest =>
        obtain ⟨rfl, F3⟩ := hcut
        go_upto_if 51 with (fail)
        go_cut [5] (fun v5 wd => v5 = .int .i64 ((kid L j : Nat) : Int) ∧ Fr (fun _ => False) wr wd)
        case first =>
          cases B with
          | true =>
            have hkt : kid L j = k1 := by rw [hkid, if_pos (of_decide_eq_true hB)]
            go_wp2
            go_meet
            case rel => exact ⟨by rw [hkt], F3⟩
          | false =>
            have hkt : kid L j = k0 := by rw [hkid, if_neg (of_decide_eq_false hB)]
            go_wp2
            go_meet
            case rel => exact ⟨by rw [hkt], F3⟩
        case rest =>
          obtain ⟨rfl, F4⟩ := hcut
          obtain ⟨k, hkk⟩ : ∃ k, kid L j = k := ⟨_, rfl⟩
          rw [hkk] at hkb ⊢
          have hkL : k < L.length := by rw [hLl]; exact hkb.2
          have hkr : k < r.length := by rw [hrl]; exact hkb.2
          have hjk2 : j ≠ k := Nat.ne_of_lt hkb.1
          obtain ⟨hpk, hst⟩ := hole_step (r := r) (l := L) (i := j) (p := k) hjL hkL hjk2 (by rw [hLx]; exact hrL)
          obtain ⟨y, hy⟩ : ∃ y, gd L k = y := ⟨_, rfl⟩
          have hyw : wfk y.f2 := hy ▸ hLW k hkL
          have R4 := hR.kept F4 (fun _ _ q => q)
          have e0 : wc.cell? ⟨h, 0, none⟩ = some (.slice (some ⟨q, 0, none⟩) its.length cap) := cell_of_heap R4.hd rfl
          have e1 := F4.cell b0 (fun q => q)
          have e2 := F4.cell b1 (fun q => q)
          have e3 := F4.cell b2 (fun q => q)
          obtain ⟨c0, c1, c2⟩ := R4.at3 hkr
          rw [hpk, hy] at c0 c1 c2
          have hkl := hkb.2
          clear m1 m2 m3 m4 m5 m6
          have hnn2 : n' + 1 + i ≤ n + k := by have := hkb.1; omega
          have hmea : its.length - k < its.length - j := Nat.sub_lt_sub_left hj hkb.1
          have hltk : 2 * j + 1 < L.length := by omega
          have hSX := fun (w1 : World) (R1 : Raw w1 h (.slice (some ⟨q, 0, none⟩) its.length cap) mb n' seq r g') => Aside0.mk (set_any R1 (i := j) hjr x hxw (le_e HN.out hj hnn) (by rw [hrl]; exact le_c HN.out))
          have hSY := fun (w1 : World) (R1 : Raw w1 h (.slice (some ⟨q, 0, none⟩) its.length cap) mb n' seq r g') => Aside0.mk (set_any R1 (i := j) hjr y hyw (le_e HN.out hj hnn) (by rw [hrl]; exact le_c HN.out))
          by_cases hlt : lt x y
          · have hdl := ahead_lt hlt
            have hstop := downP_stop (l := L) (i := j) (fun q_ => q_.2 (by rw [hkk, hLx, hy]; exact hlt))
            go_wp2
            refine region_tail 8 (by kernel_rfl) (by kernel_rfl) _ rfl ?_
            simp only [List.take_succ_cons, List.take_zero, List.drop_succ_cons, List.drop_zero]
            repeat still_step
            refine wpStill_nil ?_
            go_wp2_with (first
              | (go_at_call 98; refine (ahead_any x y _).mono ?_; rintro e w1 ⟨rfl, hb1⟩; have R1 := R4.drew.behind hb1; have G1 := (Fr.refl (fun _ => False) wc).drew.trans (Fr.of_below (fun _ => False) hb1) (fun _ _ q => q); have f0 := G1.cell e1 (fun q => q); have f1 := G1.cell e2 (fun q => q); have f2 := G1.cell e3 (fun q => q))
              | (go_at_call 99; refine ((hSX _ R1).out).mono ?_; rintro e w2 ⟨rfl, R2, F2⟩)
              | fail)
            go_end0
            refine ⟨rfl, n' + 1, gset g' x.f2 (some (j : Int)), hnn3, ?_, ?_, ?_⟩
            · rw [← hLU, hstop, ← hrL]; exact R2
            · rw [← hLU, hstop, ← hLx]
              exact hole_end hjL hLA (by rw [hLx]; exact hLG)
            · exact ((((FW.mono (fun _ _ q => q.elim)).trans hF (fun _ _ q => q)).trans F4 (fun _ _ q => q.elim)).trans G1 (fun _ _ q => q.elim)).trans F2 (fun _ _ q => q)
          · have hdl := ahead_nlt hlt
            have hgo := downP_go (l := L) (i := j) hltk (by rw [hkk, hLx, hy]; exact hlt)
            go_wp2
            refine region_tail 8 (by kernel_rfl) (by kernel_rfl) _ rfl ?_
            simp only [List.take_succ_cons, List.take_zero, List.drop_succ_cons, List.drop_zero]
            repeat still_step
            refine wpStill_nil ?_
            go_wp2_with (first
              | (go_at_call 98; refine (ahead_any x y _).mono ?_; rintro e w1 ⟨rfl, hb1⟩; have R1 := R4.drew.behind hb1; have f3 : w1.cell? ⟨h, 0, none⟩ = some (.slice (some ⟨q, 0, none⟩) its.length cap) := cell_of_heap R1.hd rfl; obtain ⟨f0, f1, f2⟩ := R1.at3 (i := k) hkr; rw [hpk, hy] at f0 f1 f2; have G1 := (Fr.refl (fun _ => False) wc).drew.trans (Fr.of_below (fun _ => False) hb1) (fun _ _ q => q))
              | (go_at_call 99; refine ((hSY _ R1).out).mono ?_; rintro e w2 ⟨rfl, R2, F2⟩)
              | fail)
            go_roundw
            case rel =>
              refine ⟨k, sw L j k, r.set j y, gset g' y.f2 (some (j : Int)), n' + 1, rfl, hkb.2, R2, by rw [← hLx, ← hy, ← hpk]; exact hst, ?_, by rw [sw_len]; exact hLl, apart_sw hjL hkL hLA, ?_, ?_, fun a ha => ?_, hnn2, ?_⟩
              · rw [gd_sw hjL hkL, if_pos rfl]; exact hLx
              · have := hole_at (i := j) (p := k) hjL hkL hjk2 hLA (by rw [hLx]; exact hLG)
                rw [hy, hLx] at this
                exact this
              · rw [← hLU, hgo, hkk]
              · rw [sw_len] at ha
                rw [gd_sw hjL hkL]
                split
                · exact hLW j hjL
                · split
                  · exact hLW k hkL
                  · exact hLW a ha
              · exact (((hF.trans F4 (fun _ _ q => q.elim)).trans G1 (fun _ _ q => q.elim)).trans F2 (fun _ _ q => q))
            case measure => exact hmea
    · have hstop := downP_stop (l := L) (i := j) (fun q_ => hk (by rw [← hLl, ← hk0]; exact q_.1))
      obtain ⟨z, m1, m2, _, m4, m5, _⟩ := kid_num (j := j) (le_g HN.out hj hk0) hk0 hk1
      have hSX := Aside0.mk (set_any hR (i := j) hjr x hxw (le_e HN.out hj hnn) (by rw [hrl]; exact le_c HN.out))
      go_wp2_with (first
        | (go_at_call 99; refine (hSX.out).mono ?_; rintro e w2 ⟨rfl, R2, F2⟩)
        | fail)
      go_end0
      refine ⟨rfl, n' + 1, gset g' x.f2 (some (j : Int)), hnn3, ?_, ?_, ?_⟩
      · rw [← hLU, hstop, ← hrL]; exact R2
      · rw [← hLU, hstop, ← hLx]
        exact hole_end hjL hLA (by rw [hLx]; exact hLG)
      · exact ((FW.mono (fun _ _ q => q.elim)).trans hF (fun _ _ q => q)).trans F2 (fun _ _ q => q)
end Go.Proofs.Ytkegdcnnankokaa.Hps
