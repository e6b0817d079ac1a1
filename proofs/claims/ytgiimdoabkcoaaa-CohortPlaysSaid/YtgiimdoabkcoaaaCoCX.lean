import Derived.Test.YtgiimdoabkcoaaaCoLives
import Derived.Test.YtgiimdoabkcoaaaCoInv
import Derived.Maps.OwnSet
import Derived.Maps.OwnOps
/-
The locks' Waiting, walked; one lock beside other things of the caller's.
-/
namespace Go.Proofs.Ytgiimdoabkcoaaa.Co
set_option linter.unusedVariables false
set_option linter.unusedSimpArgs false
open Go.RowKit Go.Proofs.YtgiimdoabkcoaaaW.PrintWords Go.Proofs.YtgiimdoabkcoaaaW.PrintLast Go.Proofs.YtgiimdoabkcoaaaW.PrintMore
theorem flat_len {r : List Rw} {k : Nat} (h : k < r.length) : ((r.take k).flatMap (·.2)).length + (rg r k).2.length ≤ (r.flatMap (·.2)).length ∧ (r.take (k + 1)).flatMap (·.2) = (r.take k).flatMap (·.2) ++ (rg r k).2 := by
  have e : (r.take (k + 1)).flatMap (·.2) = (r.take k).flatMap (·.2) ++ (rg r k).2 := by
    rw [List.take_succ_eq_append_getElem h, List.flatMap_append, rg_at h]
    simp
  refine ⟨?_, e⟩
  have h2 : r.flatMap (·.2) = (r.take (k + 1)).flatMap (·.2) ++ (r.drop (k + 1)).flatMap (·.2) := by rw [← List.flatMap_append, List.take_append_drop]
  rw [h2, e, List.length_append, List.length_append]
  omega
section
variable {w : World} {F : Nat → Prop} {h lb : Nat} {xs : List LS}
set_option maxRecDepth 100000 in
set_option maxHeartbeats 4000000 in
theorem waiting_any (L : LocksAt w F h lb xs) {i : Nat} (hi : i < xs.length) (hl : (xs.getD i ls0).round.length ≤ 1000000) (hw : (waitingP (xs.getD i ls0)).length ≤ 1000000) :
    Calls Try.prog 53 #[.pointer (some ⟨h, 0, none⟩), .int .i64 (i : Int)] w fun e w' => ∃ v, e = .returned v ∧ Kd.R (Kd.int .i64) 3 w' w.heap.size (fun _ => True) v (waitingP (xs.getD i ls0)) ∧ Below w.heap.size w w' := by
  have hAt := at_any L (i : Int)
  unfold atV at hAt
  rw [if_pos ⟨by omega, by omega⟩, Int.toNat_natCast] at hAt
  obtain ⟨oki, v, _, _, _, _, c4, hv, _, z0⟩ := L.c i hi
  have hlt := L.lt
  unfold waitingP at hw ⊢
  obtain ⟨r, hr⟩ : ∃ r, (xs.getD i ls0).round = r := ⟨_, rfl⟩
  rw [hr] at hv hl hw ⊢
  have hR := Kd.S_R hv
  obtain ⟨A, c, rfl⟩ := Kd.R_slice hR
  obtain ⟨n, hn⟩ : ∃ n, r.length = n := ⟨_, rfl⟩
  rw [hn] at c4 hR hl
  have hq : 0 < n → ∃ q, A = some ⟨q, 0, none⟩ ∧ q < w.heap.size := fun hp => by
    obtain ⟨q, cap, he, _, hql, _⟩ := Kd.R_form hR (by omega)
    injection he with he
    exact ⟨q, he, hql⟩
  have HAt := Lib.hid hAt
  have HR := Lib.hid hR
  have HN := Lib.hid hn
  have HW := Lib.hid hw
  have HQ := Lib.hid hq
  clear hAt L hv hR hn hr hw hq hi
  unfold lkp at HAt
  go_enter Try.func53, Try.ntmps53
  go_wp2_with (first | (go_at_call 98; refine (HAt.out).mono ?_; rintro e w1 ⟨rfl, hw9⟩; rw [hw9]; clear hw9) | fail)
  go_loopg [4, 18] n (fun gg v4 v18 wr => ∃ (kk : Nat) (A4 : Option Addr) (m4 c4 : Nat), kk ≤ n ∧ n - kk ≤ gg ∧ v18 = .int .i64 kk ∧ v4 = .slice A4 m4 c4 ∧ Aside0 (Below w.heap.size w wr) ∧ Aside0 (Kd.R (Kd.int .i64) 3 wr w.heap.size (fun _ => True) (.slice A4 m4 c4) ((r.take kk).flatMap (·.2))))
  case atStart => exact ⟨0, none, 0, 0, Nat.zero_le _, by omega, rfl, rfl, ⟨Below.refl _ w⟩, ⟨by simpa using Kd.R_nil _ _ _ _ _⟩⟩
  case round =>
    obtain ⟨kk, A4, m4, e4, hkk, hg, rfl, rfl, BW, HO⟩ := hrel
    by_cases hlt2 : kk < n
    · have hltz : (kk : Int) < (n : Int) := by omega
      obtain ⟨q, rfl, hql⟩ := HQ.out (by omega)
      obtain ⟨cc, hcl, hM, hcc, _⟩ := Kd.R_elem HR.out (0, []) (kk : Int) (by omega) (by omega)
      obtain ⟨vv, rfl, hv⟩ := kRow_open hM
      have hgd : r.getD (kk : Int).toNat (0, []) = rg r kk := rfl
      rw [hgd] at hcc hv
      have l0 := (BW.out.cell (p := ⟨q, kk * 2, none⟩) hql).trans (hcc 0 _ rfl)
      have l1 := (BW.out.cell (p := ⟨q, kk * 2 + 1, none⟩) hql).trans (hcc 1 _ rfl)
      have hv2 := Kd.R_below hv BW.out
      obtain ⟨TA, tc, rfl, htc, hC⟩ := Kd.R_reads hv2
      have hlen := flat_len (show kk < r.length by rw [HN.out]; exact hlt2)
      obtain ⟨ts, hts⟩ : ∃ ts, (rg r kk).2 = ts := ⟨_, rfl⟩
      rw [hts] at hC l1 hlen
      obtain ⟨tl, htl⟩ : ∃ tl, ts.length = tl := ⟨_, rfl⟩
      rw [htl] at hC l1 hlen
      obtain ⟨s1, hs1⟩ : ∃ s1, (rg r kk).1 = s1 := ⟨_, rfl⟩
      rw [hs1] at l0
      have HC := Lib.hid hC
      have HLen := Lib.hid hlen.2
      have HB9 : Hid ((((r.take kk).flatMap (·.2)).length + tl) * 8 ≤ 140737488355328) := Lib.hid (by have := HW.out; have := hlen.1; omega)
      have hcb := BW.out.size
      clear hcc hM hv hcl hv2 htc hC hlen hts htl hs1 hgd
      obtain ⟨O, hO⟩ : ∃ O, wr.alloc (.cells #[.int .i64 s1, .slice TA tl tc] 154) = O := ⟨_, rfl⟩
      have hbO : Below wr.heap.size wr O := hO ▸ (Below.refl wr.heap.size wr).alloc (Nat.le_refl _) _
      have HBO := Lib.hid hbO
      have b0 : O.cell? ⟨wr.heap.size, 0, none⟩ = some (.int .i64 s1) := by rw [← hO]; simp [go_sem]
      have b1 : O.cell? ⟨wr.heap.size, 1, none⟩ = some (.slice TA tl tc) := by rw [← hO]; simp [go_sem]
      clear hbO
      go_wp2_with (first
        | (at_builtin; refine Kd.R_append_rows (Kd.int .i64) (w0 := w) (W := O) w.heap.size rfl (.tmp 22) (.tmp 24) 27 3 (.int .i64 0) 8 rfl Try.underlying27 infoInt rfl (by decide) (by decide) (.slice A4 m4 e4) ((r.take kk).flatMap (·.2)) ts TA tl tc (fun _ => True) (fun _ => False) rfl rfl (Kd.R_below HO.out HBO.out) (Rr := (Kd.int .i64).K O) (Kd.C_below HC.out HBO.out) (fun _ _ hh => hh) (fun _ q => q.elim) (fun _ _ => trivial) (Below_trans BW.out HBO.out) (Nat.le_trans hcb HBO.out.size) HB9.out ?_; intro v1 w3 hR3 hB3 hg3 hat3; obtain ⟨A1, c1, e1_⟩ := Kd.R_slice hR3; subst e1_; obtain ⟨m1, hm1⟩ : ∃ m1, ((r.take kk).flatMap (·.2) ++ ts).length = m1 := ⟨_, rfl⟩; rw [hm1] at hR3 ⊢; clear hm1; rw [← HLen.out] at hR3; have HR3 := Lib.hid hR3; have HB3 := Lib.hid hB3; clear hR3 hB3 hg3 hat3)
        | fail)
      go_roundg (n - (kk + 1))
      case measure => omega
      case rel => exact ⟨kk + 1, A1, _, c1, by omega, by omega, by go_num, rfl, ⟨HB3.out⟩, ⟨HR3.out⟩⟩
    · have hltz : ¬ (kk : Int) < (n : Int) := by omega
      have : kk = n := by omega
      subst this
      go_wp2
      go_ret
      refine ⟨_, rfl, ?_, BW.out⟩
      have := HO.out
      rw [← HN.out, List.take_length] at this
      exact this
end
end Go.Proofs.Ytgiimdoabkcoaaa.Co

/-
One lock beside other things of the caller's; a map from whole numbers to whole numbers.
-/
namespace Go.Proofs.Ytgiimdoabkcoaaa.Co
set_option linter.unusedVariables false
set_option linter.unusedSimpArgs false
open Go.Maps Go.RowKit Go.Proofs.YtgiimdoabkcoaaaW.PrintWords Go.Proofs.YtgiimdoabkcoaaaW.PrintLast Go.Proofs.YtgiimdoabkcoaaaW.PrintMore
/-- one lock, made since w0; X: other blocks made since then. -/
def CX (w0 w : World) (X : Nat → Prop) (h lb : Nat) (x : LS) : Prop := ∃ F, LocksAt w F h lb [x] ∧ (∀ k, F k → w0.heap.size ≤ k ∧ ¬ X k) ∧ (∀ k, X k → w0.heap.size ≤ k ∧ k < w.heap.size) ∧ Below w0.heap.size w0 w
section
variable {w0 w w1 : World} {X : Nat → Prop} {h lb : Nat} {x x' : LS}
theorem CX.bel (c : CX w0 w X h lb x) : Below w0.heap.size w0 w := by obtain ⟨_, _, _, _, hb⟩ := c; exact hb
theorem CX.of_c1 (c : C1 w0 w h lb x) : CX w0 w (fun _ => False) h lb x := by
  obtain ⟨F, L, hF, h0⟩ := c
  exact ⟨F, L, fun k q => ⟨hF k q, fun q => q⟩, fun _ q => q.elim, h0⟩
theorem CX.behind (c : CX w0 w X h lb x) (hb : Below w.heap.size w w1) : CX w0 w1 X h lb x := by
  obtain ⟨F, L, hF, hX, h0⟩ := c
  exact ⟨F, L.behind hb, hF, fun k q => ⟨(hX k q).1, Nat.lt_of_lt_of_le (hX k q).2 hb.size⟩, h0.trans (hb.mono h0.size)⟩
/-- the caller's other things change, or new ones are made. -/
theorem CX.other (c : CX w0 w X h lb x) (hF : Fr X w w1) {X1 : Nat → Prop} (hX1 : ∀ k, X1 k → X k ∨ (w.heap.size ≤ k ∧ k < w1.heap.size)) : CX w0 w1 X1 h lb x := by
  obtain ⟨F, L, hF0, hX, h0⟩ := c
  refine ⟨_, L.bound.kept hF (fun k q => (hF0 k q.1).2), fun k q => ⟨(hF0 k q.1).1, fun q1 => ?_⟩, fun k q => ?_, h0.trans (hF.to_below h0.size (fun k q => (hX k q).1))⟩
  · rcases hX1 k q1 with r | r
    · exact (hF0 k q.1).2 r
    · exact absurd q.2 (Nat.not_lt.2 r.1)
  · rcases hX1 k q with r | r
    · exact ⟨(hX k r).1, Nat.lt_of_lt_of_le (hX k r).2 hF.size⟩
    · exact ⟨Nat.le_trans h0.size r.1, r.2⟩
theorem CX.next {F : Nat → Prop} (hF : ∀ k, F k → w0.heap.size ≤ k ∧ ¬ X k) (hX : ∀ k, X k → w0.heap.size ≤ k ∧ k < w.heap.size) (h0 : Below w0.heap.size w0 w) (L : LocksAt w1 (fun k => F k ∨ w.heap.size ≤ k) h lb [x']) (hr : Fr F w w1) :
    CX w0 w1 X h lb x' ∧ Fr (fun k => w0.heap.size ≤ k ∧ ¬ X k) w w1 :=
  ⟨⟨_, L, fun k q => q.elim (hF k) (fun q => ⟨Nat.le_trans h0.size q, fun r => absurd (hX k r).2 (Nat.not_lt.2 q)⟩), fun k q => ⟨(hX k q).1, Nat.lt_of_lt_of_le (hX k q).2 hr.size⟩, h0.trans (hr.to_below h0.size (fun k q => (hF k q).1))⟩, hr.mono (fun k _ q => hF k q)⟩
theorem take_cx (c : CX w0 w X h lb x) (hs : Sm 1000000 x) (t s : Int) :
    Calls Try.prog 48 #[.pointer (some ⟨h, 0, none⟩), .int .i64 0, .int .i64 t, .int .i64 s] w fun e w' => e = .returned (tkV (takeP x t s).2.1 (takeP x t s).2.2) ∧ CX w0 w' X h lb (takeP x t s).1 ∧ Fr (fun k => w0.heap.size ≤ k ∧ ¬ X k) w w' := by
  obtain ⟨F, L, hF, hX, h0⟩ := c
  refine (take_some L (i := 0) (by simp) hs t s).mono ?_
  rintro e w' ⟨rfl, l1, f1⟩
  have hx : [x].getD 0 ls0 = x := rfl
  rw [hx] at l1 ⊢
  exact ⟨rfl, CX.next hF hX h0 l1 f1⟩
theorem give_cx (c : CX w0 w X h lb x) (hs : Sm 1000000 x) (hok : Ok x) (hp : x.passes ≤ 1000000) (t : Int) :
    Calls Try.prog 50 #[.pointer (some ⟨h, 0, none⟩), .int .i64 0, .int .i64 t] w fun e w' => e = .returned (gvV (giveP x t).2.1 (giveP x t).2.2.1 (giveP x t).2.2.2) ∧ CX w0 w' X h lb (giveP x t).1 ∧ Fr (fun k => w0.heap.size ≤ k ∧ ¬ X k) w w' := by
  obtain ⟨F, L, hF, hX, h0⟩ := c
  refine (give_some L (i := 0) (by simp) hs hok hp t).mono ?_
  rintro e w' ⟨rfl, l1, f1⟩
  have hx : [x].getD 0 ls0 = x := rfl
  rw [hx] at l1 ⊢
  exact ⟨rfl, CX.next hF hX h0 l1 f1⟩
theorem CX.c1 (c : CX w0 w X h lb x) : C1 w0 w h lb x := by
  obtain ⟨F, L, hF, hX, h0⟩ := c
  exact ⟨F, L, fun k q => (hF k q).1, h0⟩
theorem waiting_cx (c : CX w0 w X h lb x) (hl : x.round.length ≤ 1000000) (hw : (waitingP x).length ≤ 1000000) :
    Calls Try.prog 53 #[.pointer (some ⟨h, 0, none⟩), .int .i64 0] w fun e w' => ∃ v, e = .returned v ∧ Kd.R (Kd.int .i64) 3 w' w.heap.size (fun _ => True) v (waitingP x) ∧ Below w.heap.size w w' := by
  obtain ⟨F, L, hF, hX, h0⟩ := c
  exact waiting_any L (i := 0) (by simp) hl hw
end
/-! a map -/
def wfk (x : Int) : Prop := (Lit.int .i64 x).wf = true
theorem wfk_small {x : Int} (h0 : 0 ≤ x) (h1 : x ≤ 1000000) : wfk x := by
  have h2 : IntKind.i64.min = -9223372036854775808 := by decide
  have h3 : IntKind.i64.max = 9223372036854775807 := by decide
  show (decide (IntKind.i64.min ≤ x) && decide (x ≤ IntKind.i64.max)) = true
  rw [h2, h3, Bool.and_eq_true]
  exact ⟨decide_eq_true (by omega), decide_eq_true (by omega)⟩
theorem lawK : Keyed Try.prog 3 := int_keyed Try.underlying3
theorem zeroV (w : World) : (zeroValue 3).run Try.prog w = .ok (.int .i64 0) w := by kernel_rfl
theorem key_of {x : Int} (h : wfk x) : keyOf Try.prog 3 (.int .i64 x) = some (Lit.int .i64 x) := keyOf_int_mk Try.underlying3 h
theorem lit_inj {x y : Int} (h : (Lit.int .i64 x) = (Lit.int .i64 y)) : x = y := by injection h
def gset (g : Int → Option Int) (x : Int) (v : Option Int) : Int → Option Int := fun y => if y = x then v else g y
/-- the map tells g. -/
def Idx (D : DataW Unit) (g : Int → Option Int) : Prop := IsMap D ∧ ∀ y, Maps.has D (Lit.int .i64 y) = (g y).isSome ∧ D.atKey (Lit.int .i64 y) (.lit (.int .i64 0)) = .lit (.int .i64 ((g y).getD 0))
theorem idx_put {D : DataW Unit} {g : Int → Option Int} (h : Idx D g) (x : Int) (n : Int) : Idx (D.put (Lit.int .i64 x) (.lit (.int .i64 n))) (gset g x (some n)) := by
  obtain ⟨hm, h⟩ := h
  refine ⟨hm.put _ _, fun y => ?_⟩
  have ht : WideAt.IsKeyLit (Lit.int .i64 x) := trivial
  by_cases e : y = x
  · subst e
    rw [has_put_same hm ht, atKey_put_same hm ht]
    simp [gset]
  · have hne : (Lit.int .i64 y) ≠ (Lit.int .i64 x) := fun q => e (lit_inj q)
    rw [has_put_other hne, atKey_put_other hne]
    simpa [gset, e] using h y
/-- the map at block mb tells g; n: how often it was written at most. -/
def MapAt (w : World) (mb n : Nat) (g : Int → Option Int) : Prop := ∃ D : DataW Unit, w.ownsMap Try.prog 3 (plainElem Try.prog 3) mb n D ∧ Idx D g
theorem MapAt.kept {w w1 : World} {F : Nat → Prop} {mb n : Nat} {g : Int → Option Int} (m : MapAt w mb n g) (h : Fr F w w1) (hn : ¬ F mb) : MapAt w1 mb n g := by
  obtain ⟨D, h1, h2⟩ := m
  exact ⟨D, h.map h1 hn, h2⟩
theorem MapAt.behind {w w1 : World} {mb n : Nat} {g : Int → Option Int} (m : MapAt w mb n g) (h : Below w.heap.size w w1) : MapAt w1 mb n g := m.kept (Fr.of_below (fun _ => False) h) (fun q => q)
theorem MapAt.lt {w : World} {mb n : Nat} {g : Int → Option Int} (m : MapAt w mb n g) : mb < w.heap.size := by
  obtain ⟨D, h1, _⟩ := m
  exact h1.lt
set_option maxRecDepth 100000 in
theorem MapAt.look {w : World} {mb n : Nat} {g : Int → Option Int} (m : MapAt w mb n g) {x : Int} (hx : wfk x) : (Instr.lookup 101 (.map (some mb)) (.int .i64 x) false).run Try.prog w = .ok (.int .i64 ((g x).getD 0)) w := by
  obtain ⟨D, h1, h2⟩ := m
  obtain ⟨c, hrun, hat, _⟩ := h1.lookup_int lawK Try.underlying101 Try.underlying3 (zeroV w) (key_of hx)
  rw [(h2.2 x).2] at hat
  injection hat with hat
  injection hat with _ hat
  rw [hrun, hat]
theorem MapAt.made (w : World) : MapAt (w.alloc (.map #[] 0)) w.heap.size 0 (fun _ => none) := ⟨.map [], World.ownsMap_made w _ _ _, isMap_empty, fun y => ⟨rfl, rfl⟩⟩
end Go.Proofs.Ytgiimdoabkcoaaa.Co
