/-
gantt.sign: which task did most instructions on a worker in a part of a row: counted in a map, the most sought in an order that nobody knows.
-/
import Derived.Test.YtkegdcnnankokaaPGanx0
import Derived.Test.YtkegdcnnankokaaGanDec
import Derived.Maps.RangeWalk
import Derived.Maps.OwnOps
import Derived.Maps.Ext
import Derived.Maps.Views
import Derived.WalkKit
namespace Go.Proofs.Ytkegdcnnankokaa.PGan
set_option linter.unusedVariables false
set_option linter.unusedSimpArgs false
open Go.RowKit Go.Maps Go.Proofs.YtkegdcnnankokaaW.PrintWords Go.Proofs.YtkegdcnnankokaaW.PrintLast Go.Proofs.YtkegdcnnankokaaW.PrintMore
/-- how many instructions of a task are there on a worker. -/
def cntT (l : List S36) (cpu x : Int) : Nat := l.countP fun e => e.f0 == 3 && e.f2 == cpu && e.f1 == x
theorem cntT_snoc (l : List S36) (e : S36) (cpu x : Int) : cntT (l ++ [e]) cpu x = cntT l cpu x + (if e.f0 = 3 ∧ e.f2 = cpu ∧ e.f1 = x then 1 else 0) := by
  unfold cntT
  rw [List.countP_append, List.countP_singleton]
  congr 1
  simp [and_assoc]
theorem cntT_le (l : List S36) (cpu x : Int) : cntT l cpu x ≤ l.length := List.countP_le_length
theorem cntT_up (l : List S36) (i : Nat) (cpu x : Int) (hl : l.length ≤ 1000000) : cntT (l.take i) cpu x ≤ 1000000 := by
  have h := cntT_le (l.take i) cpu x
  rw [List.length_take] at h
  omega
/-- the map tells these counts. -/
def Tells {H : Type} (D : DataW H) (f : Int → Nat) : Prop := ∀ x : Int, D.atKey (.int .i64 x) (.lit (.int .i64 0)) = .lit (.int .i64 (f x : Nat)) ∧ has D (.int .i64 x) = decide (0 < f x)
theorem tells_put {H : Type} {D : DataW H} {f : Int → Nat} (hm : IsMap D) (h : Tells D f) (k : Int) : Tells (D.put (.int .i64 k) (.lit (.int .i64 ((f k + 1 : Nat) : Int)))) (fun x => f x + if x = k then 1 else 0) := by
  intro x
  by_cases e : x = k
  · subst e
    have ht : WideAt.IsKeyLit (Lit.int .i64 x) := trivial
    rw [atKey_put_same hm ht, has_put_same hm ht]
    simp
  · have hne : (Lit.int .i64 x) ≠ .int .i64 k := fun q => e (by injection q)
    rw [atKey_put_other hne, has_put_other hne]
    simpa [e] using h x
theorem law3 : Keyed Try.prog 3 := int_keyed Try.underlying3
theorem zero3 (w : World) : (zeroValue 3).run Try.prog w = .ok (.int .i64 0) w := by kernel_rfl
theorem wrapS (n : Nat) (h1 : n ≤ 1000000) : wrap64 ((n : Int) + 1) = ((n + 1 : Nat) : Int) := wrap_up (by omega)
theorem maxS {l : List S36} {i : Nat} (hl : l.length ≤ 1000000) (hi : i ≤ l.length) : i < maxLen := by unfold maxLen; omega
theorem idxS {l : List S36} {i : Nat} (hl : l.length ≤ 1000000) (hi : i < l.length) : i ≤ 1000000 := by omega
/-- of all who were seen (no longer left) b did most, m: the least of them. -/
def Best (f : Int → Nat) (left : Lit → Bool) (b m : Int) : Prop :=
  (m = 0 ∧ b = 0 ∧ ∀ x, 0 < f x → left (.int .i64 x) = true) ∨ (0 < m ∧ (f b : Int) = m ∧ (-9223372036854775808 ≤ b ∧ b ≤ 9223372036854775807) ∧ ∀ x, 0 < f x → left (.int .i64 x) = false → (f x : Int) < m ∨ ((f x : Int) = m ∧ b ≤ x))
def IsBest (f : Int → Nat) (b m : Int) : Prop := (m = 0 ∧ b = 0 ∧ ∀ x, f x = 0) ∨ (0 < m ∧ (f b : Int) = m ∧ (-9223372036854775808 ≤ b ∧ b ≤ 9223372036854775807) ∧ ∀ x, 0 < f x → (f x : Int) < m ∨ ((f x : Int) = m ∧ b ≤ x))
theorem best_end {f : Int → Nat} {left : Lit → Bool} {b m : Int} (h : Best f left b m) (hl : ∀ kl, left kl = false) : IsBest f b m := by
  rcases h with ⟨h1, h2, h3⟩ | ⟨h1, h2, h3, h4⟩
  · refine .inl ⟨h1, h2, fun x => ?_⟩
    by_cases hx : 0 < f x
    · have := h3 x hx; rw [hl] at this; cases this
    · omega
  · exact .inr ⟨h1, h2, h3, fun x hx => h4 x hx (hl _)⟩
theorem key_left {left : Lit → Bool} {x y : Int} (h : (left (.int .i64 y) && !(Lit.int .i64 y).sameKey (.int .i64 x)) = false) : left (.int .i64 y) = false ∨ y = x := by
  by_cases e : y = x
  · exact .inr e
  · have : (Lit.int .i64 y).sameKey (.int .i64 x) = false := sameKey_ne (fun q => e (by injection q))
    rw [this] at h
    exact .inl (by simpa using h)
theorem key_left' {left : Lit → Bool} {x y : Int} (h : left (.int .i64 y) = true) (e : y ≠ x) : (left (.int .i64 y) && !(Lit.int .i64 y).sameKey (.int .i64 x)) = true := by
  have : (Lit.int .i64 y).sameKey (.int .i64 x) = false := sameKey_ne (fun q => e (by injection q))
  rw [this, h]; rfl
/-- one more was seen: it is better: it takes the place. -/
theorem best_take {f : Int → Nat} {left : Lit → Bool} {b m x : Int} (h : Best f left b m) (hx : 0 < f x) (hw : -9223372036854775808 ≤ x ∧ x ≤ 9223372036854775807) (hb : (f x : Int) > m ∨ ((f x : Int) = m ∧ x < b)) :
    Best f (fun z => left z && !z.sameKey (.int .i64 x)) x (f x) := by
  refine .inr ⟨by omega, rfl, hw, fun y hy hl => ?_⟩
  rcases key_left hl with h1 | rfl
  · rcases h with ⟨h2, h3, h4⟩ | ⟨h2, h3, h4, h5⟩
    · have := h4 y hy; rw [h1] at this; cases this
    · rcases h5 y hy h1 with h6 | h6
      · left; omega
      · rcases hb with hb | hb
        · left; omega
        · right; omega
  · right; omega
theorem best_keep {f : Int → Nat} {left : Lit → Bool} {b m x : Int} (h : Best f left b m) (hx : 0 < f x) (hb : ¬ ((f x : Int) > m ∨ ((f x : Int) = m ∧ x < b))) :
    Best f (fun z => left z && !z.sameKey (.int .i64 x)) b m := by
  rcases h with ⟨h2, h3, h4⟩ | ⟨h2, h3, h4, h5⟩
  · exact absurd (.inl (by omega)) hb
  · refine .inr ⟨h2, h3, h4, fun y hy hl => ?_⟩
    rcases key_left hl with h1 | rfl
    · exact h5 y hy h1
    · omega
theorem last_byte (s : ByteArray) (c : UInt8) (h : s.size < (s ++ ⟨#[c]⟩ : ByteArray).size) : (s ++ ⟨#[c]⟩ : ByteArray)[s.size] = c := by
  rw [ByteArray.getElem_append_right (Nat.le_refl _)]
  simp
  rfl
theorem wf_b64 {n : Int} (h : (Lit.int .i64 n).wf = true) : -9223372036854775808 ≤ n ∧ n ≤ 9223372036854775807 := by
  simp [Lit.wf, IntKind.min, IntKind.max, IntKind.bits, IntKind.signed] at h; omega
/-- the sign of who did most. -/
def sgn (b m : Int) : Int := if m = 0 then 46 else ((PGad.dch (b.natAbs % 10)).toNat : Int)
set_option maxRecDepth 100000 in
set_option maxHeartbeats 4000000 in
theorem sign_any (A : Option Addr) (c : Nat) (l : List S36) (cpu : Int) (w : World) (hr : Kd.C k36 w A l.length l) (hl : l.length ≤ 1000000) (hwf : ∀ e ∈ l, (Lit.int .i64 e.f1).wf = true) :
    Calls Try.prog 51 #[.slice A l.length c, .int .i64 cpu] w fun e w' => ∃ b m, IsBest (cntT l cpu) b m ∧ e = .returned (.int .u8 (sgn b m)) ∧ Below w.heap.size w w' := by
  have hu36 := Try.underlying36
  have hmm := @run_makeMap Try.prog
  go_enter Try.func51, Try.ntmps51
  go_wp2
  go_loopw [16] (fun v16 wr => ∃ (i : Nat) (D : DataW Nat), v16 = .int .i64 (i : Int) ∧ i ≤ l.length ∧ wr.ownsMap Try.prog 3 (plainElem Try.prog 3) w.heap.size i D ∧ Tells D (cntT (l.take i) cpu) ∧ Below w.heap.size w wr) (fun v16 _ => match v16 with | .int _ n => l.length - n.toNat | _ => 0)
  case atStart => exact ⟨0, .map [], rfl, Nat.zero_le _, World.ownsMap_made _ _ _ _, fun x => ⟨rfl, rfl⟩, (Below.refl _ _).alloc (Nat.le_refl _) _⟩
  case round =>
    obtain ⟨i, D, rfl, hi, hown, hD, hB⟩ := hrel
    by_cases hlt : i < l.length
    · have hd : decide ((i : Int) < (l.length : Int)) = true := by simpa using hlt
      have hz : (0 : Int) ≤ (i : Int) := by omega
      obtain ⟨ad, e, hx0, hx1, hx2, hx3, hx4⟩ := at_T36 (Kd.C_below hr hB) (i : Int) (by omega) (by omega)
      subst e
      obtain ⟨x, hxx⟩ : ∃ x, rd_T36 l (i : Int) = x := ⟨_, rfl⟩
      have hxg : l[i] = x := by rw [← hxx]; simp [rd_T36, hlt]
      rw [hxx, Int.toNat_natCast] at hx0 hx1 hx2 hx3 hx4
      have hw2 : wrap64 ((i : Int) + 1) = (i : Int) + 1 := wrapS i (idxS hl hlt)
      have hsn : ∀ y, cntT (l.take (i + 1)) cpu y = cntT (l.take i) cpu y + (if x.f0 = 3 ∧ x.f2 = cpu ∧ x.f1 = y then 1 else 0) := fun y => by rw [List.take_succ_eq_append_getElem hlt, hxg, cntT_snoc]
      have hkey : keyOf Try.prog 3 (.int .i64 x.f1) = some (.int .i64 x.f1) := keyOf_int_mk Try.underlying3 (hwf x (hxg ▸ List.getElem_mem hlt))
      have HCU := Aside0.mk (wrapS (cntT (l.take i) cpu x.f1) (cntT_up l i cpu x.f1 hl))
      have hmx := maxS hl hi
      by_cases h3 : x.f0 = 3
      · have h3b : (x.f0 == 3) = true := by simpa using h3
        by_cases hc : x.f2 = cpu
        · have hcb : (x.f2 == cpu) = true := by simpa using hc
          have hsnA : ∀ y, cntT (l.take (i + 1)) cpu y = cntT (l.take i) cpu y + (if x.f1 = y then 1 else 0) := fun y => by rw [hsn y]; simp [h3, hc]
          clear hl hsn h3 hc
          go_wp2_with (first
            | (at_lookup; refine wpList_lookup_own_int _ rfl _ _ 65 rfl 3 3 .i64 law3 Try.underlying65 Try.underlying3 (zero3 _) w.heap.size i _ rfl (hown.alloc _) _ _ rfl hkey ?_; intro cc hat hwc; obtain rfl : cc = ((cntT (l.take i) cpu x.f1 : Nat) : Int) := by (have q := hat.symm.trans (hD x.f1).1; injection q with q1; injection q1))
            | (at_mapUpdate; refine wpList_mapUpdate_own _ rfl _ _ _ 65 rfl 3 3 law3 Try.underlying65 _ w.heap.size i _ rfl (hown.alloc _) hmx _ _ _ rfl rfl hkey _ [] (plainElem_int Try.underlying3 (wrap64_wf _)) ?_; intro w1 hown2 hgrow1)
            | go_in)
          go_roundw
          case rel =>
            refine ⟨i + 1, _, by rw [hw2]; rfl, Nat.succ_le_of_lt hlt, hown2, ?_, (xa hB _).grown hgrow1 (xa hB _).size (fun j hj => by cases hj; exact Nat.le_refl _)⟩
            have q := tells_put hown.isMap hD x.f1
            rw [HCU.out]
            intro y
            rw [hsnA y]
            have q2 := q y
            by_cases e : y = x.f1
            · subst e; simpa using q2
            · have e2 : ¬ x.f1 = y := fun r => e r.symm
              simpa [e, e2] using q2
          case measure => rw [hw2]; exact (show l.length - (i + 1) < l.length - i from Nat.sub_lt_sub_left hlt (Nat.lt_succ_self i))
        · have hcb : (x.f2 == cpu) = false := by simpa using hc
          have hsnA : cntT (l.take (i + 1)) cpu = cntT (l.take i) cpu := funext fun y => by rw [hsn y]; simp [hc]
          clear hl hsn h3 hc
          go_wp2
          go_roundw
          case rel => exact ⟨i + 1, D, by rw [hw2]; rfl, Nat.succ_le_of_lt hlt, (hown.alloc _).mono (Nat.le_succ _), by rw [hsnA]; exact hD, xa hB _⟩
          case measure => rw [hw2]; exact (show l.length - (i + 1) < l.length - i from Nat.sub_lt_sub_left hlt (Nat.lt_succ_self i))
      · have h3b : (x.f0 == 3) = false := by simpa using h3
        have hsnA : cntT (l.take (i + 1)) cpu = cntT (l.take i) cpu := funext fun y => by rw [hsn y]; simp [h3]
        clear hl hsn h3
        go_wp2
        go_roundw
        case rel => exact ⟨i + 1, D, by rw [hw2]; rfl, Nat.succ_le_of_lt hlt, (hown.alloc _).mono (Nat.le_succ _), by rw [hsnA]; exact hD, xa hB _⟩
        case measure => rw [hw2]; exact (show l.length - (i + 1) < l.length - i from Nat.sub_lt_sub_left hlt (Nat.lt_succ_self i))
    · have hd : decide ((i : Int) < (l.length : Int)) = false := by simpa using hlt
      rw [List.take_of_length_le (by omega)] at hD
      clear hl
      go_wp2_with (first
        | (at_range; refine wpList_range_own _ rfl _ 65 rfl 3 3 law3 Try.underlying65 _ w.heap.size i _ rfl hown ?_; intro w0 hrg0 hg0 hs0)
        | go_in)
      go_frame
      obtain ⟨rb, hrb⟩ : ∃ rb, wr.heap.size = rb := ⟨_, rfl⟩
      have hwr : w.heap.size < rb := hrb ▸ hown.lt
      have hB0 : Below w.heap.size w w0 := hB.grown hg0 hB.size (fun j hj => by cases hj)
      rw [hrb] at hrg0 hs0 ⊢
      clear hown hB hg0
      go_loopw [8, 9] (fun v8 v9 wq => ∃ (b m : Int) (left : Lit → Bool) (cnt : Nat), v8 = .int .i64 b ∧ v9 = .int .i64 m ∧ wq.ranges Try.prog 3 (plainElem Try.prog 3) w.heap.size rb i D left cnt ∧ Best (cntT l cpu) left b m ∧ Below w.heap.size w wq) (fun _ _ wq => wq.rangeLeft w.heap.size rb)
      case atStart => exact ⟨0, 0, _, _, rfl, rfl, hrg0, .inl ⟨rfl, rfl, fun x hx => by rw [(hD x).2]; simpa using hx⟩, hB0⟩
      case round =>
        obtain ⟨b, m, left, cnt, rfl, rfl, hrg, hbest, hB2⟩ := hrel
        go_wp2_with (first
          | (at_next; refine wpList_next_ranges_ii _ rfl _ rfl 3 3 .i64 .i64 law3 Try.underlying3 Try.underlying3 w.heap.size rb i _ _ _ rfl hrg ?_ ?_)
          | go_in)
        · intro hc0 hl0
          have HBE := Aside0.mk (best_end hbest hl0)
          clear hbest hl0
          by_cases hm : m = 0
          · have hmb : (m == 0) = true := by simpa using hm
            have hsg : sgn b m = 46 := by unfold sgn; rw [if_pos hm]
            clear hm
            go_wp2
            go_ret
            exact ⟨b, m, HBE.out, by rw [hsg]; rfl, hB2⟩
          · have hmb : (m == 0) = false := by simpa using hm
            have hsg : sgn b m = ((PGad.dch (b.natAbs % 10)).toNat : Int) := by unfold sgn; rw [if_neg hm]
            have hbd : -9223372036854775808 ≤ b ∧ b ≤ 9223372036854775807 := by
              rcases HBE.out with h | h
              · exact absurd h.1 hm
              · exact h.2.2.1
            obtain ⟨kd, hk⟩ := (PGad.dec_ev b hbd.1 hbd.2).rounds
            obtain ⟨s', hs', hsw, hsi⟩ := PGad.decP_tail b hbd.1 hbd.2
            rw [hs'] at hk
            have HDC := Aside0.mk (PGad.gantt_dec.calls kd b _ wr hk)
            clear hm hbd hk hs'
            go_wp2_with (first
              | (go_at_call 49; refine (HDC.out).mono ?_; rintro e w4 ⟨rfl, ⟨nd, rfl⟩⟩)
              | go_in)
            go_ret
            exact ⟨b, m, HBE.out, by rw [hsg, last_byte]; rfl, xb hB2 _⟩
        · intro x cc w1 cnt1 hwx hwc hlx hat hrg1 hlt1 hg1 hs1 hen
          obtain rfl : cc = ((cntT l cpu x : Nat) : Int) := by
            have q := (hat (.lit (.int .i64 0))).symm.trans (hD x).1
            injection q with q1
            injection q1
          have hpos : 0 < cntT l cpu x := by
            have q := has_true_of_atKey hat
            rw [(hD x).2] at q
            simpa using q
          have hwb := wf_b64 hwx
          have hB3 : Below w.heap.size w w1 := hB2.grown hg1 hB2.size (fun j hj => by cases hj; exact Nat.le_of_lt hwr)
          have HTK : ∀ q : ((cntT l cpu x : Nat) : Int) > m ∨ (((cntT l cpu x : Nat) : Int) = m ∧ x < b), Aside0 (Best (cntT l cpu) (fun z => left z && !z.sameKey (.int .i64 x)) x (cntT l cpu x)) := fun q => ⟨best_take hbest hpos hwb q⟩
          have HKP : ∀ q : ¬ (((cntT l cpu x : Nat) : Int) > m ∨ (((cntT l cpu x : Nat) : Int) = m ∧ x < b)), Aside0 (Best (cntT l cpu) (fun z => left z && !z.sameKey (.int .i64 x)) b m) := fun q => ⟨best_keep hbest hpos q⟩
          have hrl : w1.rangeLeft w.heap.size rb < wr.rangeLeft w.heap.size rb := by rw [hrg1.left_eq, hrg.left_eq]; exact hlt1
          clear hat hlx hwx hbest hwb hpos
          by_cases q1 : m < ((cntT l cpu x : Nat) : Int)
          · have T := HTK (.inl q1)
            have q1b : decide (m < ((cntT l cpu x : Nat) : Int)) = true := decide_eq_true q1
            clear q1 HTK HKP
            go_wp2
            go_roundw
            case rel => exact ⟨x, _, _, cnt1, rfl, rfl, hrg1, T.out, hB3⟩
            case measure => exact hrl
          · have q1b : decide (m < ((cntT l cpu x : Nat) : Int)) = false := decide_eq_false q1
            by_cases q2 : ((cntT l cpu x : Nat) : Int) = m
            · have q2b : (((cntT l cpu x : Nat) : Int) == m) = true := by simpa using q2
              by_cases q3 : x < b
              · have T := HTK (.inr ⟨q2, q3⟩)
                have q3b : decide (x < b) = true := decide_eq_true q3
                clear q1 q2 q3 HTK HKP
                go_wp2
                go_roundw
                case rel => exact ⟨x, _, _, cnt1, rfl, rfl, hrg1, T.out, hB3⟩
                case measure => exact hrl
              · have T := HKP (fun q => by rcases q with q | q; exact q1 q; exact q3 q.2)
                have q3b : decide (x < b) = false := decide_eq_false q3
                clear q1 q2 q3 HTK HKP
                go_wp2
                go_roundw
                case rel => exact ⟨b, m, _, cnt1, rfl, rfl, hrg1, T.out, hB3⟩
                case measure => exact hrl
            · have T := HKP (fun q => by rcases q with q | q; exact q1 q; exact q2 q.1)
              have q2b : (((cntT l cpu x : Nat) : Int) == m) = false := by simpa using q2
              clear q1 q2 HTK HKP
              go_wp2
              go_roundw
              case rel => exact ⟨b, m, _, cnt1, rfl, rfl, hrg1, T.out, hB3⟩
              case measure => exact hrl
end Go.Proofs.Ytkegdcnnankokaa.PGan
