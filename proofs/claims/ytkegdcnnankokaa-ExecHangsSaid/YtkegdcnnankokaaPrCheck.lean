/-
prog.Check: what is wrong with a program, and where.
-/
import Derived.Test.YtkegdcnnankokaaPrIns
namespace Go.Proofs.Ytkegdcnnankokaa
set_option linter.unusedVariables false
set_option linter.unusedSimpArgs false
open Go.RowKit

structure Ins where
  op : Int
  a : Int
  b : Int
  n : Int
instance : Inhabited Ins := ⟨⟨0, 0, 0, 0⟩⟩

def Ins.err (x : Ins) (len : Int) : Int := insErr x.op x.a x.b x.n len
def Ins.val (x : Ins) : Value := .agg #[.int .i64 x.op, .int .i64 x.a, .int .i64 x.b, .int .i32 x.n]
/-- instructions lie in memory, one behind the other, from A on. -/
def InsAt (w : World) (A : Option Addr) (l : List Ins) : Prop :=
  ∀ (i : Nat) (h : i < l.length), ∃ ad, A = some ad ∧ w.cell? (ad.add (i * 4)) = some (.int .i64 l[i].op) ∧ w.cell? ⟨(ad.add (i * 4)).block, (ad.add (i * 4)).off + 1, none⟩ = some (.int .i64 l[i].a) ∧
    w.cell? ⟨(ad.add (i * 4)).block, (ad.add (i * 4)).off + 2, none⟩ = some (.int .i64 l[i].b) ∧ w.cell? ⟨(ad.add (i * 4)).block, (ad.add (i * 4)).off + 3, none⟩ = some (.int .i32 l[i].n)
theorem InsAt.below {w w1 : World} {A : Option Addr} {l : List Ins} (h : InsAt w A l) (hb : Below w.heap.size w w1) : InsAt w1 A l := fun i hi => by
  obtain ⟨ad, e, c0, c1, c2, c3⟩ := h i hi
  exact ⟨ad, e, bel_cell hb c0, bel_cell hb c1, bel_cell hb c2, bel_cell hb c3⟩
def InsWf (l : List Ins) : Prop := ∀ x ∈ l, -2147483648 ≤ x.n ∧ x.n ≤ 2147483647

/-- the first instruction that is wrong, from place i on. -/
def firstErr (len : Int) : List Ins → Int → Option (Int × Int)
  | [], _ => none
  | x :: l, i => if x.err len = 0 then firstErr len l (i + 1) else some (x.err len, i)
def lastOp (l : List Ins) : Int := (l.getD (l.length - 1) default).op
def checkL (l : List Ins) : Int × Int :=
  match firstErr l.length l 0 with
  | some r => r
  | none => if lastOp l = 4 ∨ lastOp l = 14 then (0, 0) else (32, (l.length : Int) - 1)
def checkS (prio : Int) (l : List Ins) : Int × Int :=
  if prio < 0 ∨ 3 < prio then (26, 0) else if l.length = 0 ∨ 64 < l.length then (33, 0) else checkL l

def twoPost (w : World) (r : Int × Int) (e : Ending) (w' : World) : Prop := e = .returned (.tuple #[.int .i64 r.1, .int .i64 r.2]) ∧ Below w.heap.size w w'

theorem firstErr_at (len : Int) : ∀ (l : List Ins) (i : Int) (k : Nat) (hk : k < l.length), (∀ j (hj : j < l.length), j < k → l[j].err len = 0) → l[k].err len ≠ 0 → firstErr len l i = some (l[k].err len, i + k)
  | x :: l, i, 0, _, _, h2 => by
    have h2' : x.err len ≠ 0 := h2
    simp [firstErr, h2']
  | x :: l, i, k + 1, hk, h1, h2 => by
    have h0 : x.err len = 0 := h1 0 (by simp) (by omega)
    have := firstErr_at len l (i + 1) k (by simpa using hk) (fun j hj hjk => h1 (j + 1) (by simpa using hj) (by omega)) h2
    simp only [firstErr, h0, if_true, List.getElem_cons_succ]
    rw [this]
    congr 2
    push_cast; omega
theorem firstErr_none (len : Int) : ∀ (l : List Ins) (i : Int), (∀ j (hj : j < l.length), l[j].err len = 0) → firstErr len l i = none
  | [], _, _ => rfl
  | x :: l, i, h => by
    have h0 : x.err len = 0 := h 0 (by simp)
    simp only [firstErr, h0, if_true]
    exact firstErr_none len l (i + 1) (fun j hj => h (j + 1) (by simpa using hj))

set_option maxHeartbeats 1000000 in
theorem check_prio (prio : Int) (A : Option Addr) (n c : Nat) (w : World) (h : prio < 0 ∨ 3 < prio) :
    Calls Try.prog 59 #[.agg #[.int .i64 prio, .slice A n c]] w (twoPost w (26, 0)) := by
  by_cases h1 : prio < 0
  · go_enter Try.func59, Try.ntmps59
    go_wp2_with fail
    go_ret2
    refine ⟨rfl, ?_⟩
    repeat (first | exact bel_refl _ | with_reducible apply bel_alloc | with_reducible apply bel_ext | with_reducible apply bel_drew | with_reducible apply bel_drewN | ((with_reducible refine bel_set ?_ (by simp <;> omega))) | ((with_reducible refine bel_trans ?_ (by assumption))))
  · have h2 : 3 < prio := by omega
    go_enter Try.func59, Try.ntmps59
    go_wp2_with fail
    go_ret2
    refine ⟨rfl, ?_⟩
    repeat (first | exact bel_refl _ | with_reducible apply bel_alloc | with_reducible apply bel_ext | with_reducible apply bel_drew | with_reducible apply bel_drewN | ((with_reducible refine bel_set ?_ (by simp <;> omega))) | ((with_reducible refine bel_trans ?_ (by assumption))))

set_option maxHeartbeats 1000000 in
theorem check_len (prio : Int) (A : Option Addr) (n c : Nat) (w : World) (h : ¬ prio < 0) (h3 : ¬ 3 < prio) (hn : n = 0 ∨ 64 < n) :
    Calls Try.prog 59 #[.agg #[.int .i64 prio, .slice A n c]] w (twoPost w (33, 0)) := by
  by_cases h1 : n = 0
  · subst h1
    go_enter Try.func59, Try.ntmps59
    go_wp2_with fail
    go_ret2
    refine ⟨rfl, ?_⟩
    repeat (first | exact bel_refl _ | with_reducible apply bel_alloc | with_reducible apply bel_ext | with_reducible apply bel_drew | with_reducible apply bel_drewN | ((with_reducible refine bel_set ?_ (by simp <;> omega))) | ((with_reducible refine bel_trans ?_ (by assumption))))
  · have h2 : 64 < n := by omega
    have h1' : ((n : Int) == 0) = false := beq_eq_false_iff_ne.2 (by omega)
    clear hn h1
    go_enter Try.func59, Try.ntmps59
    go_wp2_with fail
    go_ret2
    refine ⟨rfl, ?_⟩
    repeat (first | exact bel_refl _ | with_reducible apply bel_alloc | with_reducible apply bel_ext | with_reducible apply bel_drew | with_reducible apply bel_drewN | ((with_reducible refine bel_set ?_ (by simp <;> omega))) | ((with_reducible refine bel_trans ?_ (by assumption))))

set_option maxHeartbeats 2000000 in
theorem check_loop (prio : Int) (A : Option Addr) (c : Nat) (l : List Ins) (w : World) (h : ¬ prio < 0) (h3 : ¬ 3 < prio) (hn : 0 < l.length) (hn' : l.length ≤ 64) (hc : l.length ≤ c) (hA : InsAt w A l) (hwf : InsWf l) :
    Calls Try.prog 59 #[.agg #[.int .i64 prio, .slice A l.length c]] w
      (twoPost w (checkL l)) := by
  have h1' : ((l.length : Int) == 0) = false := beq_eq_false_iff_ne.2 (by omega)
  have HA := Lib.hid hA
  clear hA
  go_enter Try.func59, Try.ntmps59
  go_wp2_with fail
  go_loopw [32] (fun i wr => ∃ k : Nat, k ≤ l.length ∧ i = .int .i64 k ∧ (∀ j (hj : j < l.length), j < k → l[j].err l.length = 0) ∧ Below (w.heap.size + 1) (w.alloc (.cells #[.int .i64 prio, .slice A l.length c] 43)) wr) (fun i _ => l.length - (intOf i).toNat)
  case atStart => exact ⟨0, Nat.zero_le _, rfl, fun _ _ h => absurd h (by omega), Below.refl _ _⟩
  case round =>
    obtain ⟨k, hk, rfl, hall, hbr⟩ := hrel
    have Hall := Lib.hid hall
    clear hall
    have hs := hbr.size
    simp only [World.size_alloc] at hs
    have hz : w.heap.size < wr.heap.size := by omega
    have q0 : wr.cell? ⟨w.heap.size, 0, none⟩ = some (.int .i64 prio) := (hbr.cell (p := ⟨w.heap.size, 0, none⟩) (by simp)).trans (by simp)
    have q1 : wr.cell? ⟨w.heap.size, 1, none⟩ = some (.slice A l.length c) := (hbr.cell (p := ⟨w.heap.size, 1, none⟩) (by simp)).trans (by simp)
    have HB := Lib.hid (show Below w.heap.size w wr from bel_trans (bel_alloc (bel_refl w) _) (by simpa using hbr))
    by_cases hlt : k < l.length
    · obtain ⟨ad, hAd, c0, c1, c2, c3⟩ := (HA.out.below HB.out) k hlt
      subst hAd
      have hw := hwf l[k] (List.getElem_mem hlt)
      have HI : ∀ w1, Calls Try.prog 79 #[.agg #[.int .i64 l[k].op, .int .i64 l[k].a, .int .i64 l[k].b, .int .i32 l[k].n], .int .i64 l.length] w1 (intPost w1 (l[k].err l.length)) :=
        fun w1 => ins_any _ _ _ _ _ _ hw.1 hw.2
      generalize hE : l[k].err l.length = E at HI
      have HE := Lib.hid hE
      clear hE hw
      by_cases he : E = 0
      · subst he
        go_wp2_with fail
        refine (HI _).mono ?_
        rintro e w1 ⟨rfl, hbw1⟩
        go_wp2_with fail
        go_roundw
        case rel =>
          refine ⟨k + 1, by omega, by go_num, ?_, ?_⟩
          · intro j hj hjk
            by_cases hjk' : j < k
            · exact Hall.out j hj hjk'
            · obtain rfl : j = k := by omega
              exact HE.out
          · exact (hbr.alloc (by omega) _).trans (hbw1.mono (by simp; omega))
        case measure => simp [intOf]; omega
      · have he' : (E != 0) = true := by rw [bne_iff_ne]; exact he
        have hfin : checkL l = (E, (k : Int)) := by
          have := firstErr_at l.length l 0 k hlt Hall.out (by rw [HE.out]; exact he)
          simp only [checkL, this, HE.out]; simp
        have Hfin := Lib.hid hfin
        clear hfin
        go_wp2_with fail
        refine (HI _).mono ?_
        rintro e w1 ⟨rfl, hbw1⟩
        go_wp2_with fail
        go_ret2
        refine ⟨?_, ?_⟩
        · rw [Hfin.out]; rfl
        · exact bel_trans (bel_alloc HB.out _) hbw1
    · obtain rfl : k = l.length := by omega
      have hfin : checkL l = if lastOp l = 4 ∨ lastOp l = 14 then (0, 0) else (32, (l.length : Int) - 1) := by
        simp only [checkL, firstErr_none l.length l 0 (fun j hj => Hall.out j hj hj)]
      obtain ⟨ad, hAd, c0, c1, c2, c3⟩ := (HA.out.below HB.out) (l.length - 1) (by omega)
      subst hAd
      have hl : lastOp l = l[l.length - 1].op := by simp [lastOp, List.getD, List.getElem?_eq_getElem (show l.length - 1 < l.length by omega)]
      rw [← hl] at c0
      clear hl c1 c2 c3
      generalize lastOp l = o at c0 hfin
      have Hfin := Lib.hid hfin
      clear hfin
      have e1 : ((l.length : Int) - 1).toNat = l.length - 1 := by omega
      by_cases h4 : o = 4
      · subst h4
        go_wp2_with fail
        go_ret2
        exact ⟨by rw [Hfin.out]; rfl, HB.out⟩
      · have h4' : (o != 4) = true := by rw [bne_iff_ne]; exact h4
        by_cases h14 : o = 14
        · subst h14
          go_wp2_with fail
          go_ret2
          exact ⟨by rw [Hfin.out]; rfl, HB.out⟩
        · have h14' : (o != 14) = true := by rw [bne_iff_ne]; exact h14
          go_wp2_with fail
          go_ret2
          exact ⟨by rw [Hfin.out, if_neg (by omega)]; rfl, HB.out⟩

theorem check_any (prio : Int) (A : Option Addr) (c : Nat) (l : List Ins) (w : World) (hc : l.length ≤ c) (hA : InsAt w A l) (hwf : InsWf l) :
    Calls Try.prog 59 #[.agg #[.int .i64 prio, .slice A l.length c]] w (twoPost w (checkS prio l)) := by
  unfold checkS
  by_cases h : prio < 0 ∨ 3 < prio
  · rw [if_pos h]; exact check_prio prio A _ c w h
  · rw [if_neg h]
    by_cases h2 : l.length = 0 ∨ 64 < l.length
    · rw [if_pos h2]; exact check_len prio A _ c w (by omega) (by omega) h2
    · rw [if_neg h2]; exact check_loop prio A c l w (by omega) (by omega) (by omega) (by omega) hc hA hwf

end Go.Proofs.Ytkegdcnnankokaa
