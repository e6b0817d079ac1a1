/-
The lines of any row of events, plain.
-/
import Derived.Test.YtkegdcnnankokaaGanLives
import Derived.Test.YtkegdcnnankokaaPGanx6
namespace Go.Proofs.Ytkegdcnnankokaa.PGan
set_option linter.unusedVariables false
set_option linter.unusedSimpArgs false
open Go.RowKit Go.Proofs.YtkegdcnnankokaaW.PrintWords Go.Proofs.YtkegdcnnankokaaW.PrintLast Go.Proofs.YtkegdcnnankokaaW.PrintMore
theorem ba_app (a b : List UInt8) : ((⟨a.toArray⟩ : ByteArray) ++ ⟨b.toArray⟩) = ⟨(a ++ b).toArray⟩ := by
  apply ByteArray.ext
  rw [ByteArray.data_append]
  simp
theorem nums_dch : ∀ k : Fin 10, strOfNums [(48 + (k.val : Int)) % 256] = (⟨#[PGad.dch k.val]⟩ : ByteArray) := by decide +kernel
theorem nums_one (n : Nat) : strOfNums [(48 + ((n % 10 : Nat) : Int)) % 256] = (⟨#[PGad.dch (n % 10)]⟩ : ByteArray) := nums_dch ⟨n % 10, by omega⟩
theorem dec_pos {n : Nat} : PGad.decP (n : Int) = PGad.digs n := by
  unfold PGad.decP
  rw [if_neg (by omega)]
  rfl
theorem dec_neg {n : Nat} (h : 0 < n) : PGad.decP (-(n : Int)) = ⟨#[45]⟩ ++ PGad.digs n := by
  unfold PGad.decP
  rw [if_pos (by omega)]
  simp
theorem dec_l0p : ∀ (m n i : Nat) (s : ByteArray), n < 10 ^ (m + 1) → n < 9223372036854775808 → i + m ≤ 18 → s.size ≤ i → EvP (fun k => pinfoldref09_Dec.l0 k (n : Int) s (i : Int)) (· = PGad.digs n ++ s) := by
  intro m
  induction m with
  | zero =>
    intro n i s h hb hi hs
    have e2 : Int.tmod (n : Int) 10 = ((n % 10 : Nat) : Int) := rfl
    refine EvP.succ ?_
    simp only [pinfoldref09_Dec.l0]
    refine EvP.pos (by omega) (EvP.succ ?_)
    simp only [pinfoldref09_Dec.j1]
    rw [e2]
    refine EvP.pos trivial (EvP.neg (by omega) (EvP.bindS rfl ?_))
    rw [wrap_nat (n := 48 + ((n % 10 : Nat) : Int)) (by omega) (by omega), nums_one]
    have h10 : n < 10 := by omega
    refine EvP.pos ?_ (EvP.pos (by omega) (EvP.pos (by omega) (EvP.neg (by omega) (EvP.now ?_))))
    · show 1 + s.size ≤ _
      omega
    · rw [PGad.digs_small h10, Nat.mod_eq_of_lt h10]
  | succ m ih =>
    intro n i s h hb hi hs
    have e2 : Int.tmod (n : Int) 10 = ((n % 10 : Nat) : Int) := rfl
    have e1 : wrap64 (Int.tdiv (n : Int) 10) = ((n / 10 : Nat) : Int) := by
      have : Int.tdiv (n : Int) 10 = ((n / 10 : Nat) : Int) := rfl
      rw [this]
      exact wrap_nat (by omega) (by omega)
    refine EvP.succ ?_
    simp only [pinfoldref09_Dec.l0]
    refine EvP.pos (by omega) (EvP.succ ?_)
    simp only [pinfoldref09_Dec.j1]
    rw [e2, e1]
    refine EvP.pos trivial (EvP.neg (by omega) (EvP.bindS rfl ?_))
    rw [wrap_nat (n := 48 + ((n % 10 : Nat) : Int)) (by omega) (by omega), nums_one]
    refine EvP.pos ?_ (EvP.pos (by omega) (EvP.ite (fun c => EvP.neg (by omega) (EvP.now ?_)) (fun c => ?_)))
    · show 1 + s.size ≤ _
      omega
    · rw [PGad.digs_small (by omega), Nat.mod_eq_of_lt (by omega)]
    · rw [wrap_up (by omega)]
      have := ih (n / 10) (i + 1) (⟨#[PGad.dch (n % 10)]⟩ ++ s) (by rw [Nat.pow_succ] at h; omega) (by omega) (by omega) (by rw [ByteArray.size_append]; show 1 + s.size ≤ _; omega)
      rw [PGad.digs_big (by omega), ByteArray.append_assoc]
      exact this
theorem dec_l0n : ∀ (m n i : Nat) (s : ByteArray), 0 < n → n < 10 ^ (m + 1) → n ≤ 9223372036854775808 → i + m ≤ 18 → s.size ≤ i → EvP (fun k => pinfoldref09_Dec.l0 k (-(n : Int)) s (i : Int)) (· = ⟨#[45]⟩ ++ (PGad.digs n ++ s)) := by
  intro m
  induction m with
  | zero =>
    intro n i s h0 h hb hi hs
    have e2 : Int.tmod (-(n : Int)) 10 = -((n % 10 : Nat) : Int) := by rw [Int.neg_tmod]; rfl
    have h10 : n < 10 := by omega
    have hm : n % 10 = n := Nat.mod_eq_of_lt h10
    refine EvP.succ ?_
    simp only [pinfoldref09_Dec.l0]
    refine EvP.pos (by omega) (EvP.succ ?_)
    simp only [pinfoldref09_Dec.j1]
    rw [e2]
    refine EvP.pos trivial (EvP.pos (by omega) (EvP.bindS rfl ?_))
    rw [Int.neg_neg, wrap_nat (n := ((n % 10 : Nat) : Int)) (by omega) (by omega), wrap_nat (n := 48 + ((n % 10 : Nat) : Int)) (by omega) (by omega), nums_one]
    refine EvP.pos ?_ (EvP.pos (by omega) (EvP.pos (by omega) (EvP.pos (by omega) (EvP.pos ?_ (EvP.now ?_)))))
    · show 1 + s.size ≤ _
      omega
    · rw [ByteArray.size_append]
      show 1 + (1 + s.size) ≤ _
      omega
    · rw [PGad.digs_small h10, hm]
  | succ m ih =>
    intro n i s h0 h hb hi hs
    have e2 : Int.tmod (-(n : Int)) 10 = -((n % 10 : Nat) : Int) := by rw [Int.neg_tmod]; rfl
    have e1 : wrap64 (Int.tdiv (-(n : Int)) 10) = -((n / 10 : Nat) : Int) := by
      have : Int.tdiv (-(n : Int)) 10 = -((n / 10 : Nat) : Int) := by rw [Int.neg_tdiv]; rfl
      rw [this]
      exact wrap_nat (by omega) (by omega)
    refine EvP.succ ?_
    simp only [pinfoldref09_Dec.l0]
    refine EvP.pos (by omega) (EvP.succ ?_)
    simp only [pinfoldref09_Dec.j1]
    rw [e2, e1]
    have tail : EvP (fun k => if (⟨#[PGad.dch (n % 10)]⟩ : ByteArray).size + s.size ≤ 9223372036854775807 then (if -(n : Int) > (-10) then (if -(n : Int) < 10 then (if -(n : Int) < 0 then (if 1 + ((⟨#[PGad.dch (n % 10)]⟩ : ByteArray) ++ s).size ≤ 9223372036854775807 then (some ((⟨#[45]⟩ : ByteArray) ++ ((⟨#[PGad.dch (n % 10)]⟩ : ByteArray) ++ s))) else (none)) else (some ((⟨#[PGad.dch (n % 10)]⟩ : ByteArray) ++ s))) else (pinfoldref09_Dec.l0 k (-((n / 10 : Nat) : Int)) ((⟨#[PGad.dch (n % 10)]⟩ : ByteArray) ++ s) (wrap64 ((i : Int) + 1)))) else (pinfoldref09_Dec.l0 k (-((n / 10 : Nat) : Int)) ((⟨#[PGad.dch (n % 10)]⟩ : ByteArray) ++ s) (wrap64 ((i : Int) + 1)))) else none) (· = ⟨#[45]⟩ ++ (PGad.digs n ++ s)) := by
      refine EvP.pos ?_ (EvP.ite (fun c => EvP.pos (by omega) (EvP.pos (by omega) (EvP.pos ?_ (EvP.now ?_)))) (fun c => ?_))
      · show 1 + s.size ≤ _
        omega
      · rw [ByteArray.size_append]
        show 1 + (1 + s.size) ≤ _
        omega
      · rw [PGad.digs_small (by omega), Nat.mod_eq_of_lt (by omega)]
      · rw [wrap_up (by omega)]
        have := ih (n / 10) (i + 1) (⟨#[PGad.dch (n % 10)]⟩ ++ s) (by omega) (by rw [Nat.pow_succ] at h; omega) (by omega) (by omega) (by rw [ByteArray.size_append]; show 1 + s.size ≤ _; omega)
        rw [PGad.digs_big (by omega), ByteArray.append_assoc]
        exact this
    refine EvP.pos trivial (EvP.ite (fun c => EvP.bindS rfl ?_) (fun c => EvP.bindS rfl ?_))
    · rw [Int.neg_neg, wrap_nat (n := ((n % 10 : Nat) : Int)) (by omega) (by omega), wrap_nat (n := 48 + ((n % 10 : Nat) : Int)) (by omega) (by omega), nums_one]
      exact tail
    · have hz : n % 10 = 0 := by omega
      have hz2 : strOfNums [wrap64 (48 + -((n % 10 : Nat) : Int)) % 256] = (⟨#[PGad.dch (n % 10)]⟩ : ByteArray) := by
        rw [hz]; decide +kernel
      rw [hz2]
      exact tail
theorem dec_ref (n : Int) (h0 : -9223372036854775808 ≤ n) (h1 : n ≤ 9223372036854775807) : EvP (fun k => pinfoldref09_Dec.f k n) (· = PGad.decP n) := by
  simp only [pinfoldref09_Dec.f]
  by_cases h : 0 ≤ n
  · have e : n = ((n.toNat : Nat) : Int) := by omega
    rw [e, dec_pos]
    refine (dec_l0p 18 n.toNat 0 ⟨#[]⟩ (by omega) (by omega) (by omega) (by show (0 : Nat) ≤ 0; omega)).mono fun r hr => ?_
    rw [hr]
    exact ByteArray.append_empty
  · have e : n = -((n.natAbs : Nat) : Int) := by omega
    rw [e, dec_neg (by omega)]
    refine (dec_l0n 18 n.natAbs 0 ⟨#[]⟩ (by omega) (by omega) (by omega) (by omega) (by show (0 : Nat) ≤ 0; omega)).mono fun r hr => ?_
    rw [hr]
    exact congrArg _ ByteArray.append_empty
theorem drop_atD {l : List S36} {i : Nat} {e : S36} {es : List S36} (h : l.drop i = e :: es) : i < l.length ∧ rd_T36 l (i : Int) = e ∧ l.drop (i + 1) = es := by
  have hi : i < l.length := by
    rcases Nat.lt_or_ge i l.length with q | q
    · exact q
    · rw [List.drop_eq_nil_of_le q] at h; cases h
  rw [List.drop_eq_getElem_cons hi] at h
  injection h with h1 h2
  exact ⟨hi, by simp [rd_T36, hi, h1], h2⟩
section
variable (l : List S36) (cpu : Int)
theorem sign_l1 (hl : l.length ≤ 60) (e : S36) (x5 x6 : Int) (o : Nat) (ho : o < l.length) (R : ByteArray)
    (next : EvP (fun k => pinfoldref30_Sign.l0 k l cpu (bestStep l cpu (x5, x6) e).1 (bestStep l cpu (x5, x6) e).2 l (l.length : Int) ((o + 1 : Nat) : Int)) (· = R)) : ∀ (fs : List S36) (j : Nat) (n : Nat), l.drop j = fs → j ≤ l.length → n ≤ j → cntT l cpu e.f1 = n + cntT fs cpu e.f1 →
    EvP (fun k => pinfoldref30_Sign.l1 k l cpu x5 x6 (n : Int) l (l.length : Int) (o : Int) l (l.length : Int) (j : Int) e.f0 e.f1 e.f2 e.f3 e.f4) (· = R) := by
  intro fs
  induction fs with
  | nil =>
    intro j n h hj hn hc
    have hjl : j = l.length := by have := List.drop_eq_nil_iff.1 h; omega
    subst hjl
    have hc' : cntT l cpu e.f1 = n := by simpa [cntT] using hc
    refine EvP.succ ?_
    simp only [pinfoldref30_Sign.l1]
    rw [wrap_up (i := o) (by omega)]
    unfold bestStep at next
    rw [hc'] at next
    refine EvP.neg (by omega) (EvP.ite (fun c => ?_) (fun c => EvP.ite (fun c2 => EvP.ite (fun c3 => EvP.ite (fun c4 => ?_) (fun c4 => ?_)) (fun c3 => ?_)) (fun c2 => ?_)))
    · rw [if_pos (.inl c)] at next; exact next
    · rw [if_pos (.inr ⟨c2, by omega, c4⟩)] at next; exact next
    · rw [if_neg (by rintro (q | q); exact c q; exact c4 q.2.2)] at next; exact next
    · rw [if_neg (by rintro (q | q); exact c q; exact c3 (by omega))] at next; exact next
    · rw [if_neg (by rintro (q | q); exact c q; exact c2 q.1)] at next; exact next
  | cons f fs ih =>
    intro j n h hj hn hc
    obtain ⟨q1, q2, q3⟩ := drop_atD h
    have hcs : cntT (f :: fs) cpu e.f1 = cntT fs cpu e.f1 + if f.f0 = 3 ∧ f.f2 = cpu ∧ f.f1 = e.f1 then 1 else 0 := by
      unfold cntT
      rw [List.countP_cons]
      congr 1
      simp [and_assoc]
    rw [hcs] at hc
    refine EvP.succ ?_
    simp only [pinfoldref30_Sign.l1]
    rw [q2, wrap_up (i := j) (by omega), wrap_up (i := n) (by omega)]
    refine EvP.pos (by omega) (EvP.pos (by omega) (EvP.pos (by omega) (EvP.ite (fun c => EvP.ite (fun c2 => EvP.ite (fun c3 => ?_) (fun c3 => ?_)) (fun c2 => ?_)) (fun c => ?_))))
    · rw [if_pos ⟨c, c2, c3⟩] at hc
      exact ih (j + 1) (n + 1) q3 (by omega) (by omega) (by omega)
    · rw [if_neg (fun q => c3 q.2.2)] at hc
      exact ih (j + 1) n q3 (by omega) (by omega) (by omega)
    · rw [if_neg (fun q => c2 q.2.1)] at hc
      exact ih (j + 1) n q3 (by omega) (by omega) (by omega)
    · rw [if_neg (fun q => c q.1)] at hc
      exact ih (j + 1) n q3 (by omega) (by omega) (by omega)
theorem sign_l0 (hl : l.length ≤ 60) (hw : ∀ e ∈ l, (Lit.int .i64 e.f1).wf = true) : ∀ (es : List S36) (o : Nat) (p : Int × Int), l.drop o = es → o ≤ l.length → (-9223372036854775808 ≤ p.1 ∧ p.1 ≤ 9223372036854775807) →
    EvP (fun k => pinfoldref30_Sign.l0 k l cpu p.1 p.2 l (l.length : Int) (o : Int)) (· = ⟨#[UInt8.ofNat (sgn (es.foldl (bestStep l cpu) p).1 (es.foldl (bestStep l cpu) p).2).toNat]⟩) := by
  intro es
  induction es with
  | nil =>
    intro o p h ho hp
    have hol : o = l.length := by have := List.drop_eq_nil_iff.1 h; omega
    subst hol
    refine EvP.succ ?_
    simp only [pinfoldref30_Sign.l0, List.foldl_nil]
    refine EvP.neg (by omega) (EvP.ite (fun c => EvP.now ?_) (fun c => EvP.bind (dec_ref p.1 hp.1 hp.2) ?_))
    · unfold sgn
      rw [if_pos c]
      rfl
    · rintro _ rfl
      obtain ⟨s, hs⟩ := PGad.decP_last p.1
      have hz := PGad.decP_size p.1 hp.1 hp.2
      have hsz : (PGad.decP p.1).size = s.size + 1 := by rw [hs, ByteArray.size_append]; rfl
      rw [wrap_nat (n := ((PGad.decP p.1).size : Int) - 1) (by omega) (by omega)]
      refine EvP.pos (by omega) (EvP.pos (by omega) (EvP.now ?_))
      have e1 : (((PGad.decP p.1).size : Int) - 1).toNat = s.size := by omega
      rw [e1, hsz, hs]
      unfold sgn
      rw [if_neg c]
      apply ByteArray.ext
      apply Array.ext_getElem?
      intro i
      have ha : (s ++ (⟨#[PGad.dch (p.1.natAbs % 10)]⟩ : ByteArray)).data = s.data ++ #[PGad.dch (p.1.natAbs % 10)] := ByteArray.data_append
      have hss : s.data.size = s.size := rfl
      rw [ByteArray.data_extract, ha, Array.getElem?_extract]
      by_cases hi : i = 0
      · subst hi
        rw [if_pos (by simp <;> omega)]
        rw [Nat.add_zero, Array.getElem?_append_right (by omega)]
        simp [hss]
      · rw [if_neg (by simp <;> omega)]
        simp [hi]
  | cons e es ih =>
    intro o p h ho hp
    obtain ⟨q1, q2, q3⟩ := drop_atD h
    have hem : e ∈ l := by
      have : e ∈ l.drop o := by rw [h]; simp
      exact List.mem_of_mem_drop this
    have hb := wf_b64 (hw e hem)
    have hp' : -9223372036854775808 ≤ (bestStep l cpu p e).1 ∧ (bestStep l cpu p e).1 ≤ 9223372036854775807 := by
      unfold bestStep; split
      · exact hb
      · exact hp
    have next := ih (o + 1) (bestStep l cpu p e) q3 (by omega) hp'
    refine EvP.succ ?_
    simp only [pinfoldref30_Sign.l0]
    rw [q2]
    refine EvP.pos (by omega) (EvP.pos (by omega) (EvP.pos (by omega) ?_))
    exact sign_l1 l cpu hl e p.1 p.2 o q1 _ next l 0 0 rfl (by omega) (by omega) (by omega)
theorem sign_f (hl : l.length ≤ 60) (hw : ∀ e ∈ l, (Lit.int .i64 e.f1).wf = true) : EvP (fun k => pinfoldref30_Sign.f k l cpu) (· = ⟨#[UInt8.ofNat (signP l cpu).toNat]⟩) := by
  simp only [pinfoldref30_Sign.f]
  exact sign_l0 l cpu hl hw l 0 (0, 0) rfl (by omega) ⟨by show (-9223372036854775808 : Int) ≤ 0; omega, by show (0 : Int) ≤ _; omega⟩
end
/-- a worker's line up to a place. -/
def lineTo (l : List S36) (W : Nat) (cpu : Int) (i : Nat) : ByteArray := ⟨((PGad.decP cpu).data.toList ++ 32 :: (List.range i).map (fun i => UInt8.ofNat (signP (part l W i) cpu).toNat)).toArray⟩
theorem lineTo_size (l : List S36) (W : Nat) (cpu : Int) (i : Nat) : (lineTo l W cpu i).size = (PGad.decP cpu).size + 1 + i := by
  show (lineTo l W cpu i).data.size = (PGad.decP cpu).data.size + 1 + i
  unfold lineTo
  simp
  omega
theorem lineTo_succ (l : List S36) (W : Nat) (cpu : Int) (i : Nat) : lineTo l W cpu i ++ ⟨#[UInt8.ofNat (signP (part l W i) cpu).toNat]⟩ = lineTo l W cpu (i + 1) := by
  unfold lineTo
  have := ba_app ((PGad.decP cpu).data.toList ++ 32 :: (List.range i).map (fun i => UInt8.ofNat (signP (part l W i) cpu).toNat)) [UInt8.ofNat (signP (part l W i) cpu).toNat]
  rw [this, List.range_succ, List.map_append]
  simp
theorem line_l0 (l : List S36) (hl : l.length ≤ 60) (hw : ∀ e ∈ l, (Lit.int .i64 e.f1).wf = true) (cpu : Int) (hcz : (PGad.decP cpu).size ≤ 21) (W : Nat) (hW : W ≤ 200) : ∀ (d i : Nat), W - i = d → i ≤ W → EvP (fun k => pinfoldref30_Line.l0 k l cpu (W : Int) (lineTo l W cpu i) (i : Int)) (· = lineTo l W cpu W) := by
  intro d
  induction d with
  | zero =>
    intro i hd hi
    obtain rfl : i = W := by omega
    refine EvP.succ ?_
    simp only [pinfoldref30_Line.l0]
    exact EvP.neg (by omega) (EvP.now rfl)
  | succ d ih =>
    intro i hd hi
    have hiW : i < W := by omega
    have hb := part_b l.length W i hiW
    have n1 := part_n l.length W i hl (by omega)
    have n2 := part_n l.length W (i + 1) hl (by omega)
    refine EvP.succ ?_
    simp only [pinfoldref30_Line.l0]
    rw [wrap_up (by omega), n1.1, n1.2, n2.1, n2.2]
    simp only [Int.toNat_natCast]
    have hpl : (part l W i).length ≤ 60 := Nat.le_trans (part_le l W i) hl
    have hs := sign_f (part l W i) cpu hpl (fun e he => hw e (part_sub he))
    generalize hq1 : i * l.length / W = q1 at hb
    generalize hq2 : (i + 1) * l.length / W = q2 at hb
    refine EvP.pos (by omega) (EvP.neg (by omega) (EvP.pos (by omega) (EvP.pos (by omega) (EvP.pos (by omega) (EvP.bind (Q := (· = ⟨#[UInt8.ofNat (signP (part l W i) cpu).toNat]⟩)) ?_ ?_)))))
    · have e : (l.take q2).drop q1 = part l W i := by unfold part; rw [hq1, hq2]
      rw [e]
      exact hs
    · rintro _ rfl
      refine EvP.pos ?_ ?_
      · rw [lineTo_size]
        show _ + 1 ≤ _
        omega
      · rw [lineTo_succ]
        exact ih (i + 1) (by omega) (by omega)
theorem line_f (l : List S36) (hl : l.length ≤ 60) (hw : ∀ e ∈ l, (Lit.int .i64 e.f1).wf = true) (cpu width : Int) (h : (Lit.int .i64 cpu).wf = true) : EvP (fun k => pinfoldref30_Line.f k l cpu width) (· = lineD l (wid width) cpu) := by
  have hb := wf_b64 h
  have hz := PGad.decP_size cpu hb.1 hb.2
  have hW : wid width ≤ 200 := by unfold wid; omega
  have fin : EvP (fun k => pinfoldref30_Line.j1 k l cpu ((wid width : Nat) : Int)) (· = lineD l (wid width) cpu) := by
    refine EvP.succ ?_
    simp only [pinfoldref30_Line.j1]
    refine EvP.bind (dec_ref cpu hb.1 hb.2) ?_
    rintro _ rfl
    refine EvP.pos (by omega) ?_
    have := line_l0 l hl hw cpu hz (wid width) hW _ 0 rfl (by omega)
    have e : lineTo l (wid width) cpu 0 = PGad.decP cpu ++ (⟨#[32]⟩ : ByteArray) := by
      have h8 := ba_app (PGad.decP cpu).data.toList [32]
      have h9 : (⟨(PGad.decP cpu).data.toList.toArray⟩ : ByteArray) = PGad.decP cpu := by simp
      rw [h9] at h8
      exact h8.symm
    rw [e] at this
    exact this
  simp only [pinfoldref30_Line.f]
  refine EvP.ite (fun c => EvP.succ ?_) (fun c => EvP.succ ?_)
  · simp only [pinfoldref30_Line.j0]
    have e : ((wid width : Nat) : Int) = 1 := by unfold wid; omega
    rw [e] at fin
    exact EvP.neg (by omega) fin
  · simp only [pinfoldref30_Line.j0]
    refine EvP.ite (fun c2 => ?_) (fun c2 => ?_)
    · have e : ((wid width : Nat) : Int) = 200 := by unfold wid; omega
      rw [e] at fin
      exact fin
    · have e : ((wid width : Nat) : Int) = width := by unfold wid; omega
      rw [e] at fin
      exact fin
theorem law_d0 (l : List S36) (hl : l.length ≤ 60) (hw : ∀ e ∈ l, (Lit.int .i64 e.f1).wf = true) (cpus : List Int) (hc : cpus.length ≤ 10) (hwc : ∀ n ∈ cpus, (Lit.int .i64 n).wf = true) (width : Int) :
    ∀ (d i : Nat), cpus.length - i = d → i ≤ cpus.length → EvP (fun k => pinfoldlaw30_GanttDraws.l0 k l width (drawP l cpus width) cpus (cpus.length : Int) (i : Int)) (· = true) := by
  intro d
  induction d with
  | zero =>
    intro i hd hi
    refine EvP.succ ?_
    simp only [pinfoldlaw30_GanttDraws.l0]
    exact EvP.neg (by omega) (EvP.bindS lives_true (EvP.now rfl))
  | succ d ih =>
    intro i hd hi
    have hic : i < cpus.length := by omega
    have hdl : (drawP l cpus width).length = cpus.length := by unfold drawP; simp
    have e : rdOf ByteArray.empty (drawP l cpus width) (i : Int) = lineD l (wid width) cpus[i] := by
      rw [rdOf_at (by omega)]
      unfold drawP
      simp
    refine EvP.succ ?_
    simp only [pinfoldlaw30_GanttDraws.l0]
    rw [e, rd_at hic, wrap_up (by omega), hdl]
    refine EvP.pos (by omega) (EvP.pos (by omega) (EvP.pos (by omega) (EvP.pos (by omega) (EvP.bind (line_f l hl hw _ width (hwc _ (List.getElem_mem hic))) ?_))))
    rintro _ rfl
    exact EvP.pos rfl (ih (i + 1) (by omega) (by omega))
theorem ganttDraws_f (l : List S36) (cpus : List Int) (width : Int) (hwf : ∀ e ∈ l, (Lit.int .i64 e.f1).wf = true ∧ (Lit.int .i64 e.f2).wf = true) (hwc : ∀ n ∈ cpus, (Lit.int .i64 n).wf = true) : EvP (fun k => pinfoldlaw30_GanttDraws.f k l cpus width) (· = true) := by
  simp only [pinfoldlaw30_GanttDraws.f]
  have hm : 0 ≤ mn (l.length : Int) 60 ∧ mn (l.length : Int) 60 ≤ (l.length : Int) := by unfold mn; split <;> omega
  have hm2 : 0 ≤ mn (cpus.length : Int) 10 ∧ mn (cpus.length : Int) 10 ≤ (cpus.length : Int) := by unfold mn; split <;> omega
  refine EvP.pos hm.1 (EvP.pos hm.2 (EvP.bindS rfl (EvP.pos hm2.1 (EvP.pos hm2.2 ?_))))
  obtain ⟨L, hL⟩ : ∃ L, l.take (mn (l.length : Int) 60).toNat = L := ⟨_, rfl⟩
  obtain ⟨C, hC⟩ : ∃ C, cpus.take (mn (cpus.length : Int) 10).toNat = C := ⟨_, rfl⟩
  rw [hL, hC]
  have h1 : L.length ≤ 60 := by rw [← hL, List.length_take]; unfold mn; split <;> omega
  have h2 : C.length ≤ 10 := by rw [← hC, List.length_take]; unfold mn; split <;> omega
  have h3 : ∀ e ∈ L, (Lit.int .i64 e.f1).wf = true := fun e he => (hwf e (List.mem_of_mem_take (hL ▸ he))).1
  have h4 : ∀ n ∈ C, (Lit.int .i64 n).wf = true := fun n hn => hwc n (List.mem_of_mem_take (hC ▸ hn))
  refine EvP.bindS (b := drawP L C width) (by unfold gantt_Draw.f; rw [if_pos ⟨h1, h2, h3, h4⟩]) ?_
  refine EvP.pos (by unfold drawP; simp) ?_
  exact law_d0 L h1 h3 C h2 h4 width _ 0 rfl (by omega)
end Go.Proofs.Ytkegdcnnankokaa.PGan
