/-
One thing is done to the heap and to the document's list, walked.
-/
import Derived.Test.YtkegdcnnankokaaHeapAlike
import Derived.Deep.QuietTactic
import Derived.BigQuiet
import Derived.Deep.RegionHeld3
namespace Go.Proofs.Ytkegdcnnankokaa.Hpi
set_option linter.unusedVariables false
set_option linter.unusedSimpArgs false
open Go.Maps Go.RowKit Go.Proofs.YtkegdcnnankokaaW.PrintWords Go.Proofs.YtkegdcnnankokaaW.PrintLast Go.Proofs.YtkegdcnnankokaaW.PrintMore Hp Go.Proofs.Ytkegdcnnankokaa.PHpb
def Stays (wp w w' : World) : Prop := ∀ k, wp.heap.size ≤ k → k < w.heap.size → w'.heap[k]? = w.heap[k]?
def DoPost (w0 wp w : World) (h kk : Nat) (e : Ending) (w' : World) : Prop := ∃ F' l' s' seq' A' n' c', e = .returned (.tuple #[.slice A' n' c', .bool true]) ∧ HS w0 w' h (kk + 1) F' l' s' seq' A' n' c' ∧ Stays wp w w'
section
variable {w0 wp w w1 w2 : World} {h kk seq n c : Nat} {F F' : Nat → Prop} {l l' s s' : List (It Int)} {A : Option Addr}
theorem Stays.of (hb : Below w.heap.size w w1) : Stays wp w w1 := fun k _ h2 => hb.block k h2
theorem Stays.fr (hb : Below w.heap.size w w1) (hF : Fr F w1 w2) (hl : ∀ k, F k → k < wp.heap.size) : Stays wp w w2 := fun k h1 h2 =>
  (hF.block k (Nat.lt_of_lt_of_le h2 hb.size) (fun f => absurd (hl k f) (Nat.not_lt.2 h1))).trans (hb.block k h2)
theorem Stays.then_ (hs : Stays wp w w1) (hsz : w.heap.size ≤ w1.heap.size) (hb : Below w1.heap.size w1 w2) : Stays wp w w2 := fun k h1 h2 => (hb.block k (Nat.lt_of_lt_of_le h2 hsz)).trans (hs k h1 h2)
/-- behind a call of the heap's that changes its list. -/
theorem HS.next {N' M' seq' : Nat} (H : HS w0 w1 h kk F l s seq A n c) (hp : HpAt w2 h F' N' M' l' seq') (hN : N' ≤ bnd (kk + 1)) (hM : M' ≤ kk + 1) (hr : Rep l' s') (hq : ∀ a ∈ s', a.f1 < (seq' : Int)) (hF : Fr F w1 w2) (hF' : ∀ k, F' k → F k ∨ w1.heap.size ≤ k) {A' : Option Addr} {n' c' : Nat} (hd : DocR w0 w2 F' A' n' c' (s'.map toR)) : HS w0 w2 h (kk + 1) F' l' s' seq' A' n' c' :=
  ⟨hp.more hN hM, hr, hq, fun k q => (hF' k q).elim (H.low k) (Nat.le_trans H.bel.size), H.bel.trans (hF.to_below H.bel.size H.low), hd⟩
theorem HS.same (H : HS w0 w1 h kk F l s seq A n c) : HS w0 w1 h (kk + 1) F l s seq A n c :=
  ⟨H.hp.more (bnd_up (Nat.le_succ _)) (Nat.le_succ _), H.rep, H.sq, H.low, H.bel, H.doc⟩
theorem bnd_succ (k : Nat) : bnd (k + 1) = bnd k + k * (2 * k + 3) + 2 * k + 4 := rfl
theorem tw_lt (ow : Int) : ∀ (s : List (It Int)) (k : Nat), k < (s.takeWhile (fun e => decide (e.f0 ≤ ow))).length → ∃ hk : k < s.length, s[k].f0 ≤ ow
  | [], k, h => by simp at h
  | a :: r, k, h => by
    by_cases q : a.f0 ≤ ow
    · rw [List.takeWhile_cons_of_pos (by simpa using q)] at h
      match k, h with
      | 0, _ => exact ⟨by simp, q⟩
      | k + 1, h =>
        obtain ⟨h1, h2⟩ := tw_lt ow r k (by simpa using h)
        exact ⟨by simpa using h1, h2⟩
    · rw [List.takeWhile_cons_of_neg (by simpa using q)] at h
      simp at h
theorem tw_end (ow : Int) : ∀ (s : List (It Int)), (s.takeWhile (fun e => decide (e.f0 ≤ ow))).length = s.length ∨ ∃ hk : (s.takeWhile (fun e => decide (e.f0 ≤ ow))).length < s.length, ¬ (s[(s.takeWhile (fun e => decide (e.f0 ≤ ow))).length]).f0 ≤ ow
  | [] => .inl rfl
  | a :: r => by
    by_cases q : a.f0 ≤ ow
    · have e : (a :: r).takeWhile (fun e => decide (e.f0 ≤ ow)) = a :: r.takeWhile (fun e => decide (e.f0 ≤ ow)) := List.takeWhile_cons_of_pos (by simpa using q)
      rcases tw_end ow r with h | ⟨h1, h2⟩
      · left; rw [e, List.length_cons, List.length_cons, h]
      · right
        refine ⟨by rw [e, List.length_cons, List.length_cons]; omega, ?_⟩
        simp only [e, List.length_cons, List.getElem_cons_succ]
        exact h2
    · have e : (a :: r).takeWhile (fun e => decide (e.f0 ≤ ow)) = [] := List.takeWhile_cons_of_neg (by simpa using q)
      right
      refine ⟨by rw [e]; simp, ?_⟩
      simp only [e, List.length_nil, List.getElem_cons_zero]
      exact q
theorem tw_take (ow : Int) : ∀ (s : List (It Int)), s.takeWhile (fun e => decide (e.f0 ≤ ow)) = s.take (s.takeWhile (fun e => decide (e.f0 ≤ ow))).length ∧ s.dropWhile (fun e => decide (e.f0 ≤ ow)) = s.drop (s.takeWhile (fun e => decide (e.f0 ≤ ow))).length
  | [] => ⟨rfl, rfl⟩
  | a :: r => by
    by_cases q : a.f0 ≤ ow
    · have e : (a :: r).takeWhile (fun e => decide (e.f0 ≤ ow)) = a :: r.takeWhile (fun e => decide (e.f0 ≤ ow)) := List.takeWhile_cons_of_pos (by simpa using q)
      have e2 : (a :: r).dropWhile (fun e => decide (e.f0 ≤ ow)) = r.dropWhile (fun e => decide (e.f0 ≤ ow)) := List.dropWhile_cons_of_pos (by simpa using q)
      obtain ⟨h1, h2⟩ := tw_take ow r
      rw [e, e2, List.length_cons, List.take_succ_cons, List.drop_succ_cons]
      exact ⟨by rw [← h1], h2⟩
    · have e : (a :: r).takeWhile (fun e => decide (e.f0 ≤ ow)) = [] := List.takeWhile_cons_of_neg (by simpa using q)
      have e2 : (a :: r).dropWhile (fun e => decide (e.f0 ≤ ow)) = a :: r := List.dropWhile_cons_of_neg (by simpa using q)
      rw [e, e2]
      exact ⟨rfl, rfl⟩
set_option maxRecDepth 100000 in
set_option maxHeartbeats 1200000 in
theorem do_put (H : HS w0 wp h kk F l s seq A n c) (hbw : Below wp.heap.size wp w) (hkk : kk + 1 ≤ 90) (ok ow ox : Int) (hk : 0 ≤ ok ∧ ok ≤ 18446744073709551615) (hx : wfk ox) (h4 : (ok % 7 == 4) = false) (h5 : (ok % 7 == 5) = false) (h6 : (ok % 7 == 6) = false) :
    Calls Try.prog 41 #[.pointer (some ⟨h, 0, none⟩), .slice A n c, .agg #[.int .u64 ok, .int .i64 ow, .int .i64 ox]] w (DoPost w0 wp w h kk) := by
  obtain ⟨O, hO⟩ : ∃ O, w.alloc (.cells #[.int .u64 ok, .int .i64 ow, .int .i64 ox] 78) = O := ⟨_, rfl⟩
  have hbO1 : Below w.heap.size w O := hO ▸ (Below.refl w.heap.size w).alloc (Nat.le_refl _) _
  have hblk : O.heap[w.heap.size]? = some (.cells #[.int .u64 ok, .int .i64 ow, .int .i64 ox] 78 (0, 0)) := by rw [← hO]; exact (MapKept.heap_alloc w _).1
  have g0 : O.cell? ⟨w.heap.size, 0, none⟩ = some (.int .u64 ok) := cell_of_heap hblk rfl
  have g1 : O.cell? ⟨w.heap.size, 1, none⟩ = some (.int .i64 ow) := cell_of_heap hblk rfl
  have g2 : O.cell? ⟨w.heap.size, 2, none⟩ = some (.int .i64 ox) := cell_of_heap hblk rfl
  have hbO : Below wp.heap.size wp O := bel_trans hbw hbO1
  have HAt : Hid (∀ W, Below wp.heap.size wp W → _) := Lib.hid (fun W hb => at_ask (c := c) ox (H.doc.behind hb).reads H.len H.doc.2.1 (by have := H.sk; omega))
  have HBO := Lib.hid hbO
  have HBO1 := Lib.hid hbO1
  have HH := Lib.hid H
  have HBlk := Lib.hid hblk
  have HKK := Lib.hid hkk
  have HBL := Lib.hid hbw.size
  have HBN := Lib.hid (bnd_le hkk)
  obtain ⟨Q, hQ⟩ : ∃ Q, DoPost w0 wp w h kk = Q := ⟨_, rfl⟩
  have HQ : Hid (∀ w' F' l' s' seq' A' n' c', HS w0 w' h (kk + 1) F' l' s' seq' A' n' c' → Stays wp w w' → Q (.returned (.tuple #[.slice A' n' c', .bool true])) w') := Lib.hid (fun w' F' l' s' seq' A' n' c' h1 h2 => by rw [← hQ]; exact ⟨F', l', s', seq', A', n', c', rfl, h1, h2⟩)
  rw [hQ]
  obtain ⟨hk0, hk1⟩ := hk
  have hf := H.find ox
  have HPut : Hid (∀ W, Below wp.heap.size wp W → _) := Lib.hid (fun W hb => put_any (H.hp.behind hb) ow ox hx (by have h1 := bnd_le hkk; rw [bnd_succ] at h1; omega))
  rcases hf with ⟨hat, hX, hne⟩ | ⟨s1, s2, b, i, hs, hbx, hat, hil, hgi, hX⟩
  · rw [hat] at HAt
    simp only [hX, Bool.not_false, Bool.false_eq_true, if_false] at HPut
    have HFin : Hid (∀ w1 w2 F', HS w0 w1 h kk F l s seq A n c → HpAt w2 h F' (bnd kk + kk + 2) (kk + 1) (upP (l ++ [⟨ow, (seq : Int), ox⟩]) l.length) (seq + 1) → Fr F w1 w2 → (∀ k, F' k → F k ∨ w1.heap.size ≤ k) → Kd.C K130 w2 A n (s.map toR) ∧ ∀ w3 v, Kd.R K130 130 w3 w2.heap.size (fun _ => True) v (putP ow ox false (s.map toR)) → Below w2.heap.size w2 w3 → ∃ A' n' c', v = .slice A' n' c' ∧ HS w0 w3 h (kk + 1) F' (upP (l ++ [⟨ow, (seq : Int), ox⟩]) l.length) (ins ⟨ow, (seq : Int), ox⟩ s) (seq + 1) A' n' c') := Lib.hid (by
      intro w1 w2 F' H1 hp hFr hF'
      have hd := H1.doc.step hFr (fun k q => .inl q) hF'
      refine ⟨hd.reads, fun w3 v hR hb => ?_⟩
      rw [put_tie H1.sq] at hR
      have hlow : ∀ k, F' k → w0.heap.size ≤ k := fun k q => (hF' k q).elim (H1.low k) (Nat.le_trans H1.bel.size)
      have hbel : Below w0.heap.size w0 w2 := H1.bel.trans (hFr.to_below H1.bel.size H1.low)
      obtain ⟨A', c', rfl, hd'⟩ := DocR.new (w0 := w0) hR hbel.size hp.lt
      refine ⟨A', _, c', rfl, ⟨(hp.behind hb).more (by rw [bnd_succ]; omega) (Nat.le_refl _), rep_put H1.rep (fun a ha e => by have h5 := H1.sq a ha; have e5 : a.f1 = (seq : Int) := e; omega), fun a ha => ?_, hlow, hbel.trans (hb.mono hbel.size), hd'⟩⟩
      rcases (mem_ins _ _ _).1 ha with ha | rfl
      · have := H1.sq a ha; omega
      · show (seq : Int) < ((seq + 1 : Nat) : Int); omega)
    have HRf : Hid (∀ W, Kd.C K130 W A n (s.map toR) → Calls Try.prog 73 #[.slice A n c, .int .i64 ow, .int .i64 ox] W fun e w' => ∃ v, e = .returned v ∧ Kd.R K130 130 w' W.heap.size (fun _ => True) v (putP ow ox false (s.map toR)) ∧ Below W.heap.size W w') := Lib.hid (fun W hC => by
      have hl : n = (s.map toR).length := H.doc.1
      obtain ⟨k, hk9⟩ := (put_f ow ox (s.map toR) (by have := H.sk; rw [List.length_map]; omega)).rounds
      have hc9 := H.doc.2.1
      subst hl
      exact pinfoldref06_Put.calls k A c _ ow ox _ W hC hc9 hk9)
    clear hat hX hne
    clear hQ hbO hbO1 hblk H hbw hkk
    go_enter Try.func41, Try.ntmps41
    go_wp2_with (first
      | (go_at_call 70; refine (HAt.out _ HBO.out).mono ?_; rintro e w1 ⟨rfl, hb1⟩; have HB1 := Lib.hid (bel_trans HBO.out hb1); have HB1w := Lib.hid (bel_trans HBO1.out hb1); have H1 := Lib.hid (HH.out.behind (bel_trans HBO.out hb1)); have hx0 : w1.cell? ⟨w.heap.size, 0, none⟩ = some (.int .u64 ok) := bel_cell hb1 (cell_of_heap HBlk.out rfl); have hx1 : w1.cell? ⟨w.heap.size, 1, none⟩ = some (.int .i64 ow) := bel_cell hb1 (cell_of_heap HBlk.out rfl); have hx2 : w1.cell? ⟨w.heap.size, 2, none⟩ = some (.int .i64 ox) := bel_cell hb1 (cell_of_heap HBlk.out rfl); clear hb1)
      | (go_at_call 36; refine (HPut.out _ HB1.out).mono ?_; rintro e w2 ⟨rfl, F2, hp2, hr2, hf2⟩; obtain ⟨hC2, hfin⟩ := HFin.out _ _ _ H1.out hp2 hr2 hf2; have HC2 := Lib.hid hC2; have HFin2 := Lib.hid hfin; have HS2 := Lib.hid (Stays.fr (wp := wp) HB1w.out hr2 HH.out.hp.lt); have HZ2 := Lib.hid (Nat.le_trans HB1w.out.size hr2.size); have hy1 := hr2.cell hx1 (fun f => absurd (HH.out.hp.lt _ f) (Nat.not_lt.2 HBL.out)); have hy2 := hr2.cell hx2 (fun f => absurd (HH.out.hp.lt _ f) (Nat.not_lt.2 HBL.out)); clear hp2 hr2 hf2 hC2 hfin)
      | (go_at_call 73; refine (HRf.out _ HC2.out).mono ?_; rintro e w3 ⟨v3, rfl, hR3, hb3⟩; obtain ⟨A3, n3, c3, e3, hs3⟩ := HFin2.out _ _ hR3 hb3; subst e3; have HS3 := Lib.hid hs3; have HB3 := Lib.hid hb3; clear hR3 hb3 hs3)
      | fail)
    exact HQ.out _ _ _ _ _ _ _ _ HS3.out (HS2.out.then_ HZ2.out HB3.out)
  · rw [hat] at HAt
    simp only [hX, Bool.not_true, if_true] at HPut
    have HFin : Hid (∀ w1 w2 F', HS w0 w1 h kk F l s seq A n c → HpAt w2 h F' (bnd kk + kk + 2) (kk + 1) l seq → Fr F w1 w2 → (∀ k, F' k → F k ∨ w1.heap.size ≤ k) → HS w0 w2 h (kk + 1) F' l s seq A n c) := Lib.hid (fun w1 w2 F' H1 hp hFr hF' => H1.next hp (by rw [bnd_succ]; omega) (Nat.le_refl _) H1.rep H1.sq hFr hF' (H1.doc.step hFr (fun k q => .inl q) hF'))
    have hlt : ¬ (s1.length : Int) < 0 := by omega
    obtain ⟨p, hp⟩ : ∃ p, s1.length = p := ⟨_, rfl⟩
    rw [hp] at HAt hlt
    clear hat hX hil hgi hs hbx hp
    clear hQ hbO hbO1 hblk H hbw hkk
    go_enter Try.func41, Try.ntmps41
    go_wp2_with (first
      | (go_at_call 70; refine (HAt.out _ HBO.out).mono ?_; rintro e w1 ⟨rfl, hb1⟩; have HB1 := Lib.hid (bel_trans HBO.out hb1); have HB1w := Lib.hid (bel_trans HBO1.out hb1); have H1 := Lib.hid (HH.out.behind (bel_trans HBO.out hb1)); have hx0 : w1.cell? ⟨w.heap.size, 0, none⟩ = some (.int .u64 ok) := bel_cell hb1 (cell_of_heap HBlk.out rfl); have hx1 : w1.cell? ⟨w.heap.size, 1, none⟩ = some (.int .i64 ow) := bel_cell hb1 (cell_of_heap HBlk.out rfl); have hx2 : w1.cell? ⟨w.heap.size, 2, none⟩ = some (.int .i64 ox) := bel_cell hb1 (cell_of_heap HBlk.out rfl); clear hb1)
      | (go_at_call 36; refine (HPut.out _ HB1.out).mono ?_; rintro e w2 ⟨rfl, F2, hp2, hr2, hf2⟩; have HS2 := Lib.hid (HFin.out _ _ _ H1.out hp2 hr2 hf2); have HT2 := Lib.hid (Stays.fr (wp := wp) HB1w.out hr2 HH.out.hp.lt); clear hp2 hr2 hf2)
      | fail)
    exact HQ.out _ _ _ _ _ _ _ _ HS2.out HT2.out
set_option maxRecDepth 100000 in
set_option maxHeartbeats 1200000 in
theorem do_drop (H : HS w0 wp h kk F l s seq A n c) (hbw : Below wp.heap.size wp w) (hkk : kk + 1 ≤ 90) (ok ow ox : Int) (hk : 0 ≤ ok ∧ ok ≤ 18446744073709551615) (hx : wfk ox) (h4 : (ok % 7 == 4) = false) (h5 : (ok % 7 == 5) = true) :
    Calls Try.prog 41 #[.pointer (some ⟨h, 0, none⟩), .slice A n c, .agg #[.int .u64 ok, .int .i64 ow, .int .i64 ox]] w (DoPost w0 wp w h kk) := by
  obtain ⟨O, hO⟩ : ∃ O, w.alloc (.cells #[.int .u64 ok, .int .i64 ow, .int .i64 ox] 78) = O := ⟨_, rfl⟩
  have hbO1 : Below w.heap.size w O := hO ▸ (Below.refl w.heap.size w).alloc (Nat.le_refl _) _
  have hblk : O.heap[w.heap.size]? = some (.cells #[.int .u64 ok, .int .i64 ow, .int .i64 ox] 78 (0, 0)) := by rw [← hO]; exact (MapKept.heap_alloc w _).1
  have g0 : O.cell? ⟨w.heap.size, 0, none⟩ = some (.int .u64 ok) := cell_of_heap hblk rfl
  have g1 : O.cell? ⟨w.heap.size, 1, none⟩ = some (.int .i64 ow) := cell_of_heap hblk rfl
  have g2 : O.cell? ⟨w.heap.size, 2, none⟩ = some (.int .i64 ox) := cell_of_heap hblk rfl
  have hbO : Below wp.heap.size wp O := bel_trans hbw hbO1
  have HAt : Hid (∀ W, Below wp.heap.size wp W → _) := Lib.hid (fun W hb => at_ask (c := c) ox (H.doc.behind hb).reads H.len H.doc.2.1 (by have := H.sk; omega))
  have HBO := Lib.hid hbO
  have HBO1 := Lib.hid hbO1
  have HH := Lib.hid H
  have HBlk := Lib.hid hblk
  have HKK := Lib.hid hkk
  have HBL := Lib.hid hbw.size
  have HBN := Lib.hid (bnd_le hkk)
  obtain ⟨Q, hQ⟩ : ∃ Q, DoPost w0 wp w h kk = Q := ⟨_, rfl⟩
  have HQ : Hid (∀ w' F' l' s' seq' A' n' c', HS w0 w' h (kk + 1) F' l' s' seq' A' n' c' → Stays wp w w' → Q (.returned (.tuple #[.slice A' n' c', .bool true])) w') := Lib.hid (fun w' F' l' s' seq' A' n' c' h1 h2 => by rw [← hQ]; exact ⟨F', l', s', seq', A', n', c', rfl, h1, h2⟩)
  rw [hQ]
  obtain ⟨hk0, hk1⟩ := hk
  have hf := H.find ox
  rcases hf with ⟨hat, hX, hne⟩ | ⟨s1, s2, b, i, hs, hbx, hat, hil, hgi, hX⟩
  · rw [hat] at HAt
    have HDr : Hid (∀ W, Below wp.heap.size wp W → _) := Lib.hid (fun W hb => drop_out (H.hp.behind hb) hx hX)
    clear hat hX hne
    clear hQ hbO hbO1 hblk H hbw hkk
    go_enter Try.func41, Try.ntmps41
    go_wp2_with (first
      | (go_at_call 70; refine (HAt.out _ HBO.out).mono ?_; rintro e w1 ⟨rfl, hb1⟩; have HB1 := Lib.hid (bel_trans HBO.out hb1); have HB1w := Lib.hid (bel_trans HBO1.out hb1); have H1 := Lib.hid (HH.out.behind (bel_trans HBO.out hb1)); have hx0 : w1.cell? ⟨w.heap.size, 0, none⟩ = some (.int .u64 ok) := bel_cell hb1 (cell_of_heap HBlk.out rfl); have hx1 : w1.cell? ⟨w.heap.size, 1, none⟩ = some (.int .i64 ow) := bel_cell hb1 (cell_of_heap HBlk.out rfl); have hx2 : w1.cell? ⟨w.heap.size, 2, none⟩ = some (.int .i64 ox) := bel_cell hb1 (cell_of_heap HBlk.out rfl); clear hb1)
      | (go_at_call 45; refine (HDr.out _ HB1.out).mono ?_; rintro e w2 ⟨rfl, hw9⟩; rw [hw9]; clear hw9)
      | fail)
    exact HQ.out _ _ _ _ _ _ _ _ H1.out.same (Stays.of HB1w.out)
  · rw [hat] at HAt
    have HDr : Hid (∀ W, Below wp.heap.size wp W → _) := Lib.hid (fun W hb => drop_in (x := ox) (H.hp.behind hb) hil (by rw [hgi]; exact hbx) (by have h1 := bnd_le hkk; rw [bnd_succ] at h1; omega))
    have HFin : Hid (∀ w1 w2 F', HS w0 w1 h kk F l s seq A n c → HpAt w2 h F' (bnd kk + 2 * kk + 3) kk (removeP l i) seq → Fr F w1 w2 → (∀ k, F' k → F k ∨ w1.heap.size ≤ k) → Kd.C K130 w2 A n (s.map toR) ∧ ∀ w3 v, Kd.R K130 130 w3 w2.heap.size (fun _ => True) v ((s1 ++ s2).map toR) → Below w2.heap.size w2 w3 → ∃ A' n' c', v = .slice A' n' c' ∧ HS w0 w3 h (kk + 1) F' (removeP l i) (s1 ++ s2) seq A' n' c') := Lib.hid (by
      intro w1 w2 F' H1 hp hFr hF'
      have hd := H1.doc.step hFr (fun k q => .inl q) hF'
      refine ⟨hd.reads, fun w3 v hR hb => ?_⟩
      have hlow : ∀ k, F' k → w0.heap.size ≤ k := fun k q => (hF' k q).elim (H1.low k) (Nat.le_trans H1.bel.size)
      have hbel : Below w0.heap.size w0 w2 := H1.bel.trans (hFr.to_below H1.bel.size H1.low)
      obtain ⟨A', c', rfl, hd'⟩ := DocR.new (w0 := w0) hR hbel.size hp.lt
      refine ⟨A', _, c', rfl, ⟨(hp.behind hb).more (by rw [bnd_succ]; omega) (Nat.le_succ _), rep_remove (a := b) (hs ▸ H1.rep) H1.hp.2.2.1 hil hgi, fun a ha => H1.sq a ?_, hlow, hbel.trans (hb.mono hbel.size), hd'⟩⟩
      rw [hs]
      rcases List.mem_append.1 ha with ha | ha
      · exact List.mem_append_left _ ha
      · exact List.mem_append_right _ (List.mem_cons_of_mem _ ha))
    have HRf : Hid (∀ W, Kd.C K130 W A n (s.map toR) → Calls Try.prog 71 #[.slice A n c, .int .i64 (s1.length : Int)] W fun e w' => ∃ v, e = .returned v ∧ Kd.R K130 130 w' W.heap.size (fun _ => True) v ((s1 ++ s2).map toR) ∧ Below W.heap.size W w') := Lib.hid (fun W hC => by
      have hl : n = (s.map toR).length := H.doc.1
      have hsk := H.sk
      have hc9 := H.doc.2.1
      have hk9 := without_f (s.map toR) s1.length (by rw [List.length_map, hs, List.length_append, List.length_cons]; omega) (by rw [List.length_map]; omega)
      have he : (s.map toR).take s1.length ++ (s.map toR).drop (s1.length + 1) = (s1 ++ s2).map toR := by
        rw [← List.map_take, ← List.map_drop, ← List.map_append, hs, List.take_left, ← List.drop_drop, List.drop_left]
        rfl
      rw [he] at hk9
      subst hl
      exact pinfoldref06_Without.calls A c _ _ _ W hC hc9 hk9)
    have hge : (0 : Int) ≤ (s1.length : Int) := by omega
    obtain ⟨p, hp⟩ : ∃ p, s1.length = p := ⟨_, rfl⟩
    rw [hp] at HAt HRf hge
    clear hat hX hil hgi hs hbx hp
    clear hQ hbO hbO1 hblk H hbw hkk
    go_enter Try.func41, Try.ntmps41
    go_wp2_with (first
      | (go_at_call 70; refine (HAt.out _ HBO.out).mono ?_; rintro e w1 ⟨rfl, hb1⟩; have HB1 := Lib.hid (bel_trans HBO.out hb1); have HB1w := Lib.hid (bel_trans HBO1.out hb1); have H1 := Lib.hid (HH.out.behind (bel_trans HBO.out hb1)); have hx0 : w1.cell? ⟨w.heap.size, 0, none⟩ = some (.int .u64 ok) := bel_cell hb1 (cell_of_heap HBlk.out rfl); have hx1 : w1.cell? ⟨w.heap.size, 1, none⟩ = some (.int .i64 ow) := bel_cell hb1 (cell_of_heap HBlk.out rfl); have hx2 : w1.cell? ⟨w.heap.size, 2, none⟩ = some (.int .i64 ox) := bel_cell hb1 (cell_of_heap HBlk.out rfl); clear hb1)
      | (go_at_call 45; refine (HDr.out _ HB1.out).mono ?_; rintro e w2 ⟨rfl, F2, hp2, hr2, hf2⟩; obtain ⟨hC2, hfin⟩ := HFin.out _ _ _ H1.out hp2 hr2 hf2; have HC2 := Lib.hid hC2; have HFin2 := Lib.hid hfin; have HS2 := Lib.hid (Stays.fr (wp := wp) HB1w.out hr2 HH.out.hp.lt); have HZ2 := Lib.hid (Nat.le_trans HB1w.out.size hr2.size); clear hp2 hr2 hf2 hC2 hfin)
      | (go_at_call 71; refine (HRf.out _ HC2.out).mono ?_; rintro e w3 ⟨v3, rfl, hR3, hb3⟩; obtain ⟨A3, n3, c3, e3, hs3⟩ := HFin2.out _ _ hR3 hb3; subst e3; have HS3 := Lib.hid hs3; have HB3 := Lib.hid hb3; clear hR3 hb3 hs3)
      | fail)
    exact HQ.out _ _ _ _ _ _ _ _ HS3.out (HS2.out.then_ HZ2.out HB3.out)
set_option maxRecDepth 100000 in
set_option maxHeartbeats 1200000 in
theorem do_pop (H : HS w0 wp h kk F l s seq A n c) (hbw : Below wp.heap.size wp w) (hkk : kk + 1 ≤ 90) (ok ow ox : Int) (hk : 0 ≤ ok ∧ ok ≤ 18446744073709551615) (hx : wfk ox) (h4 : (ok % 7 == 4) = true) :
    Calls Try.prog 41 #[.pointer (some ⟨h, 0, none⟩), .slice A n c, .agg #[.int .u64 ok, .int .i64 ow, .int .i64 ox]] w (DoPost w0 wp w h kk) := by
  obtain ⟨O, hO⟩ : ∃ O, w.alloc (.cells #[.int .u64 ok, .int .i64 ow, .int .i64 ox] 78) = O := ⟨_, rfl⟩
  have hbO1 : Below w.heap.size w O := hO ▸ (Below.refl w.heap.size w).alloc (Nat.le_refl _) _
  have hblk : O.heap[w.heap.size]? = some (.cells #[.int .u64 ok, .int .i64 ow, .int .i64 ox] 78 (0, 0)) := by rw [← hO]; exact (MapKept.heap_alloc w _).1
  have g0 : O.cell? ⟨w.heap.size, 0, none⟩ = some (.int .u64 ok) := cell_of_heap hblk rfl
  have g1 : O.cell? ⟨w.heap.size, 1, none⟩ = some (.int .i64 ow) := cell_of_heap hblk rfl
  have g2 : O.cell? ⟨w.heap.size, 2, none⟩ = some (.int .i64 ox) := cell_of_heap hblk rfl
  have hbO : Below wp.heap.size wp O := bel_trans hbw hbO1
  have HAt : Hid (∀ W, Below wp.heap.size wp W → _) := Lib.hid (fun W hb => at_ask (c := c) ox (H.doc.behind hb).reads H.len H.doc.2.1 (by have := H.sk; omega))
  have HBO := Lib.hid hbO
  have HBO1 := Lib.hid hbO1
  have HH := Lib.hid H
  have HBlk := Lib.hid hblk
  have HKK := Lib.hid hkk
  have HBL := Lib.hid hbw.size
  have HBN := Lib.hid (bnd_le hkk)
  obtain ⟨Q, hQ⟩ : ∃ Q, DoPost w0 wp w h kk = Q := ⟨_, rfl⟩
  have HQ : Hid (∀ w' F' l' s' seq' A' n' c', HS w0 w' h (kk + 1) F' l' s' seq' A' n' c' → Stays wp w w' → Q (.returned (.tuple #[.slice A' n' c', .bool true])) w') := Lib.hid (fun w' F' l' s' seq' A' n' c' h1 h2 => by rw [← hQ]; exact ⟨F', l', s', seq', A', n', c', rfl, h1, h2⟩)
  rw [hQ]
  obtain ⟨hk0, hk1⟩ := hk
  have HPop : Hid (∀ W, Below wp.heap.size wp W → _) := Lib.hid (fun W hb => pop_any (H.hp.behind hb) (by have h1 := bnd_le hkk; rw [bnd_succ] at h1; omega))
  have hn := H.len
  have hll : l.length = n := by rw [H.rep.len, hn]
  have hm1 := bnd_succ kk
  cases s with
  | nil =>
    obtain ⟨hpl, hl0⟩ := rep_pop_nil H.rep
    have hfv : firstV l = .tuple #[.int .i64 0, .int .i64 0, .bool false] := by unfold firstV; rw [if_pos hl0]
    rw [hfv, hpl] at HPop
    have HFin : Hid (∀ w1 w2 F', HS w0 w1 h kk F l [] seq A n c → HpAt w2 h F' (bnd kk + 2 * kk + 3) kk l seq → Fr F w1 w2 → (∀ k, F' k → F k ∨ w1.heap.size ≤ k) → HS w0 w2 h (kk + 1) F' l [] seq A n c) := Lib.hid (fun w1 w2 F' H1 hp hFr hF' => H1.next hp (by rw [bnd_succ]; omega) (Nat.le_succ _) H1.rep H1.sq hFr hF' (H1.doc.step hFr (fun k q => .inl q) hF'))
    obtain rfl : n = 0 := by rw [hn]; rfl
    clear hpl hl0 hfv hn hll hm1
    clear hQ hbO hbO1 hblk H hbw hkk
    go_enter Try.func41, Try.ntmps41
    go_wp2_with (first
      | (go_at_call 70; refine (HAt.out _ HBO.out).mono ?_; rintro e w1 ⟨rfl, hb1⟩; have HB1 := Lib.hid (bel_trans HBO.out hb1); have HB1w := Lib.hid (bel_trans HBO1.out hb1); have H1 := Lib.hid (HH.out.behind (bel_trans HBO.out hb1)); have hx0 : w1.cell? ⟨w.heap.size, 0, none⟩ = some (.int .u64 ok) := bel_cell hb1 (cell_of_heap HBlk.out rfl); have hx1 : w1.cell? ⟨w.heap.size, 1, none⟩ = some (.int .i64 ow) := bel_cell hb1 (cell_of_heap HBlk.out rfl); have hx2 : w1.cell? ⟨w.heap.size, 2, none⟩ = some (.int .i64 ox) := bel_cell hb1 (cell_of_heap HBlk.out rfl); clear hb1)
      | (go_at_call 37; refine (HPop.out _ HB1.out).mono ?_; rintro e w2 ⟨rfl, F2, hp2, hr2, hf2⟩; have HS2 := Lib.hid (HFin.out _ _ _ H1.out hp2 hr2 hf2); have HT2 := Lib.hid (Stays.fr (wp := wp) HB1w.out hr2 HH.out.hp.lt); clear hp2 hr2 hf2)
      | fail)
    exact HQ.out _ _ _ _ _ _ _ _ HS2.out HT2.out
  | cons a s' =>
    obtain ⟨hl0, hg0⟩ := rep_first H.rep
    have hpl : popP l = removeP l 0 := by unfold popP; rw [if_neg (by omega)]
    have hfv : firstV l = .tuple #[.int .i64 a.f0, .int .i64 a.f2, .bool true] := by unfold firstV; rw [if_neg (by omega), hg0]
    rw [hfv, hpl] at HPop
    have hrep := rep_pop H.rep H.hp.2.2.1
    have HFin : Hid (∀ w1 w2 F', HS w0 w1 h kk F l (a :: s') seq A n c → HpAt w2 h F' (bnd kk + 2 * kk + 3) kk (removeP l 0) seq → Fr F w1 w2 → (∀ k, F' k → F k ∨ w1.heap.size ≤ k) → Kd.C K130 w2 A n ((a :: s').map toR) ∧ HS w0 w2 h (kk + 1) F' (removeP l 0) s' seq (if c = 1 then A else A.map (·.add (1 * 2))) (n - 1) (c - 1)) := Lib.hid (fun w1 w2 F' H1 hp hFr hF' => ⟨(H1.doc.step hFr (fun k q => .inl q) hF').reads, H1.next hp (by rw [bnd_succ]; omega) (Nat.le_succ _) hrep (fun a ha => H1.sq a (List.mem_cons_of_mem _ ha)) hFr hF' ((H1.doc.step hFr (fun k q => .inl q) hF').drop (m := 1) (by rw [hn]; simp))⟩)
    have hn0 : 0 < n := by rw [hn]; simp
    have hnc : n ≤ c := H.doc.2.1
    have hz : ((n : Int) == 0) = false := by simp; omega
    have hi0 : (0 : Int) < (n : Int) := by omega
    have hi1 : (1 : Int) ≤ (n : Int) := by omega
    have he1 : (a.f0 == a.f0) = true := by simp
    have he2 : (a.f2 == a.f2) = true := by simp
    clear hpl hl0 hfv hn hll hm1 hg0 hrep
    clear hQ hbO hbO1 hblk H hbw hkk
    go_enter Try.func41, Try.ntmps41
    go_upto_region 7 with (first
      | (go_at_call 70; refine (HAt.out _ HBO.out).mono ?_; rintro e w1 ⟨rfl, hb1⟩; have HB1 := Lib.hid (bel_trans HBO.out hb1); have HB1w := Lib.hid (bel_trans HBO1.out hb1); have H1 := Lib.hid (HH.out.behind (bel_trans HBO.out hb1)); have hx0 : w1.cell? ⟨w.heap.size, 0, none⟩ = some (.int .u64 ok) := bel_cell hb1 (cell_of_heap HBlk.out rfl); have hx1 : w1.cell? ⟨w.heap.size, 1, none⟩ = some (.int .i64 ow) := bel_cell hb1 (cell_of_heap HBlk.out rfl); have hx2 : w1.cell? ⟨w.heap.size, 2, none⟩ = some (.int .i64 ox) := bel_cell hb1 (cell_of_heap HBlk.out rfl); clear hb1)
      | (go_at_call 37; refine (HPop.out _ HB1.out).mono ?_; rintro e w2 ⟨rfl, F2, hp2, hr2, hf2⟩; obtain ⟨hC2, hs2⟩ := HFin.out _ _ _ H1.out hp2 hr2 hf2; have HC2 := Lib.hid hC2; have HS2 := Lib.hid hs2; have HT2 := Lib.hid (Stays.fr (wp := wp) HB1w.out hr2 HH.out.hp.lt); have HZ2 := Lib.hid (Nat.le_trans HB1w.out.size hr2.size); clear hp2 hr2 hf2 hC2 hs2)
      | fail)
    obtain ⟨ad, rfl, d0, d1⟩ := doc_cell HC2.out (i := 0) (by simp)
    have d0 : w2.cell? ad = some (.int .i64 a.f0) := by have := d0; rw [Nat.zero_mul, Addr.add_zero'] at this; exact this
    have d1 : w2.cell? ⟨ad.block, ad.off + 1, none⟩ = some (.int .i64 a.f2) := by have := d1; rw [Nat.zero_mul, Addr.add_zero'] at this; exact this
    by_cases q : c = 1
    · rw [if_pos q] at HS2
      subst q
      obtain rfl : n = 1 := by omega
      go_quiet (fail)
      go_wp2
      exact HQ.out _ _ _ _ _ _ _ _ (HS2.out.behind (bel_drewN (bel_refl _) nq)) (HT2.out.then_ HZ2.out (bel_drewN (bel_refl _) nq))
    · rw [if_neg q, show (some ad).map (·.add (1 * 2)) = some ⟨ad.block, ad.off + 2, none⟩ from by simp [Addr.add]] at HS2
      go_quiet (fail)
      go_wp2
      exact HQ.out _ _ _ _ _ _ _ _ (HS2.out.behind (bel_drewN (bel_refl _) nq)) (HT2.out.then_ HZ2.out (bel_drewN (bel_refl _) nq))
set_option maxRecDepth 100000 in
set_option maxHeartbeats 1200000 in
theorem do_due (H : HS w0 wp h kk F l s seq A n c) (hbw : Below wp.heap.size wp w) (hkk : kk + 1 ≤ 90) (ok ow ox : Int) (hk : 0 ≤ ok ∧ ok ≤ 18446744073709551615) (hx : wfk ox) (h4 : (ok % 7 == 4) = false) (h5 : (ok % 7 == 5) = false) (h6 : (ok % 7 == 6) = true) :
    Calls Try.prog 41 #[.pointer (some ⟨h, 0, none⟩), .slice A n c, .agg #[.int .u64 ok, .int .i64 ow, .int .i64 ox]] w (DoPost w0 wp w h kk) := by
  obtain ⟨O, hO⟩ : ∃ O, w.alloc (.cells #[.int .u64 ok, .int .i64 ow, .int .i64 ox] 78) = O := ⟨_, rfl⟩
  have hbO1 : Below w.heap.size w O := hO ▸ (Below.refl w.heap.size w).alloc (Nat.le_refl _) _
  have hblk : O.heap[w.heap.size]? = some (.cells #[.int .u64 ok, .int .i64 ow, .int .i64 ox] 78 (0, 0)) := by rw [← hO]; exact (MapKept.heap_alloc w _).1
  have g0 : O.cell? ⟨w.heap.size, 0, none⟩ = some (.int .u64 ok) := cell_of_heap hblk rfl
  have g1 : O.cell? ⟨w.heap.size, 1, none⟩ = some (.int .i64 ow) := cell_of_heap hblk rfl
  have g2 : O.cell? ⟨w.heap.size, 2, none⟩ = some (.int .i64 ox) := cell_of_heap hblk rfl
  have hbO : Below wp.heap.size wp O := bel_trans hbw hbO1
  have HAt : Hid (∀ W, Below wp.heap.size wp W → _) := Lib.hid (fun W hb => at_ask (c := c) ox (H.doc.behind hb).reads H.len H.doc.2.1 (by have := H.sk; omega))
  have HBO := Lib.hid hbO
  have HBO1 := Lib.hid hbO1
  have HH := Lib.hid H
  have HBlk := Lib.hid hblk
  have HKK := Lib.hid hkk
  have HBL := Lib.hid hbw.size
  have HBN := Lib.hid (bnd_le hkk)
  obtain ⟨Q, hQ⟩ : ∃ Q, DoPost w0 wp w h kk = Q := ⟨_, rfl⟩
  have HQ : Hid (∀ w' F' l' s' seq' A' n' c', HS w0 w' h (kk + 1) F' l' s' seq' A' n' c' → Stays wp w w' → Q (.returned (.tuple #[.slice A' n' c', .bool true])) w') := Lib.hid (fun w' F' l' s' seq' A' n' c' h1 h2 => by rw [← hQ]; exact ⟨F', l', s', seq', A', n', c', rfl, h1, h2⟩)
  rw [hQ]
  obtain ⟨hk0, hk1⟩ := hk
  have hn := H.len
  have hsk := H.sk
  have hlk : l.length ≤ kk := H.hp.1
  obtain ⟨hd1, hd2, _⟩ := rep_due (now := ow) H.rep H.hp.2.2.1
  obtain ⟨ht1, ht2⟩ := tw_take ow s
  have hend := tw_end ow s
  have hlt9 := tw_lt ow s
  have hple : (s.takeWhile (fun e => decide (e.f0 ≤ ow))).length ≤ s.length := by rw [ht1, List.length_take]; omega
  obtain ⟨p, hp⟩ : ∃ p, (s.takeWhile (fun e => decide (e.f0 ≤ ow))).length = p := ⟨_, rfl⟩
  have hend : p = n ∨ ∃ hk : p < s.length, ¬ (s[p]).f0 ≤ ow := by
    rcases hend with h | ⟨h1, h2⟩
    · exact .inl (by rw [← hp, h, hn])
    · exact .inr ⟨hp ▸ h1, by simpa only [hp] using h2⟩
  rw [hp] at ht1 ht2 hlt9 hple
  rw [ht1] at hd1
  rw [ht2] at hd2
  have hmul : l.length * (2 * kk + 3) ≤ kk * (2 * kk + 3) := Nat.mul_le_mul_right _ hlk
  have HDue : Hid (∀ W, Below wp.heap.size wp W → _) := Lib.hid (fun W hb => due_any (H.hp.behind hb) ow rfl (by have h1 := bnd_le hkk; rw [bnd_succ] at h1; omega))
  have hdoc2 := H.doc.2.1
  have HFin : Hid (∀ w1 w2 F' N' v, HS w0 w1 h kk F l s seq A n c → N' ≤ bnd kk + l.length * (2 * kk + 3) → HpAt w2 h F' N' kk (dueP ow l).2 seq → Fr F w1 w2 → (∀ k, F' k → F k ∨ w1.heap.size ≤ k) → Kd.R (Kd.int .i64) 3 w2 w1.heap.size (fun k => ¬ F' k) v (dueP ow l).1 → Kd.C K130 w2 A n (s.map toR) ∧ HS w0 w2 h (kk + 1) F' (dueP ow l).2 (s.drop p) seq (if c = p then A else A.map (·.add (p * 2))) (n - p) (c - p) ∧ Calls Try.prog 72 #[v, .slice A n c, .int .i64 (p : Int)] w2 fun e w' => e = .returned (.bool true) ∧ Below w2.heap.size w2 w') := Lib.hid (by
    intro w1 w2 F' N' v H1 hN hp2 hFr hF' hR
    have hd := H1.doc.step hFr (fun k q => .inl q) hF'
    rw [hd1] at hR
    refine ⟨hd.reads, H1.next hp2 (by rw [bnd_succ]; omega) (Nat.le_succ _) hd2 (fun a ha => H1.sq a (List.mem_of_mem_drop ha)) hFr hF' ?_, pops_ask (s1 := s) (c := c) hR hd.reads hn hdoc2 hple (by omega)⟩
    rw [List.map_drop]
    exact hd.drop (by omega))
  have HLt : Hid (∀ k, k < p → ∃ hk : k < s.length, s[k].f0 ≤ ow) := Lib.hid hlt9
  have hpn : p ≤ n := by omega
  have HEnd := Lib.hid hend
  have HNn := Lib.hid hn
  have hN9 : n ≤ 1000 := by omega
  have HCN := Lib.hid (show n ≤ c from hdoc2)
  clear hn hsk hlk hd1 hd2 ht1 ht2 hend hlt9 hple hp hmul hdoc2
  clear hQ hbO hbO1 hblk H hbw hkk
  go_enter Try.func41, Try.ntmps41
  go_upto_region 15 with (first
    | (go_at_call 70; refine (HAt.out _ HBO.out).mono ?_; rintro e w1 ⟨rfl, hb1⟩; have HB1 := Lib.hid (bel_trans HBO.out hb1); have HB1w := Lib.hid (bel_trans HBO1.out hb1); have H1 := Lib.hid (HH.out.behind (bel_trans HBO.out hb1)); have hx0 : w1.cell? ⟨w.heap.size, 0, none⟩ = some (.int .u64 ok) := bel_cell hb1 (cell_of_heap HBlk.out rfl); have hx1 : w1.cell? ⟨w.heap.size, 1, none⟩ = some (.int .i64 ow) := bel_cell hb1 (cell_of_heap HBlk.out rfl); have hx2 : w1.cell? ⟨w.heap.size, 2, none⟩ = some (.int .i64 ox) := bel_cell hb1 (cell_of_heap HBlk.out rfl); clear hb1)
    | fail)
  go_loopg [13] p (fun gg v13 wr => ∃ k : Nat, k ≤ p ∧ p - k ≤ gg ∧ v13 = .int .i64 k ∧ Aside0 (Below w1.heap.size w1 wr))
  case atStart => exact ⟨0, Nat.zero_le _, by omega, rfl, ⟨Below.refl _ _⟩⟩
  case round =>
    obtain ⟨k, hk, hg, rfl, BR⟩ := hrel
    have f1 := bel_cell BR.out hx1
    have HCr := Lib.hid ((H1.out.behind BR.out).doc.reads)
    by_cases hlt : k < p
    · obtain ⟨hks, hle⟩ := HLt.out k hlt
      obtain ⟨ad, rfl, dd, -⟩ := doc_cell HCr.out (i := k) (by rw [List.length_map]; exact hks)
      rw [List.getElem_map] at dd
      have hki : (0 : Int) ≤ (k : Int) := by omega
      have hkn : (k : Int) < (n : Int) := by omega
      have d0 : wr.cell? (ad.add (k * 2)) = some (.int .i64 (s[k]).f0) := dd
      obtain ⟨z, hz⟩ : ∃ z, (s[k]).f0 = z := ⟨_, rfl⟩
      rw [hz] at d0 hle
      clear hz dd
      have hdl : decide (z ≤ ow) = true := decide_eq_true hle
      go_wp2
      go_quiet (fail)
      have hbq : Below w1.heap.size w1 (wr.drewN nq) := bel_drewN BR.out nq
      have HBQ := Lib.hid hbq
      clear hbq
      go_wp2
      go_roundg (p - (k + 1))
      case measure => omega
      case rel => exact ⟨k + 1, by omega, by omega, by go_num, ⟨HBQ.out⟩⟩
    · obtain rfl : k = p := by omega
      have hki : (0 : Int) ≤ (k : Int) := by omega
      have hkn9 : (k : Int) ≤ (n : Int) := by omega
      rcases HEnd.out with h9 | ⟨hks, hle⟩
      · subst h9
        have hkn : ¬ (k : Int) < (k : Int) := by omega
        clear hlt
        go_wp2
        go_quiet (fail)
        obtain ⟨W8, hW8⟩ : ∃ W8, wr.drewN nq = W8 := ⟨_, rfl⟩
        have BR : Aside0 (Below w1.heap.size w1 W8) := ⟨hW8 ▸ bel_drewN BR.out nq⟩
        have f1 := bel_cell BR.out hx1
        rw [hW8]
        clear hW8
        go_wp2
        by_cases hck : c = k
        · subst hck
          refine wp_region_held_drew (S := (fun W => W.cell? ⟨w.heap.size, 1, none⟩ = some (.int .i64 ow))) (by kernel_rfl) (show W8.drew.cell? _ = _ from f1) (fun hHeld => ?_)
          refine wpAnyH_take (i := 0) (v := ?tvDA0) rfl (by kernel_rfl) (by kernel_rfl) (by kernel_rfl) (fun _ _ _ h => h) (Or.inl ⟨by rfl, ?tyDA0⟩) (by assumption) ?trDA0
          case tyDA0 => (intro w hSw; (try dsimp only at hSw); (go_simp <;> with_reducible rfl))
          try simp only [Act.put, List.getElem_toArray, List.getElem_cons_succ, List.getElem_cons_zero, List.setIfInBounds_toArray, List.set_cons_zero, List.set_cons_succ]
          refine wpAnyH_take (i := 1) (v := ?tvDA1) rfl (by kernel_rfl) (by kernel_rfl) (by kernel_rfl) (fun _ _ _ h => h) (Or.inl ⟨by rfl, ?tyDA1⟩) (by assumption) ?trDA1
          case tyDA1 => (intro w hSw; (try dsimp only at hSw); (go_simp <;> with_reducible rfl))
          try simp only [Act.put, List.getElem_toArray, List.getElem_cons_succ, List.getElem_cons_zero, List.setIfInBounds_toArray, List.set_cons_zero, List.set_cons_succ]
          refine wpAnyH_take (i := 2) (v := ?tvDA2) rfl (by kernel_rfl) (by kernel_rfl) (by kernel_rfl) (fun _ _ _ h => h) (Or.inl ⟨by rfl, ?tyDA2⟩) (by assumption) ?trDA2
          case tyDA2 => (intro w hSw; (try dsimp only at hSw); (go_simp <;> with_reducible rfl))
          try simp only [Act.put, List.getElem_toArray, List.getElem_cons_succ, List.getElem_cons_zero, List.setIfInBounds_toArray, List.set_cons_zero, List.set_cons_succ]
          refine wpAnyH_take (i := 3) (v := ?tvDA3) rfl (by kernel_rfl) (by kernel_rfl) (by kernel_rfl) (fun _ _ _ h => h) (Or.inl ⟨by rfl, ?tyDA3⟩) (by assumption) ?trDA3
          case tyDA3 => (intro w hSw; (try dsimp only at hSw); (go_simp <;> with_reducible rfl))
          try simp only [Act.put, List.getElem_toArray, List.getElem_cons_succ, List.getElem_cons_zero, List.setIfInBounds_toArray, List.set_cons_zero, List.set_cons_succ]
          refine wpAnyH_take (i := 4) (v := ?tvDA4) rfl (by kernel_rfl) (by kernel_rfl) (by kernel_rfl) (fun _ _ _ h => h) (Or.inl ⟨by rfl, ?tyDA4⟩) (by assumption) ?trDA4
          case tyDA4 => (intro w hSw; (try dsimp only at hSw); (go_simp <;> with_reducible rfl))
          try simp only [Act.put, List.getElem_toArray, List.getElem_cons_succ, List.getElem_cons_zero, List.setIfInBounds_toArray, List.set_cons_zero, List.set_cons_succ]
          refine wpAnyH_take (i := 5) (v := ?tvDA5) rfl (by kernel_rfl) (by kernel_rfl) (by kernel_rfl) (fun _ _ _ h => h) (Or.inl ⟨by rfl, ?tyDA5⟩) (by assumption) ?trDA5
          case tyDA5 => (intro w hSw; (try dsimp only at hSw); (go_simp <;> with_reducible rfl))
          try simp only [Act.put, List.getElem_toArray, List.getElem_cons_succ, List.getElem_cons_zero, List.setIfInBounds_toArray, List.set_cons_zero, List.set_cons_succ]
          refine wpAnyH_take (i := 7) (v := ?tvDA7) rfl (by kernel_rfl) (by kernel_rfl) (by kernel_rfl) (fun _ _ _ h => h) (Or.inl ⟨by rfl, ?tyDA7⟩) (by assumption) ?trDA7
          case tyDA7 => (intro w hSw; (try dsimp only at hSw); (go_simp <;> with_reducible rfl))
          try simp only [Act.put, List.getElem_toArray, List.getElem_cons_succ, List.getElem_cons_zero, List.setIfInBounds_toArray, List.set_cons_zero, List.set_cons_succ]
          refine wpAnyH_take (i := 8) (v := ?tvDA8) rfl (by kernel_rfl) (by kernel_rfl) (by kernel_rfl) (fun _ _ _ h => h) (Or.inl ⟨by rfl, ?tyDA8⟩) (by assumption) ?trDA8
          case tyDA8 => (intro w hSw; (try dsimp only at hSw); (go_simp <;> with_reducible rfl))
          try simp only [Act.put, List.getElem_toArray, List.getElem_cons_succ, List.getElem_cons_zero, List.setIfInBounds_toArray, List.set_cons_zero, List.set_cons_succ]
          refine wpAnyH_ready (rs := [6]) (by kernel_rfl) (by simp) ?_
          refine AllReadyH.cons rfl (fun K hK => ?_) AllReadyH.nil
          go_simp
          go_at_call 39
          refine (HDue.out W8.drew (bel_trans HB1.out (bel_drew BR.out))).mono ?_
          rintro e w2 ⟨v2, rfl, F2, N2, hN2, hp2, hr2, hf2, hR2⟩
          have HFr2 := Lib.hid hr2
          have hy1 : w2.cell? ⟨w.heap.size, 1, none⟩ = some (.int .i64 ow) := hr2.cell (show W8.drew.cell? _ = _ from f1) (fun f => absurd (HH.out.hp.lt _ f) (Nat.not_lt.2 HBL.out))
          obtain ⟨hC2, hs2, hpop2⟩ := HFin.out _ _ _ _ _ (H1.out.behind (bel_drew BR.out)) hN2 hp2 hr2 hf2 hR2
          have HPop2 := Lib.hid hpop2
          have HS2 := Lib.hid hs2
          have HT2 := Lib.hid (Stays.fr (wp := wp) (bel_trans HB1w.out (bel_drew BR.out)) hr2 HH.out.hp.lt)
          have HZ2 := Lib.hid (Nat.le_trans (Nat.le_trans HB1w.out.size BR.out.size) hr2.size)
          clear hN2 hp2 hr2 hf2 hR2 hC2 hs2 hpop2
          refine hK.out _ _ ?_ (fun hHeld => ?_)
          · exact hy1
          clear hK K
          try simp only [Act.put, List.getElem_toArray, List.getElem_cons_succ, List.getElem_cons_zero, List.setIfInBounds_toArray, List.set_cons_zero, List.set_cons_succ]
          refine wpAnyH_ready (rs := [9]) (by kernel_rfl) (by simp) ?_
          refine AllReadyH.cons rfl (fun K hK => ?_) AllReadyH.nil
          go_simp
          go_at_call 72
          refine (HPop2.out).mono ?_
          rintro e w3 ⟨rfl, hb3⟩
          have HB3 := Lib.hid hb3
          have hz1 := bel_cell hb3 hy1
          clear hb3
          refine hK.out _ _ ?_ (fun hHeld => ?_)
          · exact hz1
          clear hK K
          try simp only [Act.put, List.getElem_toArray, List.getElem_cons_succ, List.getElem_cons_zero, List.setIfInBounds_toArray, List.set_cons_zero, List.set_cons_succ]
          refine wpAnyH_take (i := 10) (v := ?tvDA10) rfl (by kernel_rfl) (by kernel_rfl) (by kernel_rfl) (fun _ _ _ h => h) (Or.inl ⟨by rfl, ?tyDA10⟩) (by assumption) ?trDA10
          case tyDA10 => (intro w hSw; (try dsimp only at hSw); (go_simp <;> with_reducible rfl))
          try simp only [Act.put, List.getElem_toArray, List.getElem_cons_succ, List.getElem_cons_zero, List.setIfInBounds_toArray, List.set_cons_zero, List.set_cons_succ]
          refine wpAnyH_take (i := 11) (v := ?tvDA11) rfl (by kernel_rfl) (by kernel_rfl) (by kernel_rfl) (fun _ _ _ h => h) (Or.inl ⟨by rfl, ?tyDA11⟩) (by assumption) ?trDA11
          case tyDA11 => (intro w hSw; (try dsimp only at hSw); (go_simp <;> with_reducible rfl))
          try simp only [Act.put, List.getElem_toArray, List.getElem_cons_succ, List.getElem_cons_zero, List.setIfInBounds_toArray, List.set_cons_zero, List.set_cons_succ]
          refine wpAnyH_done (by kernel_rfl) ?_ _
          go_wp2
          rw [if_pos trivial, Nat.sub_self] at HS2
          exact HQ.out _ _ _ _ _ _ _ _ (HS2.out.behind HB3.out) (HT2.out.then_ HZ2.out HB3.out)
        · refine wp_region_held_drew (S := (fun W => W.cell? ⟨w.heap.size, 1, none⟩ = some (.int .i64 ow))) (by kernel_rfl) (show W8.drew.cell? _ = _ from f1) (fun hHeld => ?_)
          refine wpAnyH_take (i := 0) (v := ?tvDB0) rfl (by kernel_rfl) (by kernel_rfl) (by kernel_rfl) (fun _ _ _ h => h) (Or.inl ⟨by rfl, ?tyDB0⟩) (by assumption) ?trDB0
          case tyDB0 => (intro w hSw; (try dsimp only at hSw); (go_simp <;> with_reducible rfl))
          try simp only [Act.put, List.getElem_toArray, List.getElem_cons_succ, List.getElem_cons_zero, List.setIfInBounds_toArray, List.set_cons_zero, List.set_cons_succ]
          refine wpAnyH_take (i := 1) (v := ?tvDB1) rfl (by kernel_rfl) (by kernel_rfl) (by kernel_rfl) (fun _ _ _ h => h) (Or.inl ⟨by rfl, ?tyDB1⟩) (by assumption) ?trDB1
          case tyDB1 => (intro w hSw; (try dsimp only at hSw); (go_simp <;> with_reducible rfl))
          try simp only [Act.put, List.getElem_toArray, List.getElem_cons_succ, List.getElem_cons_zero, List.setIfInBounds_toArray, List.set_cons_zero, List.set_cons_succ]
          refine wpAnyH_take (i := 2) (v := ?tvDB2) rfl (by kernel_rfl) (by kernel_rfl) (by kernel_rfl) (fun _ _ _ h => h) (Or.inl ⟨by rfl, ?tyDB2⟩) (by assumption) ?trDB2
          case tyDB2 => (intro w hSw; (try dsimp only at hSw); (go_simp <;> with_reducible rfl))
          try simp only [Act.put, List.getElem_toArray, List.getElem_cons_succ, List.getElem_cons_zero, List.setIfInBounds_toArray, List.set_cons_zero, List.set_cons_succ]
          refine wpAnyH_take (i := 3) (v := ?tvDB3) rfl (by kernel_rfl) (by kernel_rfl) (by kernel_rfl) (fun _ _ _ h => h) (Or.inl ⟨by rfl, ?tyDB3⟩) (by assumption) ?trDB3
          case tyDB3 => (intro w hSw; (try dsimp only at hSw); (go_simp <;> with_reducible rfl))
          try simp only [Act.put, List.getElem_toArray, List.getElem_cons_succ, List.getElem_cons_zero, List.setIfInBounds_toArray, List.set_cons_zero, List.set_cons_succ]
          refine wpAnyH_take (i := 4) (v := ?tvDB4) rfl (by kernel_rfl) (by kernel_rfl) (by kernel_rfl) (fun _ _ _ h => h) (Or.inl ⟨by rfl, ?tyDB4⟩) (by assumption) ?trDB4
          case tyDB4 => (intro w hSw; (try dsimp only at hSw); (go_simp <;> with_reducible rfl))
          try simp only [Act.put, List.getElem_toArray, List.getElem_cons_succ, List.getElem_cons_zero, List.setIfInBounds_toArray, List.set_cons_zero, List.set_cons_succ]
          refine wpAnyH_take (i := 5) (v := ?tvDB5) rfl (by kernel_rfl) (by kernel_rfl) (by kernel_rfl) (fun _ _ _ h => h) (Or.inl ⟨by rfl, ?tyDB5⟩) (by assumption) ?trDB5
          case tyDB5 => (intro w hSw; (try dsimp only at hSw); (go_simp <;> with_reducible rfl))
          try simp only [Act.put, List.getElem_toArray, List.getElem_cons_succ, List.getElem_cons_zero, List.setIfInBounds_toArray, List.set_cons_zero, List.set_cons_succ]
          refine wpAnyH_take (i := 7) (v := ?tvDB7) rfl (by kernel_rfl) (by kernel_rfl) (by kernel_rfl) (fun _ _ _ h => h) (Or.inl ⟨by rfl, ?tyDB7⟩) (by assumption) ?trDB7
          case tyDB7 => (intro w hSw; (try dsimp only at hSw); (go_simp <;> with_reducible rfl))
          try simp only [Act.put, List.getElem_toArray, List.getElem_cons_succ, List.getElem_cons_zero, List.setIfInBounds_toArray, List.set_cons_zero, List.set_cons_succ]
          refine wpAnyH_take (i := 8) (v := ?tvDB8) rfl (by kernel_rfl) (by kernel_rfl) (by kernel_rfl) (fun _ _ _ h => h) (Or.inl ⟨by rfl, ?tyDB8⟩) (by assumption) ?trDB8
          case tyDB8 => (intro w hSw; (try dsimp only at hSw); (go_simp <;> with_reducible rfl))
          try simp only [Act.put, List.getElem_toArray, List.getElem_cons_succ, List.getElem_cons_zero, List.setIfInBounds_toArray, List.set_cons_zero, List.set_cons_succ]
          refine wpAnyH_ready (rs := [6]) (by kernel_rfl) (by simp) ?_
          refine AllReadyH.cons rfl (fun K hK => ?_) AllReadyH.nil
          go_simp
          go_at_call 39
          refine (HDue.out W8.drew (bel_trans HB1.out (bel_drew BR.out))).mono ?_
          rintro e w2 ⟨v2, rfl, F2, N2, hN2, hp2, hr2, hf2, hR2⟩
          have HFr2 := Lib.hid hr2
          have hy1 : w2.cell? ⟨w.heap.size, 1, none⟩ = some (.int .i64 ow) := hr2.cell (show W8.drew.cell? _ = _ from f1) (fun f => absurd (HH.out.hp.lt _ f) (Nat.not_lt.2 HBL.out))
          obtain ⟨hC2, hs2, hpop2⟩ := HFin.out _ _ _ _ _ (H1.out.behind (bel_drew BR.out)) hN2 hp2 hr2 hf2 hR2
          have HPop2 := Lib.hid hpop2
          have HS2 := Lib.hid hs2
          have HT2 := Lib.hid (Stays.fr (wp := wp) (bel_trans HB1w.out (bel_drew BR.out)) hr2 HH.out.hp.lt)
          have HZ2 := Lib.hid (Nat.le_trans (Nat.le_trans HB1w.out.size BR.out.size) hr2.size)
          clear hN2 hp2 hr2 hf2 hR2 hC2 hs2 hpop2
          refine hK.out _ _ ?_ (fun hHeld => ?_)
          · exact hy1
          clear hK K
          try simp only [Act.put, List.getElem_toArray, List.getElem_cons_succ, List.getElem_cons_zero, List.setIfInBounds_toArray, List.set_cons_zero, List.set_cons_succ]
          refine wpAnyH_ready (rs := [9]) (by kernel_rfl) (by simp) ?_
          refine AllReadyH.cons rfl (fun K hK => ?_) AllReadyH.nil
          go_simp
          go_at_call 72
          refine (HPop2.out).mono ?_
          rintro e w3 ⟨rfl, hb3⟩
          have HB3 := Lib.hid hb3
          have hz1 := bel_cell hb3 hy1
          clear hb3
          refine hK.out _ _ ?_ (fun hHeld => ?_)
          · exact hz1
          clear hK K
          try simp only [Act.put, List.getElem_toArray, List.getElem_cons_succ, List.getElem_cons_zero, List.setIfInBounds_toArray, List.set_cons_zero, List.set_cons_succ]
          refine wpAnyH_take (i := 10) (v := ?tvDB10) rfl (by kernel_rfl) (by kernel_rfl) (by kernel_rfl) (fun _ _ _ h => h) (Or.inl ⟨by rfl, ?tyDB10⟩) (by assumption) ?trDB10
          case tyDB10 => (intro w hSw; (try dsimp only at hSw); (go_simp <;> with_reducible rfl))
          try simp only [Act.put, List.getElem_toArray, List.getElem_cons_succ, List.getElem_cons_zero, List.setIfInBounds_toArray, List.set_cons_zero, List.set_cons_succ]
          refine wpAnyH_take (i := 11) (v := ?tvDB11) rfl (by kernel_rfl) (by kernel_rfl) (by kernel_rfl) (fun _ _ _ h => h) (Or.inl ⟨by rfl, ?tyDB11⟩) (by assumption) ?trDB11
          case tyDB11 => (intro w hSw; (try dsimp only at hSw); (go_simp <;> with_reducible rfl))
          try simp only [Act.put, List.getElem_toArray, List.getElem_cons_succ, List.getElem_cons_zero, List.setIfInBounds_toArray, List.set_cons_zero, List.set_cons_succ]
          refine wpAnyH_done (by kernel_rfl) ?_ _
          go_wp2
          rw [if_neg hck, Nat.sub_self] at HS2
          exact HQ.out _ _ _ _ _ _ _ _ (HS2.out.behind HB3.out) (HT2.out.then_ HZ2.out HB3.out)

      · obtain ⟨ad, rfl, dd, -⟩ := doc_cell HCr.out (i := k) (by rw [List.length_map]; exact hks)
        rw [List.getElem_map] at dd
        have hkn : (k : Int) < (n : Int) := by have := HNn.out; omega
        have d0 : wr.cell? (ad.add (k * 2)) = some (.int .i64 (s[k]).f0) := dd
        obtain ⟨z, hz⟩ : ∃ z, (s[k]).f0 = z := ⟨_, rfl⟩
        rw [hz] at d0 hle
        clear hz hlt dd
        have hdl : decide (z ≤ ow) = false := decide_eq_false (by omega)
        go_wp2
        go_quiet (fail)
        obtain ⟨W8, hW8⟩ : ∃ W8, wr.drewN nq = W8 := ⟨_, rfl⟩
        have BR : Aside0 (Below w1.heap.size w1 W8) := ⟨hW8 ▸ bel_drewN BR.out nq⟩
        have f1 := bel_cell BR.out hx1
        rw [hW8]
        clear hW8
        go_wp2
        by_cases hck : c = k
        · exact absurd HCN.out (by omega)
        · refine wp_region_held_drew (S := (fun W => W.cell? ⟨w.heap.size, 1, none⟩ = some (.int .i64 ow))) (by kernel_rfl) (show W8.drew.cell? _ = _ from f1) (fun hHeld => ?_)
          refine wpAnyH_take (i := 0) (v := ?tvEB0) rfl (by kernel_rfl) (by kernel_rfl) (by kernel_rfl) (fun _ _ _ h => h) (Or.inl ⟨by rfl, ?tyEB0⟩) (by assumption) ?trEB0
          case tyEB0 => (intro w hSw; (try dsimp only at hSw); (go_simp <;> with_reducible rfl))
          try simp only [Act.put, List.getElem_toArray, List.getElem_cons_succ, List.getElem_cons_zero, List.setIfInBounds_toArray, List.set_cons_zero, List.set_cons_succ]
          refine wpAnyH_take (i := 1) (v := ?tvEB1) rfl (by kernel_rfl) (by kernel_rfl) (by kernel_rfl) (fun _ _ _ h => h) (Or.inl ⟨by rfl, ?tyEB1⟩) (by assumption) ?trEB1
          case tyEB1 => (intro w hSw; (try dsimp only at hSw); (go_simp <;> with_reducible rfl))
          try simp only [Act.put, List.getElem_toArray, List.getElem_cons_succ, List.getElem_cons_zero, List.setIfInBounds_toArray, List.set_cons_zero, List.set_cons_succ]
          refine wpAnyH_take (i := 2) (v := ?tvEB2) rfl (by kernel_rfl) (by kernel_rfl) (by kernel_rfl) (fun _ _ _ h => h) (Or.inl ⟨by rfl, ?tyEB2⟩) (by assumption) ?trEB2
          case tyEB2 => (intro w hSw; (try dsimp only at hSw); (go_simp <;> with_reducible rfl))
          try simp only [Act.put, List.getElem_toArray, List.getElem_cons_succ, List.getElem_cons_zero, List.setIfInBounds_toArray, List.set_cons_zero, List.set_cons_succ]
          refine wpAnyH_take (i := 3) (v := ?tvEB3) rfl (by kernel_rfl) (by kernel_rfl) (by kernel_rfl) (fun _ _ _ h => h) (Or.inl ⟨by rfl, ?tyEB3⟩) (by assumption) ?trEB3
          case tyEB3 => (intro w hSw; (try dsimp only at hSw); (go_simp <;> with_reducible rfl))
          try simp only [Act.put, List.getElem_toArray, List.getElem_cons_succ, List.getElem_cons_zero, List.setIfInBounds_toArray, List.set_cons_zero, List.set_cons_succ]
          refine wpAnyH_take (i := 4) (v := ?tvEB4) rfl (by kernel_rfl) (by kernel_rfl) (by kernel_rfl) (fun _ _ _ h => h) (Or.inl ⟨by rfl, ?tyEB4⟩) (by assumption) ?trEB4
          case tyEB4 => (intro w hSw; (try dsimp only at hSw); (go_simp <;> with_reducible rfl))
          try simp only [Act.put, List.getElem_toArray, List.getElem_cons_succ, List.getElem_cons_zero, List.setIfInBounds_toArray, List.set_cons_zero, List.set_cons_succ]
          refine wpAnyH_take (i := 5) (v := ?tvEB5) rfl (by kernel_rfl) (by kernel_rfl) (by kernel_rfl) (fun _ _ _ h => h) (Or.inl ⟨by rfl, ?tyEB5⟩) (by assumption) ?trEB5
          case tyEB5 => (intro w hSw; (try dsimp only at hSw); (go_simp <;> with_reducible rfl))
          try simp only [Act.put, List.getElem_toArray, List.getElem_cons_succ, List.getElem_cons_zero, List.setIfInBounds_toArray, List.set_cons_zero, List.set_cons_succ]
          refine wpAnyH_take (i := 7) (v := ?tvEB7) rfl (by kernel_rfl) (by kernel_rfl) (by kernel_rfl) (fun _ _ _ h => h) (Or.inl ⟨by rfl, ?tyEB7⟩) (by assumption) ?trEB7
          case tyEB7 => (intro w hSw; (try dsimp only at hSw); (go_simp <;> with_reducible rfl))
          try simp only [Act.put, List.getElem_toArray, List.getElem_cons_succ, List.getElem_cons_zero, List.setIfInBounds_toArray, List.set_cons_zero, List.set_cons_succ]
          refine wpAnyH_take (i := 8) (v := ?tvEB8) rfl (by kernel_rfl) (by kernel_rfl) (by kernel_rfl) (fun _ _ _ h => h) (Or.inl ⟨by rfl, ?tyEB8⟩) (by assumption) ?trEB8
          case tyEB8 => (intro w hSw; (try dsimp only at hSw); (go_simp <;> with_reducible rfl))
          try simp only [Act.put, List.getElem_toArray, List.getElem_cons_succ, List.getElem_cons_zero, List.setIfInBounds_toArray, List.set_cons_zero, List.set_cons_succ]
          refine wpAnyH_ready (rs := [6]) (by kernel_rfl) (by simp) ?_
          refine AllReadyH.cons rfl (fun K hK => ?_) AllReadyH.nil
          go_simp
          go_at_call 39
          refine (HDue.out W8.drew (bel_trans HB1.out (bel_drew BR.out))).mono ?_
          rintro e w2 ⟨v2, rfl, F2, N2, hN2, hp2, hr2, hf2, hR2⟩
          have HFr2 := Lib.hid hr2
          have hy1 : w2.cell? ⟨w.heap.size, 1, none⟩ = some (.int .i64 ow) := hr2.cell (show W8.drew.cell? _ = _ from f1) (fun f => absurd (HH.out.hp.lt _ f) (Nat.not_lt.2 HBL.out))
          obtain ⟨hC2, hs2, hpop2⟩ := HFin.out _ _ _ _ _ (H1.out.behind (bel_drew BR.out)) hN2 hp2 hr2 hf2 hR2
          have HPop2 := Lib.hid hpop2
          have HS2 := Lib.hid hs2
          have HT2 := Lib.hid (Stays.fr (wp := wp) (bel_trans HB1w.out (bel_drew BR.out)) hr2 HH.out.hp.lt)
          have HZ2 := Lib.hid (Nat.le_trans (Nat.le_trans HB1w.out.size BR.out.size) hr2.size)
          clear hN2 hp2 hr2 hf2 hR2 hC2 hs2 hpop2
          refine hK.out _ _ ?_ (fun hHeld => ?_)
          · exact hy1
          clear hK K
          try simp only [Act.put, List.getElem_toArray, List.getElem_cons_succ, List.getElem_cons_zero, List.setIfInBounds_toArray, List.set_cons_zero, List.set_cons_succ]
          refine wpAnyH_ready (rs := [9]) (by kernel_rfl) (by simp) ?_
          refine AllReadyH.cons rfl (fun K hK => ?_) AllReadyH.nil
          go_simp
          go_at_call 72
          refine (HPop2.out).mono ?_
          rintro e w3 ⟨rfl, hb3⟩
          have HB3 := Lib.hid hb3
          have hz1 := bel_cell hb3 hy1
          clear hb3
          refine hK.out _ _ ?_ (fun hHeld => ?_)
          · exact hz1
          clear hK K
          try simp only [Act.put, List.getElem_toArray, List.getElem_cons_succ, List.getElem_cons_zero, List.setIfInBounds_toArray, List.set_cons_zero, List.set_cons_succ]
          refine wpAnyH_take (i := 10) (v := ?tvEB10) rfl (by kernel_rfl) (by kernel_rfl) (by kernel_rfl) (fun _ _ _ h => h) (Or.inl ⟨by rfl, ?tyEB10⟩) (by assumption) ?trEB10
          case tyEB10 => (intro w hSw; (try dsimp only at hSw); (go_simp <;> with_reducible rfl))
          try simp only [Act.put, List.getElem_toArray, List.getElem_cons_succ, List.getElem_cons_zero, List.setIfInBounds_toArray, List.set_cons_zero, List.set_cons_succ]
          refine wpAnyH_take (i := 11) (v := ?tvEB11) rfl (by kernel_rfl) (by kernel_rfl) (by kernel_rfl) (fun _ _ _ h => h) (Or.inl ⟨by rfl, ?tyEB11⟩) (by assumption) ?trEB11
          case tyEB11 => (intro w hSw; (try dsimp only at hSw); (go_simp <;> with_reducible rfl))
          try simp only [Act.put, List.getElem_toArray, List.getElem_cons_succ, List.getElem_cons_zero, List.setIfInBounds_toArray, List.set_cons_zero, List.set_cons_succ]
          refine wpAnyH_done (by kernel_rfl) ?_ _
          go_wp2
          rw [if_neg hck] at HS2
          exact HQ.out _ _ _ _ _ _ _ _ (HS2.out.behind HB3.out) (HT2.out.then_ HZ2.out HB3.out)
theorem do_any (H : HS w0 wp h kk F l s seq A n c) (hbw : Below wp.heap.size wp w) (hkk : kk + 1 ≤ 90) (ok ow ox : Int) (hk : 0 ≤ ok ∧ ok ≤ 18446744073709551615) (hx : wfk ox) :
    Calls Try.prog 41 #[.pointer (some ⟨h, 0, none⟩), .slice A n c, .agg #[.int .u64 ok, .int .i64 ow, .int .i64 ox]] w (DoPost w0 wp w h kk) := by
  cases h4 : (ok % 7 == 4) with
  | true => exact do_pop H hbw hkk ok ow ox hk hx h4
  | false =>
    cases h5 : (ok % 7 == 5) with
    | true => exact do_drop H hbw hkk ok ow ox hk hx h4 h5
    | false =>
      cases h6 : (ok % 7 == 6) with
      | true => exact do_due H hbw hkk ok ow ox hk hx h4 h5 h6
      | false => exact do_put H hbw hkk ok ow ox hk hx h4 h5 h6
end
end Go.Proofs.Ytkegdcnnankokaa.Hpi
