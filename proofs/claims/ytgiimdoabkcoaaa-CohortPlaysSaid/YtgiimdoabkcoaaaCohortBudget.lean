import Derived.Test.YtgiimdoabkcoaaaCoCX
import Derived.Test.YtgiimdoabkcoaaaCoOps
import Derived.Deep.QuietTactic
import Derived.BigQuiet
/-
While another socket waits, at most three hand-offs stay in one: plain.
-/
namespace Go.Proofs.Ytgiimdoabkcoaaa.Co
set_option linter.unusedVariables false
set_option linter.unusedSimpArgs false
def otherB (x : LS) (g : Int → Option Int) (l : List Int) : Bool := l.any (fun t => decide ((g t).getD 0 ≠ x.socket))
/-- what is so at each call: n calls so far; the map tells the sockets; st: how often the lock stayed. -/
structure BI (n : Nat) (x : LS) (g : Int → Option Int) (st : Int) : Prop where
  ok : Ok x
  sm : Sm n x
  ps : x.passes ≤ (n : Int)
  st : st = x.passes
  w : ∀ p ∈ x.round, ∀ t ∈ p.2, g t = some p.1 ∧ 0 ≤ t ∧ t ≤ 1000
  o : x.held = true → g x.owner = some x.socket ∧ 0 ≤ x.owner ∧ x.owner ≤ 1000
  free : x.held = false → x.passes = 0
section
variable {n : Nat} {x : LS} {g : Int → Option Int} {st t s : Int}
theorem bi0 : BI 0 ls0 (fun _ => none) 0 := ⟨⟨by simp [ls0], by simp [ls0], by simp [ls0], by simp [ls0]⟩, ⟨by simp [ls0], by simp [ls0]⟩, by simp [ls0], rfl, by simp [ls0], by simp [ls0], fun _ => rfl⟩
theorem BI.more (h : BI n x g st) : BI (n + 1) x g st := ⟨h.ok, h.sm.more (Nat.le_succ _), by have := h.ps; omega, h.st, h.w, h.o, h.free⟩
theorem BI.take (h : BI n x g st) (ht : 0 ≤ t ∧ t ≤ 1000) : BI (n + 1) (takeP x t s).1 (if (takeP x t s).2.2 = 0 then gset g t (some s) else g) (if (takeP x t s).2.1 = true then 0 else st) := by
  have hok := take_ok (t := t) (s := s) h.ok
  have hsm := take_sm (t := t) (s := s) h.sm
  have hps := take_pass (t := t) (s := s) h.ps
  unfold takeP at *
  split
  · rename_i h1
    rw [if_pos h1] at hok hsm hps
    exact h.more
  · rename_i h1
    rw [if_neg h1] at hok hsm hps
    split
    · exact h.more
    · rename_i h2
      rw [if_neg h2] at hok hsm hps
      split
      · exact h.more
      · rename_i h3
        rw [if_neg h3] at hok hsm hps
        have hnew : ∀ p ∈ x.round, ∀ u ∈ p.2, u ≠ t := by
          intro p hp u hu e
          refine h3 ?_
          unfold waitsB
          exact List.any_eq_true.2 ⟨p, hp, by rw [← e]; exact List.contains_iff_mem.2 hu⟩
        have hold : ∀ p ∈ x.round, ∀ u ∈ p.2, gset g t (some s) u = some p.1 ∧ 0 ≤ u ∧ u ≤ 1000 := by
          intro p hp u hu
          have := h.w p hp u hu
          unfold gset
          rw [if_neg (hnew p hp u hu)]
          exact this
        split
        · rename_i h4
          rw [if_pos h4] at hok hsm hps
          refine ⟨hok, hsm, by omega, ?_, ?_, ?_, ?_⟩
          · simp
          · simp only [if_true]; exact hold
          · intro _
            simp only [if_true]
            unfold gset
            rw [if_pos rfl]
            exact ⟨rfl, ht⟩
          · intro q; cases q
        · rename_i h4
          rw [if_neg h4] at hok hsm hps
          have hh : x.held = true := by cases q : x.held with
            | true => rfl
            | false => exact absurd q h4
          refine ⟨hok, hsm, by omega, ?_, ?_, ?_, ?_⟩
          · simpa using h.st
          · simp only [if_true]
            intro p hp u hu
            rcases addP_mem hp with q | ⟨k, hk, rfl⟩ | ⟨_, rfl⟩
            · exact hold p q u hu
            · rcases List.mem_append.1 hu with q | q
              · have := hold _ (rg_mem (rowI_some hk).1) u q
                rw [(rowI_some hk).2] at this
                exact this
              · rw [List.mem_singleton.1 q]
                unfold gset
                rw [if_pos rfl]
                exact ⟨rfl, ht⟩
            · rw [List.mem_singleton.1 hu]
              unfold gset
              rw [if_pos rfl]
              exact ⟨rfl, ht⟩
          · intro _
            simp only [if_true]
            unfold gset
            rw [if_neg (fun e => h2 ⟨hh, e⟩)]
            exact h.o hh
          · intro q
            exact absurd q (by rw [hh]; simp)
/-- what the statement asks of a hand-off, and what is so behind it. -/
theorem BI.give (h : BI n x g st) (hh : x.held = true) (hl : n + 1 ≤ 1000) : (giveP x x.owner).2.2.2 = 0 ∧
    ((giveP x x.owner).2.2.1 = false → BI (n + 1) (giveP x x.owner).1 g 0) ∧
    ((giveP x x.owner).2.2.1 = true → g (giveP x x.owner).2.1 = some (giveP x x.owner).1.socket ∧ 0 ≤ (giveP x x.owner).2.1 ∧ (giveP x x.owner).2.1 ≤ 1000 ∧
      ((giveP x x.owner).1.socket = x.socket → BI (n + 1) (giveP x x.owner).1 g (st + 1) ∧ (otherB x g (waitingP x) = true → st + 1 ≤ 3)) ∧
      ((giveP x x.owner).1.socket ≠ x.socket → BI (n + 1) (giveP x x.owner).1 g 0)) := by
  have hok := give_ok (t := x.owner) h.ok
  have hsm := give_sm (t := x.owner) h.ok h.sm
  have hps := give_pass (t := x.owner) h.ok h.ps
  unfold giveP at *
  have h1 : ¬ (x.held = false ∨ x.owner ≠ x.owner) := by rw [hh]; simp
  rw [if_neg h1] at hok hsm hps ⊢
  by_cases h2 : x.round = []
  · rw [if_pos h2] at hok hsm hps ⊢
    refine ⟨rfl, fun _ => ⟨hok, hsm.more (Nat.le_succ _), hps, rfl, by simp [ls0], by simp [ls0], fun _ => rfl⟩, fun q => by cases q⟩
  · rw [if_neg h2] at hok hsm hps ⊢
    refine ⟨rfl, fun q => (by cases q), fun _ => ?_⟩
    obtain ⟨i, hi, how, hhe, hc⟩ := next_cases h.ok h2
    have hmem := fun {p : Rw} => next_mem (p := p) h.ok h2 hi (hc.imp (fun q => q.2.2.2.2) (fun q => q.2.2.2.2.2))
    have hfull := h.ok.full _ (rg_mem hi)
    have hhead : firstT x.round i ∈ (rg x.round i).2 := by
      unfold firstT
      match hq : (rg x.round i).2, hfull with
      | a :: l, _ => simp
    obtain ⟨hg, hb⟩ := h.w _ (rg_mem hi) _ hhead
    have hsock : (nextP x).socket = (rg x.round i).1 := by
      rcases hc with ⟨q1, _, q2, _⟩ | ⟨_, _, _, q2, _⟩
      · rw [q2, q1]
      · exact q2
    have hw : ∀ p ∈ (nextP x).round, ∀ u ∈ p.2, g u = some p.1 ∧ 0 ≤ u ∧ u ≤ 1000 := by
      intro p hp u hu
      rcases hmem hp with q | ⟨rfl, _⟩
      · exact h.w p q u hu
      · exact h.w _ (rg_mem hi) u (List.mem_of_mem_tail hu)
    have hbi : ∀ st', st' = (nextP x).passes → BI (n + 1) (nextP x) g st' := fun st' e => ⟨hok, hsm.more (Nat.le_succ _), hps, e, hw, fun _ => by rw [how, hsock]; exact ⟨hg, hb⟩, fun q => absurd (hhe.symm.trans q) (by rw [hh]; simp)⟩
    refine ⟨?_, ?_, ?_, ?_, ?_⟩
    · show g (nextP x).owner = _
      rw [how, hsock]; exact hg
    · show 0 ≤ (nextP x).owner
      rw [how]; exact hb.1
    · show (nextP x).owner ≤ 1000
      rw [how]; exact hb.2
    · intro hsame
      rcases hc with ⟨q1, q2, q3, q4, q5⟩ | ⟨q1, _, _, q2, _⟩
      · refine ⟨hbi _ (by rw [q4, h.st]), fun ho => ?_⟩
        rcases q2 with q2 | q2
        · rw [h.st]; omega
        · exfalso
          unfold otherB waitingP at ho
          obtain ⟨u, hu, hne⟩ := List.any_eq_true.1 ho
          obtain ⟨p, hp, hup⟩ := List.mem_flatMap.1 hu
          have hgu := (h.w p hp u hup).1
          rw [hgu] at hne
          have hp0 : p = rg x.round i := by
            match hr : x.round, q2 with
            | [a], _ =>
              rw [hr] at hp hi
              simp at hi
              subst hi
              rw [List.mem_singleton.1 hp]
              simp [rg]
          rw [hp0, q1] at hne
          simp at hne
      · exact absurd (q2.symm.trans hsame) q1
    · intro hdiff
      rcases hc with ⟨q1, q2, q3, q4, q5⟩ | ⟨q1, _, _, q2, q3, _⟩
      · exact absurd q3 hdiff
      · exact hbi 0 q3.symm
end
end Go.Proofs.Ytgiimdoabkcoaaa.Co

/-
While another socket waits, at most Budget hand-offs stay in one: the statement's own function, walked.
-/
namespace Go.Proofs.Ytgiimdoabkcoaaa.Co
set_option linter.unusedVariables false
set_option linter.unusedSimpArgs false
open Go.Maps Go.RowKit Go.Proofs.YtgiimdoabkcoaaaW.PrintWords Go.Proofs.YtgiimdoabkcoaaaW.PrintLast Go.Proofs.YtgiimdoabkcoaaaW.PrintMore
attribute [local go_sem] max2_int min2_int
theorem flat_bound {M : Nat} : ∀ {r : List Rw}, (∀ p ∈ r, p.2.length ≤ M) → (r.flatMap (·.2)).length ≤ r.length * M
  | [], _ => by simp
  | p :: r, h => by
    have h1 := flat_bound (r := r) (fun q hq => h q (List.mem_cons_of_mem _ hq))
    have h2 := h p List.mem_cons_self
    rw [List.flatMap_cons, List.length_append, List.length_cons, Nat.succ_mul]
    omega
theorem waiting_len {M : Nat} {x : LS} (h : Sm M x) (hM : M ≤ 1000) : (waitingP x).length ≤ 1000000 := by
  have h1 := flat_bound h.2
  have h2 : x.round.length * M ≤ 1000 * 1000 := Nat.mul_le_mul (Nat.le_trans h.1 hM) hM
  unfold waitingP
  omega
theorem st_num {st p : Int} {n : Nat} (h : st = p) (h0 : 0 ≤ p) (h1 : p ≤ (n : Int)) (hn : n ≤ 1000) : wrap64 (st + 1) = st + 1 ∧ IntKind.i64.wrap (st + 1) = st + 1 := by
  have h1 : wrap64 (st + 1) = st + 1 := by rw [wrap_nat (by omega) (by omega)]
  exact ⟨h1, (i64_w _).trans h1⟩
def o0 : OpS := ⟨0, 0, 0, 0⟩
theorem cut80 (n : Nat) : ∃ m : Nat, min (n : Int) 80 = (m : Int) ∧ m ≤ n ∧ m ≤ 80 := ⟨min n 80, by omega, by omega, by omega⟩
theorem op_at {w wr : World} {A : Option Addr} {n : Nat} {l : List OpS} (hA : Kd.C kOp w A n l) (hn : n ≤ l.length) (hb : Below w.heap.size w wr) {i : Nat} (hi : i < n) : ∃ ad o, A = some ad ∧ o ∈ l ∧ wr.cell? (ad.add (i * 4)) = some (.int .u64 o.k) ∧ wr.cell? ⟨(ad.add (i * 4)).block, (ad.add (i * 4)).off + 1, none⟩ = some (.int .i64 o.l) ∧
    wr.cell? ⟨(ad.add (i * 4)).block, (ad.add (i * 4)).off + 2, none⟩ = some (.int .i64 o.t) ∧ wr.cell? ⟨(ad.add (i * 4)).block, (ad.add (i * 4)).off + 3, none⟩ = some (.int .i64 o.s) := by
  obtain ⟨ad, cs, hA', hcl, hK, hcc⟩ := Kd.C_get hA o0 (i : Int) (by omega) (by omega)
  rw [Int.toNat_natCast] at hK hcc
  refine ⟨ad, l.getD i o0, hA', ?_, ?_⟩
  · rw [List.getD_eq_getElem?_getD, List.getElem?_eq_getElem (by omega)]; exact List.getElem_mem _
  · obtain rfl := kOp_open hK
    have h2 : kOp.sz = 4 := rfl
    rw [h2] at hcc
    have h3 : ∀ j, 0 < j → ad.add (i * 4 + j) = ⟨(ad.add (i * 4)).block, (ad.add (i * 4)).off + j, none⟩ := fun j hj => by
      rw [← add_add]
      generalize ad.add (i * 4) = a
      unfold Addr.add
      rw [if_neg (by omega)]
    refine ⟨bel_cell hb (hcc 0 _ rfl), ?_, ?_, ?_⟩
    · rw [← h3 1 (by omega)]; exact bel_cell hb (hcc 1 _ rfl)
    · rw [← h3 2 (by omega)]; exact bel_cell hb (hcc 2 _ rfl)
    · rw [← h3 3 (by omega)]; exact bel_cell hb (hcc 3 _ rfl)
set_option maxRecDepth 100000 in
set_option maxHeartbeats 4000000 in
theorem budget_any (A : Option Addr) (c : Nat) (l : List OpS) (w : World) (hA : Kd.C kOp w A l.length l) (hc : l.length ≤ c) (hk : ∀ o ∈ l, 0 ≤ o.k ∧ o.k ≤ 18446744073709551615) :
    Calls Try.prog 12 #[.slice A l.length c] w fun e w' => e = .returned (.bool true) ∧ Below w.heap.size w w' := by
  obtain ⟨m, hm, hml, hm80⟩ := cut80 l.length
  have h0 := Lib.hid (new_c1 w)
  have HA := Lib.hid hA
  have HK := Lib.hid hk
  obtain ⟨n0, hn0⟩ : ∃ n0, l.length = n0 := ⟨_, rfl⟩
  have HN := Lib.hid hn0
  rw [hn0] at hm hml hc ⊢
  have hmm := @run_makeMap Try.prog
  have hm1 : (0 : Int) ≤ (m : Int) ∧ (m : Int) ≤ (n0 : Int) := by omega
  have hm2 := eq_true hm1
  clear hA hk hn0 hm1
  go_enter Try.func12, Try.ntmps12
  go_wp2_with (first | (go_at_call 47; refine (h0.out).mono ?_; rintro e w1 ⟨h, lb, rfl, c1⟩; have C0 := Lib.hid c1; clear c1) | fail)
  obtain ⟨mb, hmb⟩ : ∃ mb, w1.heap.size = mb := ⟨_, rfl⟩
  have hb1 : Below w1.heap.size w1 (w1.alloc (.map #[] 0)) := (Below.refl _ _).alloc (Nat.le_refl _) _
  have cx0 : CX w (w1.alloc (.map #[] 0)) (fun k => k = mb) h lb ls0 := (CX.of_c1 C0.out).other (Fr.of_below _ hb1) (fun k q => .inr ⟨by rw [hmb, q]; exact Nat.le_refl _, by rw [q, ← hmb, World.size_alloc]; exact Nat.lt_succ_self _⟩)
  have ma0 : MapAt (w1.alloc (.map #[] 0)) mb 0 (fun _ => none) := hmb ▸ MapAt.made w1
  have CX0 := Lib.hid cx0
  have MA0 := Lib.hid ma0
  clear cx0 ma0 hb1
  rw [hmb]
  obtain ⟨W1, hW1⟩ : ∃ W1, w1.alloc (.map #[] 0) = W1 := ⟨_, rfl⟩
  rw [hW1] at CX0 MA0 ⊢
  clear hW1 hmb hmm C0 h0
  go_loopg [5, 30] m (fun gg v5 v30 wr => ∃ (kk : Nat) (x : LS) (g : Int → Option Int) (st : Int), kk ≤ m ∧ m - kk ≤ gg ∧ v30 = .int .i64 kk ∧ v5 = .int .i64 st ∧ Aside0 (BI kk x g st) ∧ Aside0 (∃ nn, nn ≤ kk ∧ MapAt wr mb nn g) ∧ Aside0 (CX w wr (fun k => k = mb) h lb x))
  case atStart => exact ⟨0, ls0, _, 0, Nat.zero_le _, by omega, rfl, rfl, ⟨bi0⟩, ⟨0, Nat.le_refl _, MA0.out⟩, ⟨CX0.out⟩⟩
  case round =>
    obtain ⟨kk, x, g, st, hkk, hg, rfl, rfl, HI, HM, HC⟩ := hrel
    by_cases hlt : kk < m
    · have hltz : (kk : Int) < (m : Int) := by omega
      obtain ⟨ad, o, rfl, hmem, f0, f1, f2, f3⟩ := op_at HA.out (Nat.le_refl _) HC.out.bel (i := kk) (by rw [HN.out]; omega)
      obtain ⟨hk0, hk1⟩ := HK.out o hmem
      clear hmem
      go_upto_if 37 with (fail)
      obtain ⟨O, hO⟩ : ∃ O, wr.alloc (.cells #[.int .u64 o.k, .int .i64 o.l, .int .i64 o.t, .int .i64 o.s] 90) = O := ⟨_, rfl⟩
      have hbO : Below wr.heap.size wr O := hO ▸ (Below.refl wr.heap.size wr).alloc (Nat.le_refl _) _
      have b2 : O.cell? ⟨wr.heap.size, 2, none⟩ = some (.int .i64 o.t) := by rw [← hO]; simp [go_sem]
      have b3 : O.cell? ⟨wr.heap.size, 3, none⟩ = some (.int .i64 o.s) := by rw [← hO]; simp [go_sem]
      rw [hO]
      have hcO := HC.out.behind hbO
      obtain ⟨nn, hnn, hmap⟩ := HM.out
      have hmO := hmap.behind hbO
      have HCO := Lib.hid hcO
      have HMO := Lib.hid hmO
      have hsm : Sm 1000000 x := HI.out.sm.more (by omega)
      have HSm := Lib.hid hsm
      clear hO hbO hcO hmO hmap HC HM f0 f1 f2 f3 hsm
      cases he : (o.k % 2 == 0) with
      | true =>
        obtain ⟨tt, htt⟩ : ∃ tt, max 0 (min o.t 1000) = tt := ⟨_, rfl⟩
        obtain ⟨ss, hss⟩ : ∃ ss, max 0 (min o.s 1000) = ss := ⟨_, rfl⟩
        have ht : 0 ≤ tt ∧ tt ≤ 1000 := by omega
        have hs2 : 0 ≤ ss ∧ ss ≤ 1000 := by omega
        have HSW := Lib.hid (wfk_small hs2.1 (Int.le_trans hs2.2 (by omega)))
        clear hs2
        have HT := Lib.hid ht
        clear ht hk0 hk1
        go_upto_region 9 with (fail)
        go_quiet (fail)
        obtain ⟨W2, hW2⟩ : ∃ W2, O.drewN nq = W2 := ⟨_, rfl⟩
        have hb2 : Below O.heap.size O W2 := hW2 ▸ bel_drewN (Below.refl _ _) nq
        have HC2 := Lib.hid (HCO.out.behind hb2)
        have HM2 := Lib.hid (HMO.out.behind hb2)
        have hbi := HI.out.take (t := tt) (s := ss) HT.out
        obtain ⟨⟨x1, b1, e1⟩, hT⟩ : ∃ q, takeP x tt ss = q := ⟨_, rfl⟩
        have htake := take_cx HC2.out HSm.out tt ss
        rw [hT] at hbi htake
        unfold tkV at htake
        dsimp only at htake hbi
        have HTake := Lib.hid htake
        have HBi := Lib.hid hbi
        have HTW := Lib.hid (wfk_small HT.out.1 (Int.le_trans HT.out.2 (by omega)))
        have hnn2 : nn < maxLen := by unfold maxLen; omega
        have HNN := Lib.hid hnn2
        rw [hW2]
        clear hW2 hb2 hT htake hbi htt hss b2 b3 hnn2
        by_cases he0 : e1 = 0
        · subst he0
          cases b1 with
          | true =>
            go_wp2_with (first
              | (go_at_call 48; refine (HTake.out).mono ?_; rintro e w4 ⟨rfl, c4, f4⟩; obtain ⟨D, hD, hI⟩ := HM2.out.kept f4 (fun q => q.2 rfl); have HC4 := Lib.hid c4; have HI4 := Lib.hid hI; clear c4 f4 hI)
              | (refine wpList_mapUpdate_own w4 rfl (.tmp 55) (.tmp 56) (.tmp 57) 101 rfl 3 3 lawK Try.underlying101 (plainElem Try.prog 3) mb nn D rfl hD HNN.out _ _ (Lit.int .i64 tt) rfl rfl (key_of HTW.out) (.lit (.int .i64 ss)) [] (plainElem_int Try.underlying3 HSW.out) ?_; intro w5 hD5 hg5; have HM5 : Hid (MapAt w5 mb (nn + 1) (gset g tt (some ss))) := Lib.hid ⟨_, hD5, idx_put HI4.out tt ss⟩; have HC5 := Lib.hid (HC4.out.other (Fr.of_grown hg5 (fun k q => by injection q with q; exact q.symm)) (X1 := fun k => k = mb) (fun k q => .inl q)); clear hD5 hg5)
              | fail)
            go_roundg (m - (kk + 1))
            case measure => omega
            case rel => exact ⟨kk + 1, x1, _, _, by omega, by omega, by go_num, rfl, ⟨HBi.out⟩, ⟨nn + 1, by omega, HM5.out⟩, ⟨HC5.out⟩⟩
          | false =>
            go_wp2_with (first
              | (go_at_call 48; refine (HTake.out).mono ?_; rintro e w4 ⟨rfl, c4, f4⟩; obtain ⟨D, hD, hI⟩ := HM2.out.kept f4 (fun q => q.2 rfl); have HC4 := Lib.hid c4; have HI4 := Lib.hid hI; clear c4 f4 hI)
              | (refine wpList_mapUpdate_own w4 rfl (.tmp 55) (.tmp 56) (.tmp 57) 101 rfl 3 3 lawK Try.underlying101 (plainElem Try.prog 3) mb nn D rfl hD HNN.out _ _ (Lit.int .i64 tt) rfl rfl (key_of HTW.out) (.lit (.int .i64 ss)) [] (plainElem_int Try.underlying3 HSW.out) ?_; intro w5 hD5 hg5; have HM5 : Hid (MapAt w5 mb (nn + 1) (gset g tt (some ss))) := Lib.hid ⟨_, hD5, idx_put HI4.out tt ss⟩; have HC5 := Lib.hid (HC4.out.other (Fr.of_grown hg5 (fun k q => by injection q with q; exact q.symm)) (X1 := fun k => k = mb) (fun k q => .inl q)); clear hD5 hg5)
              | fail)
            go_roundg (m - (kk + 1))
            case measure => omega
            case rel => exact ⟨kk + 1, x1, _, _, by omega, by omega, by go_num, rfl, ⟨HBi.out⟩, ⟨nn + 1, by omega, HM5.out⟩, ⟨HC5.out⟩⟩
        · have heb : (e1 == 0) = false := by simpa using he0
          have hbi := HBi.out
          rw [if_neg he0] at hbi
          have HBi2 := Lib.hid hbi
          clear hbi he0
          cases b1 with
          | true =>
            go_wp2_with (first
              | (go_at_call 48; refine (HTake.out).mono ?_; rintro e w4 ⟨rfl, c4, f4⟩; obtain ⟨D, hD, hI⟩ := HM2.out.kept f4 (fun q => q.2 rfl); have HC4 := Lib.hid c4; have HI4 := Lib.hid hI; clear c4 f4 hI)
              | fail)
            go_roundg (m - (kk + 1))
            case measure => omega
            case rel => exact ⟨kk + 1, x1, _, _, by omega, by omega, by go_num, rfl, ⟨HBi2.out⟩, ⟨nn, by omega, ⟨D, hD, HI4.out⟩⟩, ⟨HC4.out⟩⟩
          | false =>
            go_wp2_with (first
              | (go_at_call 48; refine (HTake.out).mono ?_; rintro e w4 ⟨rfl, c4, f4⟩; obtain ⟨D, hD, hI⟩ := HM2.out.kept f4 (fun q => q.2 rfl); have HC4 := Lib.hid c4; have HI4 := Lib.hid hI; clear c4 f4 hI)
              | fail)
            go_roundg (m - (kk + 1))
            case measure => omega
            case rel => exact ⟨kk + 1, x1, _, _, by omega, by omega, by go_num, rfl, ⟨HBi2.out⟩, ⟨nn, by omega, ⟨D, hD, HI4.out⟩⟩, ⟨HC4.out⟩⟩
      | false =>
        clear b2 b3 hk0 hk1
        have howner := owner_c1 HCO.out.c1
        have hsocket := socket_c1 HCO.out.c1
        have HOwner := Lib.hid howner
        have HSocket := Lib.hid hsocket
        clear howner hsocket
        cases hh : x.held with
        | false =>
          rw [hh] at HOwner
          have HBm := Lib.hid HI.out.more
          go_wp2_with (first
            | (go_at_call 49; refine (HOwner.out).mono ?_; rintro e w9 ⟨rfl, hw9⟩; rw [hw9]; clear hw9)
            | fail)
          go_roundg (m - (kk + 1))
          case measure => omega
          case rel => exact ⟨kk + 1, x, g, st, by omega, by omega, by go_num, rfl, ⟨HBm.out⟩, ⟨nn, by omega, HMO.out⟩, ⟨HCO.out⟩⟩
        | true =>
          rw [hh, if_pos rfl] at HOwner
          have hwl : (waitingP x).length ≤ 1000000 := waiting_len HI.out.sm (by omega)
          have hrl : x.round.length ≤ 1000000 := HSm.out.1
          have HWait := Lib.hid (waiting_cx HCO.out hrl hwl)
          have HH := Lib.hid hh
          have hwk : ∀ u ∈ waitingP x, wfk u := fun u hu => by
            obtain ⟨p, hp, hup⟩ := List.mem_flatMap.1 hu
            have := HI.out.w p hp u hup
            exact wfk_small this.2.1 (Int.le_trans this.2.2 (by omega))
          have HWK := Lib.hid hwk
          obtain ⟨wl, hwle⟩ : ∃ wl, waitingP x = wl := ⟨_, rfl⟩
          rw [hwle] at HWait HWK hwl
          have HWL := Lib.hid hwle
          have HWLen := Lib.hid hwl
          clear hwl hrl hh hwk hwle
          go_upto_region 20 with (first
            | (go_at_call 49; refine (HOwner.out).mono ?_; rintro e w9 ⟨rfl, hw9⟩; rw [hw9]; clear hw9)
            | (go_at_call 52; refine (HSocket.out).mono ?_; rintro e w9 ⟨rfl, hw9⟩; rw [hw9]; clear hw9)
            | (go_at_call 53; refine (HWait.out).mono ?_; rintro e w4 ⟨v4, rfl, r4, b4⟩; obtain ⟨A4, c4, e4_⟩ := Kd.R_slice r4; subst e4_; obtain ⟨n4, hn4⟩ : ∃ n4, wl.length = n4 := ⟨_, rfl⟩; rw [hn4] at r4 ⊢; have HR4 := Lib.hid r4; have HB4 := Lib.hid b4; have HN4 := Lib.hid hn4; clear r4 b4 hn4)
            | fail)
          have HC4 := Lib.hid (HCO.out.behind HB4.out)
          have HM4 := Lib.hid (HMO.out.behind HB4.out)
          have hn4b : n4 ≤ 1000000 := HN4.out ▸ HWLen.out
          go_loopg [15, 71] n4 (fun gg v15 v71 wi => ∃ j : Nat, j ≤ n4 ∧ n4 - j ≤ gg ∧ v71 = .int .i64 j ∧ v15 = .bool (otherB x g (wl.take j)) ∧ wi = w4)
          case atStart => exact ⟨0, Nat.zero_le _, by omega, rfl, rfl, rfl⟩
          case round =>
            obtain ⟨j, hj, hg2, rfl, rfl, rfl⟩ := hrel
            by_cases hlt2 : j < n4
            · have hltz2 : (j : Int) < (n4 : Int) := by omega
              obtain ⟨q, cap, hq, _, _, _⟩ := Kd.R_form HR4.out (by rw [HN4.out]; omega)
              injection hq with hq1 hq2 hq3
              subst hq1
              obtain ⟨cc, hcl, hMc, hcc, _⟩ := Kd.R_elem HR4.out 0 (j : Int) (by omega) (by omega)
              have hMc' : cc = [.int .i64 (wl.getD (j : Int).toNat 0)] := hMc
              subst hMc'
              have hjl : j < wl.length := by rw [HN4.out]; exact hlt2
              obtain ⟨u, hu⟩ : ∃ u, wl.getD (j : Int).toNat 0 = u := ⟨_, rfl⟩
              have e0 := hcc 0 _ rfl
              rw [hu] at e0
              have e1 : wr.cell? ⟨q, j, none⟩ = some (.int .i64 u) := by
                have h1 : (j : Int).toNat * (Kd.int .i64).sz + 0 = j := by rw [Int.toNat_natCast]; exact Nat.mul_one j
                rw [h1] at e0
                exact e0
              have hum : u ∈ wl := by rw [← hu, Int.toNat_natCast, List.getD_eq_getElem?_getD, List.getElem?_eq_getElem hjl]; exact List.getElem_mem _
              have hlk := HM4.out.look (HWK.out u hum)
              obtain ⟨zz, hzz⟩ : ∃ zz, (g u).getD 0 = zz := ⟨_, rfl⟩
              rw [hzz] at hlk
              have hsn : otherB x g (wl.take (j + 1)) = (otherB x g (wl.take j) || (zz != x.socket)) := by
                have h2 : wl[j] = u := by rw [← hu, Int.toNat_natCast, List.getD_eq_getElem?_getD, List.getElem?_eq_getElem hjl]; rfl
                unfold otherB
                rw [List.take_succ_eq_append_getElem hjl, List.any_append, h2]
                simp only [List.any_cons, List.any_nil, Bool.or_false, hzz]
                congr 1
                by_cases hzx : zz = x.socket <;> simp [hzx]
              have HSN := Lib.hid hsn
              clear hcc hMc hcl hu e0 hum hzz hsn
              cases hob : otherB x g (wl.take j) with
              | true =>
                rw [hob, Bool.true_or] at HSN
                go_wp2
                go_roundg (n4 - (j + 1))
                case measure => omega
                case rel => exact ⟨j + 1, by omega, by omega, by go_num, by rw [HSN.out], rfl⟩
              | false =>
                rw [hob, Bool.false_or] at HSN
                go_wp2
                go_roundg (n4 - (j + 1))
                case measure => omega
                case rel => exact ⟨j + 1, by omega, by omega, by go_num, by rw [HSN.out], rfl⟩
            · have hltz2 : ¬ (j : Int) < (n4 : Int) := by omega
              have hjn : j = n4 := by omega
              have htk : wl.take j = wl := by rw [hjn, ← HN4.out, List.take_length]
              rw [htk]
              obtain ⟨ob, hob⟩ : ∃ ob, otherB x g wl = ob := ⟨_, rfl⟩
              rw [hob]
              have hgive := give_cx HC4.out HSm.out HI.out.ok (by have := HI.out.ps; omega) x.owner
              have hbi := HI.out.give HH.out (by omega)
              rw [HWL.out, hob] at hbi
              obtain ⟨⟨x2, n2, gv, er⟩, hG⟩ : ∃ q, giveP x x.owner = q := ⟨_, rfl⟩
              rw [hG] at hgive hbi
              unfold gvV at hgive
              dsimp only at hgive hbi
              obtain ⟨rfl, hf, htr⟩ := hbi
              have HGive := Lib.hid hgive
              have HF := Lib.hid hf
              have HTr := Lib.hid htr
              clear hG hgive hf htr hob htk hjn
              cases gv with
              | false =>
                go_upto_region 25 with (first
                  | (go_at_call 50; refine (HGive.out).mono ?_; rintro e w5 ⟨rfl, c5, f5⟩; have HC5 := Lib.hid c5; have HM5 := Lib.hid (HM4.out.kept f5 (fun q => q.2 rfl)); clear c5 f5)
                  | fail)
                go_quiet (fail)
                go_wp2
                go_roundg (m - (kk + 1))
                case measure => omega
                case rel =>
                  have hb9 : Below w5.heap.size w5 (w5.drewN nq) := bel_drewN (Below.refl _ _) nq
                  exact ⟨kk + 1, x2, g, 0, by omega, by omega, by go_num, rfl, ⟨HF.out (by simp)⟩, ⟨nn, by omega, HM5.out.behind hb9⟩, ⟨HC5.out.behind hb9⟩⟩
              | true =>
                obtain ⟨hg2_, hn0_, hn1_, hsame, hdiff⟩ := HTr.out (by simp)
                have hwk2 : wfk n2 := wfk_small hn0_ (Int.le_trans hn1_ (by omega))
                have HG2 := Lib.hid hg2_
                have HSame := Lib.hid hsame
                have HDiff := Lib.hid hdiff
                have HWK2 := Lib.hid hwk2
                clear hg2_ hn0_ hn1_ hsame hdiff hwk2 HTr HF
                go_upto_region 25 with (first
                  | (go_at_call 50; refine (HGive.out).mono ?_; rintro e w5 ⟨rfl, c5, f5⟩; have HC5 := Lib.hid c5; have HM5 := Lib.hid (HM4.out.kept f5 (fun q => q.2 rfl)); clear c5 f5)
                  | fail)
                have hS : ∀ k, Calls Try.prog 52 #[.pointer (some ⟨h, 0, none⟩), .int .i64 0] (w5.drewN k) fun e w' => e = .returned (.int .i64 x2.socket) ∧ w' = w5.drewN k := fun k => socket_c1 (HC5.out.behind (bel_drewN (Below.refl _ _) k)).c1
                have hlk : ∀ k, (Instr.lookup 101 (.map (some mb)) (.int .i64 n2) false).run Try.prog (w5.drewN k) = .ok (.int .i64 x2.socket) (w5.drewN k) := fun k => by
                  have := (HM5.out.behind (bel_drewN (Below.refl w5.heap.size w5) k)).look HWK2.out
                  rw [HG2.out] at this
                  exact this
                have hlk0 := hlk 0
                have hlk1 := hlk 1
                have HSo := Lib.hid hS
                clear hS
                go_quiet ((go_at_call 52; exact Calls.quiet_of_same (HSo.out _)))
                have hb9 : Below w5.heap.size w5 (w5.drewN nq) := bel_drewN (Below.refl _ _) nq
                have HC9 := Lib.hid (HC5.out.behind hb9)
                have HM9 := Lib.hid (HM5.out.behind hb9)
                have hlkq := hlk nq
                have hst := st_num HI.out.st HI.out.ok.pass HI.out.ps (by omega)
                obtain ⟨hst1, hst2⟩ := hst
                clear hb9 hlk hlk0 hlk1
                by_cases hsk : x2.socket = x.socket
                · obtain ⟨hbi3, hbud⟩ := HSame.out hsk
                  have hb5 : (x2.socket == x.socket) = true := by simp [hsk]
                  have HB3 := Lib.hid hbi3
                  cases ob with
                  | true =>
                    have hgt : decide ((3 : Int) < st + 1) = false := decide_eq_false (Int.not_lt.2 (hbud rfl))
                    clear hbud hsk hbi3
                    go_wp2
                    go_roundg (m - (kk + 1))
                    case measure => omega
                    case rel => exact ⟨kk + 1, x2, g, st + 1, by omega, by omega, by go_num, rfl, ⟨HB3.out⟩, ⟨nn, by omega, HM9.out⟩, ⟨HC9.out⟩⟩
                  | false =>
                    clear hbud hsk hbi3
                    go_wp2
                    go_roundg (m - (kk + 1))
                    case measure => omega
                    case rel => exact ⟨kk + 1, x2, g, st + 1, by omega, by omega, by go_num, rfl, ⟨HB3.out⟩, ⟨nn, by omega, HM9.out⟩, ⟨HC9.out⟩⟩
                · have hb5 : (x2.socket == x.socket) = false := by simp [hsk]
                  have HB3 := Lib.hid (HDiff.out hsk)
                  clear hsk
                  go_wp2
                  go_roundg (m - (kk + 1))
                  case measure => omega
                  case rel => exact ⟨kk + 1, x2, g, 0, by omega, by omega, by go_num, rfl, ⟨HB3.out⟩, ⟨nn, by omega, HM9.out⟩, ⟨HC9.out⟩⟩
    · have hltz : ¬ (kk : Int) < (m : Int) := by omega
      have hlv := Lib.hid (lives_any wr)
      have HB := Lib.hid HC.out.bel
      go_wp2_with (first | (go_at_call 51; refine (hlv.out).mono ?_; rintro e w9 ⟨rfl, B9⟩) | fail)
      go_ret
      exact ⟨rfl, Below_trans HB.out B9⟩
end Go.Proofs.Ytgiimdoabkcoaaa.Co
