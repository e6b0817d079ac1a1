/-
The locks' Give, walked.
-/
import Derived.Test.YtgiimdoabkcoaaaCoAway
namespace Go.Proofs.Ytgiimdoabkcoaaa.Co
set_option linter.unusedVariables false
set_option linter.unusedSimpArgs false
open Go.RowKit Go.Proofs.YtgiimdoabkcoaaaW.PrintWords Go.Proofs.YtgiimdoabkcoaaaW.PrintLast Go.Proofs.YtgiimdoabkcoaaaW.PrintMore
theorem Fr_up {w w1 w2 : World} {F G : Nat → Prop} (h : Fr F w w1) (h2 : Fr G w1 w2) (hG : ∀ k, G k → F k ∨ w.heap.size ≤ k) : Fr F w w2 :=
  h.trans h2 (fun k hk q => (hG k q).elim id (fun q => absurd hk (Nat.not_lt.2 q)))
def gvV (n : Int) (b : Bool) (e : Int) : Value := .tuple #[.int .i64 n, .bool b, .int .i64 e]
theorem pass_num {p : Int} (h0 : 0 ≤ p) (h1 : p ≤ 1000000) : wrap64 (p + 1) = p + 1 ∧ IntKind.i64.wrap (p + 1) = p + 1 := by
  have h1 : wrap64 (p + 1) = p + 1 := by rw [wrap_nat (by omega) (by omega)]
  exact ⟨h1, (i64_w _).trans h1⟩
theorem ne_one {m : Nat} (h : m ≠ 1) : ((m : Int) == 1) = false := by simp; omega
section
variable {w : World} {F : Nat → Prop} {h lb : Nat} {xs : List LS}
def GiveQ (w : World) (n : Int) (b : Bool) (er : Int) (e : Ending) (w' : World) : Prop := e = .returned (gvV n b er) ∧ Below w.heap.size w w'
set_option maxRecDepth 100000 in
set_option maxHeartbeats 8000000 in
theorem give_none (L : LocksAt w F h lb xs) {n : Int} (hn : ¬ (0 ≤ n ∧ n < (xs.length : Int))) (t : Int) :
    Calls Try.prog 50 #[.pointer (some ⟨h, 0, none⟩), .int .i64 n, .int .i64 t] w (GiveQ w 0 false 3) := by
  have hAt := at_any L n
  unfold atV at hAt
  rw [if_neg hn] at hAt
  have HAt := Lib.hid hAt
  clear hAt L hn
  go_enter Try.func50, Try.ntmps50
  go_wp2_with (first | (go_at_call 98; refine (HAt.out).mono ?_; rintro e w1 ⟨rfl, hw9⟩; rw [hw9]; clear hw9) | fail)
  go_ret3
  exact ⟨rfl, Below.refl _ _⟩
/-- what Give leaves. -/
def GivePost (w : World) (F : Nat → Prop) (h lb : Nat) (xs : List LS) (i : Nat) (g : LS × Int × Bool × Int) (e : Ending) (w' : World) : Prop :=
  e = .returned (gvV g.2.1 g.2.2.1 g.2.2.2) ∧ LocksAt w' (fun k => F k ∨ w.heap.size ≤ k) h lb (xs.set i g.1) ∧ Fr F w w'
set_option maxRecDepth 100000 in
set_option maxHeartbeats 8000000 in
theorem give_some (L : LocksAt w F h lb xs) {i : Nat} (hi : i < xs.length) (hs : Sm 1000000 (xs.getD i ls0)) (hok : Ok (xs.getD i ls0)) (hp : (xs.getD i ls0).passes ≤ 1000000) (t : Int) :
    Calls Try.prog 50 #[.pointer (some ⟨h, 0, none⟩), .int .i64 (i : Int), .int .i64 t] w (GivePost w F h lb xs i (giveP (xs.getD i ls0) t)) := by
  have hAt := at_any L (i : Int)
  unfold atV at hAt
  rw [if_pos ⟨by omega, by omega⟩, Int.toNat_natCast] at hAt
  have HAt := Lib.hid hAt
  obtain ⟨oki, cur0, v, K, hoki, hdone⟩ := L.lk i hi
  have hself : xs.set i (xs.getD i ls0) = xs := by rw [List.getD_eq_getElem?_getD, List.getElem?_eq_getElem hi]; exact List.set_getElem_self hi
  obtain ⟨x, hx⟩ : ∃ x, xs.getD i ls0 = x := ⟨_, rfl⟩
  rw [hx] at K hself hs hok hp ⊢
  obtain ⟨A, c, hv⟩ := Kd.S_slice K.rows
  obtain ⟨m, hm⟩ : ∃ m, x.round.length = m := ⟨_, rfl⟩
  obtain ⟨c0, c1, c2, c3, c4⟩ := K.cc.c
  rw [hv, hm] at c4
  have z0 := K.cc.fz
  have hlt := K.cc.lbl
  obtain ⟨hw1, hw2⟩ := pass_num hok.pass hp
  have HL := Lib.hid L
  have HD := Lib.hid hdone
  have HS := Lib.hid hs
  have HOk := Lib.hid hok
  have HK := Lib.hid K
  have HSelf := Lib.hid hself
  have HX := Lib.hid hx
  have HM := Lib.hid hm
  have hquiet : LocksAt w (fun k => F k ∨ w.heap.size ≤ k) h lb (xs.set i x) ∧ Fr F w w := by
    rw [HSelf.out]
    exact ⟨HL.out.mono (fun k hk => .inl hk), Fr.refl F w⟩
  have HQ := Lib.hid hquiet
  clear hAt L hdone hs hself hx K hoki hok hp hv hquiet hm
  unfold giveP
  unfold lkp at HAt
  by_cases h1 : x.held = false ∨ x.owner ≠ t
  · rw [if_pos h1]
    show Calls _ _ _ _ fun e w' => e = .returned (gvV 0 false 8) ∧ LocksAt w' (fun k => F k ∨ w.heap.size ≤ k) h lb (xs.set i x) ∧ Fr F w w'
    cases hh : x.held with
    | false =>
      rw [hh] at c0
      clear h1
      go_enter Try.func50, Try.ntmps50
      go_wp2_with (first | (go_at_call 98; refine (HAt.out).mono ?_; rintro e w1 ⟨rfl, hw9⟩; rw [hw9]; clear hw9) | fail)
      go_ret3
      exact ⟨rfl, HQ.out⟩
    | true =>
      rw [hh] at c0
      have b1 : (x.owner != t) = true := by rw [hh] at h1; simpa using h1
      clear h1
      go_enter Try.func50, Try.ntmps50
      go_wp2_with (first | (go_at_call 98; refine (HAt.out).mono ?_; rintro e w1 ⟨rfl, hw9⟩; rw [hw9]; clear hw9) | fail)
      go_ret3
      exact ⟨rfl, HQ.out⟩
  · rw [if_neg h1]
    have hh : x.held = true := by cases q : x.held with
      | true => rfl
      | false => exact absurd (.inl q) h1
    have ho : x.owner = t := Decidable.byContradiction (fun q => h1 (.inr q))
    rw [hh] at c0
    rw [ho] at c1
    have HH := Lib.hid hh
    have HO := Lib.hid ho
    clear h1 hh ho
    by_cases h2 : x.round = []
    · rw [if_pos h2]
      show Calls _ _ _ _ fun e w' => e = .returned (gvV 0 false 0) ∧ LocksAt w' (fun k => F k ∨ w.heap.size ≤ k) h lb (xs.set i ls0) ∧ Fr F w w'
      have hm0 : m = 0 := by rw [← HM.out, h2]; rfl
      subst hm0
      clear h2
      go_enter Try.func50, Try.ntmps50
      go_wp2_with (first | (go_at_call 98; refine (HAt.out).mono ?_; rintro e w1 ⟨rfl, hw9⟩; rw [hw9]; clear hw9) | fail)
      go_ret3
      have K1 := HK.out.set (x' := ⟨false, x.owner, x.socket, x.passes, x.round⟩) 0 (by omega) (.bool false) rfl rfl
      have K2 := K1.set (x' := ⟨false, 0, x.socket, x.passes, x.round⟩) 1 (by omega) (.int .i64 0) rfl rfl
      have K3 := K2.set (x' := ⟨false, 0, 0, x.passes, x.round⟩) 2 (by omega) (.int .i64 0) rfl rfl
      have K4 := K3.set (x' := ⟨false, 0, 0, 0, x.round⟩) 3 (by omega) (.int .i64 0) rfl rfl
      have K5 := K4.cc.setR (Kd.S_nil kRow 154 _ 0 _)
      exact ⟨rfl, HD.out _ _ _ K5⟩
    · rw [if_neg h2]
      show Calls _ _ _ _ (GivePost w F h lb xs i (nextP x, (nextP x).owner, true, 0))
      have hmp : 0 < m := by rw [← HM.out]; exact List.length_pos_iff.2 h2
      have hb0 : ((m : Int) == 0) = false := by simp; omega
      obtain ⟨z, hz⟩ : ∃ z, oI (rowI x.round x.socket) = z := ⟨_, rfl⟩
      have HRow : Hid (Calls Try.prog 100 #[.pointer (some ⟨lb, i * 5, none⟩), .int .i64 x.socket] w fun e w' => e = .returned (.int .i64 z) ∧ Below w.heap.size w w') := Lib.hid (by
        have := row_any HL.out i hi (by rw [HX.out]; exact HS.out) x.socket
        rw [HX.out, hz] at this
        exact this)
      have HNE := Lib.hid h2
      have HZ := Lib.hid hz
      clear h2 hz
      -- behind first
      have HStay : ∀ k : Nat, k < x.round.length → ∀ w1, Below w.heap.size w w1 → Calls Try.prog 101 #[.pointer (some ⟨lb, i * 5, none⟩), .int .i64 (k : Int)] (w1.setCell ⟨lb, i * 5 + 3, none⟩ (.int .i64 (x.passes + 1))) fun e w' => e = .returned (.int .i64 (firstT x.round k)) ∧
          (w'.cell? ⟨lb, i * 5 + 1, none⟩ = some (.int .i64 t)) ∧ (∀ j, w'.frozen? ⟨lb, j, none⟩ = false) ∧ Aside0 (LocksAt (w'.setCell ⟨lb, i * 5 + 1, none⟩ (.int .i64 (firstT x.round k))) (fun k => F k ∨ w.heap.size ≤ k) h lb (xs.set i (stayP x k)) ∧ Fr F w (w'.setCell ⟨lb, i * 5 + 1, none⟩ (.int .i64 (firstT x.round k)))) := by
        intro k hk w1 hb1
        obtain ⟨oki1, cur1, v1, K1, _, hd1⟩ := (HL.out.behind hb1).lk i hi
        rw [HX.out] at K1
        obtain ⟨L2, F2⟩ := hd1 _ _ _ (K1.set (x' := ⟨x.held, x.owner, x.socket, x.passes + 1, x.round⟩) 3 (by omega) (.int .i64 (x.passes + 1)) rfl rfl)
        have hx2 := getD_set hi ⟨x.held, x.owner, x.socket, x.passes + 1, x.round⟩
        have hi2 : i < (xs.set i ⟨x.held, x.owner, x.socket, x.passes + 1, x.round⟩).length := by rw [List.length_set]; exact hi
        have hf := first_any L2 hi2 (by rw [hx2]; exact HS.out) k (by rw [hx2]; exact hk) (by rw [hx2]; exact HOk.out.full _ (rg_mem hk))
        rw [hx2, List.set_set] at hf
        refine hf.mono ?_
        rintro e w4 ⟨rfl, l4, f4⟩
        have hi4 : i < (xs.set i ⟨x.held, x.owner, x.socket, x.passes + 1, firstR x.round k⟩).length := by rw [List.length_set]; exact hi
        obtain ⟨oki4, cur4, v4, K4, _, hd4⟩ := l4.lk i hi4
        rw [getD_set hi] at K4
        obtain ⟨l5, f5⟩ := hd4 _ _ _ (K4.set (x' := stayP x k) 1 (by omega) (.int .i64 (firstT x.round k)) rfl rfl)
        rw [List.set_set] at l5
        have n1 : w.heap.size ≤ w1.heap.size := hb1.size
        have n2 := Nat.le_trans n1 F2.size
        have n4 := Nat.le_trans n2 f4.size
        have G1 : Fr F w (w1.setCell ⟨lb, i * 5 + 3, none⟩ (.int .i64 (x.passes + 1))) := Fr_up (Fr.of_below F hb1) F2 (fun k q => .inl q)
        have G4 : Fr F w w4 := Fr_up G1 f4 (fun k q => q.elim .inl (fun q => .inr (Nat.le_trans n1 q)))
        have hq := K4.cc.c.2.1
        refine ⟨rfl, ?_, K4.cc.fz, ⟨l5.mono (fun k q => ?_), Fr_up G4 f5 (fun k q => ?_)⟩⟩
        · rw [hq, HO.out]
        · rcases q with (( q | q) | q) | q
          · exact .inl q
          · exact .inr (Nat.le_trans n1 q)
          · exact .inr (Nat.le_trans n2 q)
          · exact .inr (Nat.le_trans n4 q)
        · rcases q with ( q | q) | q
          · exact .inl q
          · exact .inr (Nat.le_trans n1 q)
          · exact .inr (Nat.le_trans n2 q)
      have HAway : ∀ j : Nat, offI x.round x.socket = some j → ∀ w1, Below w.heap.size w w1 → Calls Try.prog 102 #[.pointer (some ⟨lb, i * 5, none⟩)] w1 fun e w' => e = .returned (.int .i64 (firstT x.round j)) ∧
          (w'.cell? ⟨lb, i * 5 + 1, none⟩ = some (.int .i64 t)) ∧ (∀ j, w'.frozen? ⟨lb, j, none⟩ = false) ∧ Aside0 (LocksAt (w'.setCell ⟨lb, i * 5 + 1, none⟩ (.int .i64 (firstT x.round j))) (fun k => F k ∨ w.heap.size ≤ k) h lb (xs.set i (awayP x)) ∧ Fr F w (w'.setCell ⟨lb, i * 5 + 1, none⟩ (.int .i64 (firstT x.round j)))) := by
        intro j hj w1 hb1
        have ha := away_any (HL.out.behind hb1) hi (by rw [HX.out]; exact HS.out) (by rw [HX.out]; exact HOk.out.full) j (by rw [HX.out]; exact hj)
        rw [HX.out] at ha
        refine ha.mono ?_
        rintro e w4 ⟨rfl, l4, f4⟩
        have hi4 : i < (xs.set i ⟨x.held, x.owner, (rg x.round j).1, 0, moveR (firstR x.round j) x.socket⟩).length := by rw [List.length_set]; exact hi
        obtain ⟨oki4, cur4, v4, K4, _, hd4⟩ := l4.lk i hi4
        rw [getD_set hi] at K4
        have haw : awayP x = ⟨x.held, firstT x.round j, (rg x.round j).1, 0, moveR (firstR x.round j) x.socket⟩ := by unfold awayP; rw [hj]; rfl
        obtain ⟨l5, f5⟩ := hd4 _ _ _ (K4.set (x' := awayP x) 1 (by omega) (.int .i64 (firstT x.round j)) (by rw [haw]; rfl) (by rw [haw]))
        rw [List.set_set] at l5
        have n1 : w.heap.size ≤ w1.heap.size := hb1.size
        have n4 := Nat.le_trans n1 f4.size
        have G4 : Fr F w w4 := Fr_up (Fr.of_below F hb1) f4 (fun k q => .inl q)
        have hq := K4.cc.c.2.1
        refine ⟨rfl, ?_, K4.cc.fz, ⟨l5.mono (fun k q => ?_), Fr_up G4 f5 (fun k q => ?_)⟩⟩
        · rw [hq, HO.out]
        · rcases q with ( q | q) | q
          · exact .inl q
          · exact .inr (Nat.le_trans n1 q)
          · exact .inr (Nat.le_trans n4 q)
        · rcases q with q | q
          · exact .inl q
          · exact .inr (Nat.le_trans n1 q)
      have HSt := Lib.hid HStay
      have HAw := Lib.hid HAway
      clear HStay HAway
      cases hrw : rowI x.round x.socket with
      | none =>
        obtain ⟨j, hj⟩ := off_exists (s := x.socket) HOk.out.nodup HNE.out (.inl hrw)
        have hzn : z = -1 := by rw [← HZ.out, hrw]; rfl
        have hnx : nextP x = awayP x := by unfold nextP; rw [hrw]
        have how : (awayP x).owner = firstT x.round j := by unfold awayP; rw [hj]; rfl
        rw [hnx, how]
        have HA := Lib.hid (HAw.out j hj)
        subst hzn
        clear hrw hj hnx how HSt HAw
        go_enter Try.func50, Try.ntmps50
        go_wp2_with (first | (go_at_call 98; refine (HAt.out).mono ?_; rintro e w1 ⟨rfl, hw9⟩; rw [hw9]; clear hw9) | (go_at_call 100; refine (HRow.out).mono ?_; rintro e w1 ⟨rfl, hb1⟩) | (go_at_call 102; refine (HA.out w1 hb1).mono ?_; rintro e w4 ⟨rfl, q1, q2, q3⟩; have HQ3 := q3; clear q3) | fail)
        go_ret3
        exact ⟨rfl, HQ3.out⟩
      | some k =>
        obtain ⟨hkl, _⟩ := rowI_some hrw
        have hzk : z = (k : Int) := by rw [← HZ.out, hrw]; rfl
        have HK1 : Hid (∀ w1, Below w.heap.size w w1 → w1.cell? ⟨lb, i * 5 + 3, none⟩ = some (.int .i64 x.passes) ∧ w1.cell? ⟨lb, i * 5 + 4, none⟩ = some (.slice A m c) ∧ ∀ j, w1.frozen? ⟨lb, j, none⟩ = false) := Lib.hid (fun w1 hb1 => by
          have d4 := bel_cell hb1 c4
          have K1 := HK.out.behind hb1
          exact ⟨K1.cc.c.2.2.2.1, d4, K1.cc.fz⟩)
        have HNO := Lib.hid HOk.out.nodup
        have b5 : decide ((0 : Int) ≤ (k : Int)) = true := by simp
        subst hzk
        by_cases hc : x.passes < 3 ∨ x.round.length = 1
        · have hnx : nextP x = stayP x k := by unfold nextP; rw [hrw]; exact if_pos hc
          rw [hnx, show (stayP x k).owner = firstT x.round k from rfl]
          have HF := Lib.hid (HSt.out k hkl)
          rw [HM.out] at hc
          clear hnx hrw hkl HSt HAw HNO
          by_cases hp3 : x.passes < 3
          · have b6 : decide (x.passes < 3) = true := decide_eq_true hp3
            clear hc hp3
            go_enter Try.func50, Try.ntmps50
            go_wp2_with (first | (go_at_call 98; refine (HAt.out).mono ?_; rintro e w1 ⟨rfl, hw9⟩; rw [hw9]; clear hw9) | (go_at_call 100; refine (HRow.out).mono ?_; rintro e w1 ⟨rfl, hb1⟩; have K1 := HK1.out w1 hb1; have d3 := K1.1; have d4 := K1.2.1; have zl1 := K1.2.2; have HB1 := Lib.hid hb1; clear K1 c0 c1 c2 c3 c4 z0 hb1) | (go_at_call 101; refine (HF.out w1 HB1.out).mono ?_; rintro e w4 ⟨rfl, q1, q2, q3⟩; have HQ3 := q3; clear q3) | fail)
            go_ret3
            exact ⟨rfl, HQ3.out⟩
          · have b6 : decide (x.passes < 3) = false := decide_eq_false hp3
            obtain rfl : m = 1 := hc.resolve_left hp3
            clear hc hp3
            go_enter Try.func50, Try.ntmps50
            go_wp2_with (first | (go_at_call 98; refine (HAt.out).mono ?_; rintro e w1 ⟨rfl, hw9⟩; rw [hw9]; clear hw9) | (go_at_call 100; refine (HRow.out).mono ?_; rintro e w1 ⟨rfl, hb1⟩; have K1 := HK1.out w1 hb1; have d3 := K1.1; have d4 := K1.2.1; have zl1 := K1.2.2; have HB1 := Lib.hid hb1; clear K1 c0 c1 c2 c3 c4 z0 hb1) | (go_at_call 101; refine (HF.out w1 HB1.out).mono ?_; rintro e w4 ⟨rfl, q1, q2, q3⟩; have HQ3 := q3; clear q3) | fail)
            go_ret3
            exact ⟨rfl, HQ3.out⟩
        · have hnx : nextP x = awayP x := by unfold nextP; rw [hrw]; exact if_neg hc
          have h2 : 2 ≤ x.round.length := by
            have : x.round.length ≠ 1 := fun e => hc (.inr e)
            omega
          obtain ⟨j, hj⟩ := off_exists (s := x.socket) HOk.out.nodup HNE.out (.inr h2)
          have how : (awayP x).owner = firstT x.round j := by unfold awayP; rw [hj]; rfl
          rw [hnx, how]
          have HA := Lib.hid (HAw.out j hj)
          have b6 : decide (x.passes < 3) = false := decide_eq_false (fun q => hc (.inl q))
          have b7 : ((m : Int) == 1) = false := by
            exact ne_one (fun e => hc (.inr (HM.out.trans e)))
          clear hnx hrw hkl HSt HAw HNO hc h2 hj how
          go_enter Try.func50, Try.ntmps50
          go_wp2_with (first | (go_at_call 98; refine (HAt.out).mono ?_; rintro e w1 ⟨rfl, hw9⟩; rw [hw9]; clear hw9) | (go_at_call 100; refine (HRow.out).mono ?_; rintro e w1 ⟨rfl, hb1⟩; have K1 := HK1.out w1 hb1; have d3 := K1.1; have d4 := K1.2.1; have zl1 := K1.2.2; have HB1 := Lib.hid hb1; clear K1 c0 c1 c2 c3 c4 z0 hb1) | (go_at_call 102; refine (HA.out w1 HB1.out).mono ?_; rintro e w4 ⟨rfl, q1, q2, q3⟩; have HQ3 := q3; clear q3) | fail)
          go_ret3
          exact ⟨rfl, HQ3.out⟩
end
end Go.Proofs.Ytgiimdoabkcoaaa.Co
