/-
A lock goes to another socket: away, walked.
-/
import Derived.Test.YtgiimdoabkcoaaaCoPut
namespace Go.Proofs.Ytgiimdoabkcoaaa.Co
set_option linter.unusedVariables false
set_option linter.unusedSimpArgs false
open Go.RowKit Go.Proofs.YtgiimdoabkcoaaaW.PrintWords Go.Proofs.YtgiimdoabkcoaaaW.PrintLast Go.Proofs.YtgiimdoabkcoaaaW.PrintMore
theorem LocksAt.bound {w : World} {F : Nat → Prop} {h lb : Nat} {xs : List LS} (L : LocksAt w F h lb xs) : LocksAt w (fun k => F k ∧ k < w.heap.size) h lb xs :=
  have ⟨cap, hd, row⟩ := L.ex
  ⟨⟨L.fh, L.fhl⟩, cap, hd, Kd.S_mono (Kd.S_bound row) (fun k hk => ⟨hk.1, hk.2.2.1⟩)⟩
theorem mem_firstR {r : List Rw} {k : Nat} (hk : k < r.length) {p : Rw} (hp : p ∈ firstR r k) : p ∈ r ∨ (p = ((rg r k).1, (rg r k).2.tail) ∧ (rg r k).2.tail ≠ []) := by
  unfold firstR at hp
  split at hp
  · exact .inl (List.mem_of_mem_eraseIdx hp)
  · rename_i hne
    rcases List.mem_or_eq_of_mem_set hp with h | h
    · exact .inl h
    · exact .inr ⟨h, hne⟩
theorem firstR_len {r : List Rw} {k : Nat} : (firstR r k).length ≤ r.length := by
  unfold firstR
  split
  · rw [List.length_eraseIdx]; split <;> omega
  · rw [List.length_set]; exact Nat.le_refl _
theorem rg_mem {r : List Rw} {k : Nat} (hk : k < r.length) : rg r k ∈ r := by rw [rg_at hk]; exact List.getElem_mem _
theorem Sm_first {M : Nat} {x : LS} (h : Sm M x) {k : Nat} (hk : k < x.round.length) {x' : LS} (hx : x'.round = firstR x.round k) : Sm M x' := by
  refine ⟨by rw [hx]; exact Nat.le_trans firstR_len h.1, fun p hp => ?_⟩
  rw [hx] at hp
  rcases mem_firstR hk hp with q | ⟨rfl, _⟩
  · exact h.2 p q
  · have := h.2 _ (rg_mem hk)
    simp only [List.length_tail]
    omega
theorem getD_set {xs : List LS} {i : Nat} (hi : i < xs.length) (x : LS) : (xs.set i x).getD i ls0 = x := by
  rw [List.getD_eq_getElem?_getD, List.getElem?_set_self hi]; rfl
theorem away_num {k n1 cap : Nat} (hk : k < n1) (hn : n1 ≤ 1000000) (hc : n1 ≤ cap) : ((0 : Int) ≤ (k : Int) ∧ (k : Int) < (n1 : Int)) = True ∧ wrap64 ((k : Int) + 1) = (k : Int) + 1 ∧ IntKind.i64.wrap ((k : Int) + 1) = (k : Int) + 1 ∧ n1 - 1 + 1 = n1 ∧ n1 - 1 < cap := by
  have h1 : wrap64 ((k : Int) + 1) = (k : Int) + 1 := by rw [wrap_nat (by omega) (by omega)]
  exact ⟨eq_true (by omega), h1, (i64_w _).trans h1, by omega, by omega⟩
section
variable {w : World} {F : Nat → Prop} {h lb : Nat} {xs : List LS}
/-- a lock's row goes to the end. -/
def AwayPost (w : World) (F : Nat → Prop) (h lb : Nat) (xs : List LS) (i : Nat) (x : LS) (j : Nat) (e : Ending) (w' : World) : Prop :=
  e = .returned (.int .i64 (firstT x.round j)) ∧ LocksAt w' (fun k => F k ∨ w.heap.size ≤ k) h lb (xs.set i ⟨x.held, x.owner, (rg x.round j).1, 0, moveR (firstR x.round j) x.socket⟩) ∧ Fr F w w'
set_option maxRecDepth 100000 in
set_option maxHeartbeats 8000000 in
theorem away_any (L : LocksAt w F h lb xs) {i : Nat} (hi : i < xs.length) (hs : Sm 1000000 (xs.getD i ls0)) (hf : ∀ p ∈ (xs.getD i ls0).round, p.2 ≠ []) (j : Nat) (hj : offI (xs.getD i ls0).round (xs.getD i ls0).socket = some j) :
    Calls Try.prog 102 #[lkp lb i] w (AwayPost w F h lb xs i (xs.getD i ls0) j) := by
  obtain ⟨oki0, v0, _, _, c2, _, c4, hv0, _, z0⟩ := L.c i hi
  have hlt := L.lt
  obtain ⟨B, hB⟩ : ∃ B, w.heap.size = B := ⟨_, rfl⟩
  have hne : lb ≠ B := by omega
  have hltB : lb < B := by omega
  obtain ⟨x, hx⟩ : ∃ x, xs.getD i ls0 = x := ⟨_, rfl⟩
  rw [hx] at hs hf hj c2 hv0 ⊢
  obtain ⟨hjl, hjs⟩ := offI_some hj
  have hbox : (w.alloc (.cells #[.int .i64 x.socket] 3)).heap[B]? = some (.cells #[.int .i64 x.socket] 3 (0, 0)) := by rw [← hB]; exact Array.getElem?_push_size
  have hcall := idx_any (Kd.R_below (Kd.S_R hv0) ((Below.refl w.heap.size w).alloc (Nat.le_refl _) (.cells #[.int .i64 x.socket] 3))) 134 #[.pointer (some ⟨B, 0, none⟩)] (fun p => decide (p.1 ≠ x.socket)) (enters_of Try.func134 (by kernel_rfl) rfl)
    (fun W hb y _ vv _ _ => away1_any x.socket B W (cell_of_heap (hb.block B (Array.getElem?_eq_some_iff.1 hbox).1 |>.trans hbox) rfl) y vv) hs.1
  rw [show oI (x.round.findIdx? (fun p => decide (p.1 ≠ x.socket))) = (j : Int) from by
    have : x.round.findIdx? (fun p => decide (p.1 ≠ x.socket)) = some j := hj
    rw [this]; rfl] at hcall
  have hb0 : Below w.heap.size w (w.alloc (.cells #[.int .i64 x.socket] 3)) := (Below.refl w.heap.size w).alloc (Nat.le_refl _) _
  have HCall := Lib.hid hcall
  have HBox := Lib.hid hbox
  have HB := Lib.hid hB
  have HB0 := Lib.hid hb0
  have HL := Lib.hid L.bound
  have HX := Lib.hid hx
  have HS := Lib.hid hs
  have HF := Lib.hid hf
  have HJ := Lib.hid hjl
  clear hcall hbox hb0 L hx hs hf hj hjs hv0 hjl
  unfold lkp
  go_enter Try.func102, Try.ntmps102
  go_upto_region 3 with (first | (go_at_call 130; refine (HCall.out).mono ?_; rintro e w2 ⟨rfl, hb2⟩) | fail)
  have hbox2 : w2.heap[B]? = some (.cells #[.int .i64 x.socket] 3 (0, 0)) := (hb2.block B (Array.getElem?_eq_some_iff.1 HBox.out).1).trans HBox.out
  have L2 := HL.out.behind (Below_trans HB0.out hb2)
  have hB2 : B < w2.heap.size := (Array.getElem?_eq_some_iff.1 hbox2).1
  obtain ⟨oki, cur0, v, K, hoki, hdone⟩ := L2.lk i hi
  rw [HX.out] at K
  obtain ⟨n2, hn2⟩ : ∃ n2, x.round.length = n2 := ⟨_, rfl⟩
  have hjn : j < n2 := hn2 ▸ HJ.out
  obtain ⟨rb, cap, hv, _, _, _⟩ := Kd.S_form K.rows (by rw [hn2]; omega)
  rw [hn2] at hv
  have hrows := K.rows
  have d2 := K.cc.c.2.2.1
  have d3 := K.cc.c.2.2.2.1
  have d4 := K.cc.c.2.2.2.2
  rw [hv] at d4 hrows
  have zl := K.cc.fz
  obtain ⟨hokrb, hrbl, ok2, tv, e0, _, ez, _, _, _⟩ := row_task hrows j hjn
  have hrl := K.cc.ne hokrb
  obtain ⟨s2, hs2⟩ : ∃ s2, (rg x.round j).1 = s2 := ⟨_, rfl⟩
  rw [hs2] at e0
  have K3 := (K.set (x' := ⟨x.held, x.owner, s2, x.passes, x.round⟩) 2 (by omega) (.int .i64 s2) rfl rfl).set (x' := ⟨x.held, x.owner, s2, 0, x.round⟩) 3 (by omega) (.int .i64 0) rfl rfl
  obtain ⟨W3, hW3⟩ : ∃ W3, (w2.setCell ⟨lb, i * 5 + 2, none⟩ (.int .i64 s2)).setCell ⟨lb, i * 5 + 3, none⟩ (.int .i64 0) = W3 := ⟨_, rfl⟩
  rw [hW3] at K3
  obtain ⟨L3, F3⟩ := hdone _ _ _ K3
  have hbox3 : W3.heap[B]? = some (.cells #[.int .i64 x.socket] 3 (0, 0)) := F3.heap hbox2 (fun q => by rw [HB.out] at q; exact Nat.lt_irrefl _ q.2)
  have hx3 := getD_set hi ⟨x.held, x.owner, s2, 0, x.round⟩
  have hi3 : i < (xs.set i ⟨x.held, x.owner, s2, 0, x.round⟩).length := by rw [List.length_set]; exact hi
  have hfirst := first_any L3 hi3 (by rw [hx3]; exact HS.out) j (by rw [hx3]; exact HJ.out) (by rw [hx3]; exact HF.out _ (rg_mem HJ.out))
  rw [hx3, List.set_set] at hfirst
  have HFirst := Lib.hid hfirst
  have HBox3 := Lib.hid hbox3
  have HN2 := Lib.hid hn2
  have HS2 := Lib.hid hs2
  have HF3 := Lib.hid F3
  have HB2 := Lib.hid hB2
  have HW2 : Hid (Below w.heap.size w w2) := Lib.hid (Below_trans HB0.out hb2)
  have hsz3 : w2.heap.size = W3.heap.size := by rw [← hW3]; simp [World.setCell]
  have HSz3 := Lib.hid hsz3
  clear hfirst hbox3 hn2 hs2 F3 hB2 hbox2 L2 L3 K K3 hoki hdone hrows hokrb hx3 hi3 hv hb2 HBox HCall HL hsz3
  go_upto_region 4 with (fail)
  clear hW3 d2 d3 d4 zl e0 ez c2 c4 z0
  obtain ⟨z, hz⟩ : ∃ z, oI (rowI (firstR x.round j) x.socket) = z := ⟨_, rfl⟩
  have HRow : Hid (∀ w4 F4, LocksAt w4 F4 h lb (xs.set i ⟨x.held, x.owner, s2, 0, firstR x.round j⟩) → Calls Try.prog 100 #[.pointer (some ⟨lb, i * 5, none⟩), .int .i64 x.socket] w4 fun e w' => e = .returned (.int .i64 z) ∧ Below w4.heap.size w4 w') := Lib.hid (by
    intro w4 F4 L4
    have hx4 := getD_set hi ⟨x.held, x.owner, s2, 0, firstR x.round j⟩
    have := row_any L4 i (by rw [List.length_set]; exact hi) (by rw [hx4]; exact Sm_first HS.out HJ.out rfl) x.socket
    rw [hx4, hz] at this
    exact this)
  have HZ := Lib.hid hz
  clear hz
  unfold lkp at HFirst
  go_upto_if 39 with (first | (go_at_call 101; refine (HFirst.out).mono ?_; rintro e w4 ⟨rfl, l4, f4⟩; have bx4 : w4.cell? ⟨B, 0, none⟩ = some (.int .i64 x.socket) := cell_of_heap (f4.heap HBox3.out (fun q => q.elim (fun q => by rw [HB.out] at q; exact Nat.lt_irrefl _ q.2) (fun q => absurd HB2.out (Nat.not_lt.2 q)))) rfl; have LL4 := Lib.hid l4; have FF4 := Lib.hid f4; clear l4 f4) | (go_at_call 100; refine ((HRow.out _ _ LL4.out)).mono ?_; rintro e w5 ⟨rfl, hb5⟩) | fail)
  have L5 := LL4.out.behind hb5
  have FR5 : Fr F w w5 := by
    have a1 : Fr F w w2 := Fr.of_below F HW2.out
    have a2 : Fr F w W3 := a1.trans HF3.out (fun k _ q => q.1)
    have a3 : Fr F w w4 := a2.trans FF4.out (fun k hk q => q.elim (fun q => q.1) (fun q => absurd (Nat.lt_of_lt_of_le hk HW2.out.size) (Nat.not_lt.2 q)))
    exact a3.trans (Fr.of_below (fun _ => False) hb5) (fun _ _ q => q.elim)
  have hsz35 : w.heap.size ≤ W3.heap.size := by rw [← HSz3.out]; exact HW2.out.size
  have L5' : LocksAt w5 (fun k => F k ∨ w.heap.size ≤ k) h lb (xs.set i ⟨x.held, x.owner, s2, 0, firstR x.round j⟩) := L5.mono (fun k q => q.elim (fun q => q.elim (fun q => .inl q.1) (fun q => .inr (Nat.le_trans HW2.out.size q))) (fun q => .inr (Nat.le_trans hsz35 q)))
  have HL5 := Lib.hid L5'
  have HFR5 := Lib.hid FR5
  have hsz5 := FR5.size
  have HSz5 := Lib.hid hsz5
  clear L5 L5' FR5 hsz35 hb5 bx4 LL4 FF4 HRow HFirst hsz5
  go_cut [] (fun wc => Aside0 (LocksAt wc (fun k => F k ∨ w.heap.size ≤ k) h lb (xs.set i ⟨x.held, x.owner, s2, 0, moveR (firstR x.round j) x.socket⟩) ∧ Fr F w wc))
  case first =>
    obtain ⟨r1, hr1⟩ : ∃ r1, firstR x.round j = r1 := ⟨_, rfl⟩
    have hl1 : r1.length ≤ 1000000 := by rw [← hr1]; exact Nat.le_trans firstR_len HS.out.1
    rw [hr1] at HZ HL5
    have HR1 := Lib.hid hr1
    clear hr1
    cases hrw : rowI r1 x.socket with
    | none =>
      have hzn : z = -1 := by rw [← HZ.out, hrw]; rfl
      have hmv : moveR r1 x.socket = r1 := by unfold moveR; rw [hrw]
      have HMv := Lib.hid hmv
      clear hrw hmv
      subst hzn
      go_wp2
      go_meet
      case rel => rw [HR1.out, HMv.out]; exact ⟨HL5.out, HFR5.out⟩
    | some k =>
      have hzk : z = (k : Int) := by rw [← HZ.out, hrw]; rfl
      obtain ⟨hkl, _⟩ := rowI_some hrw
      have hmv : moveR r1 x.socket = r1.eraseIdx k ++ [rg r1 k] := by unfold moveR; rw [hrw]
      have HMv := Lib.hid hmv
      subst hzk
      clear hrw hmv
      have hi5 : i < (xs.set i ⟨x.held, x.owner, s2, 0, r1⟩).length := by rw [List.length_set]; exact hi
      obtain ⟨oki5, cur5, v5, K, hoki5, hdone5⟩ := HL5.out.lk i hi5
      rw [getD_set hi] at K
      obtain ⟨n1, hn1⟩ : ∃ n1, r1.length = n1 := ⟨_, rfl⟩
      have hrows : SRow w5 (fun k => oki5 k ∨ w5.heap.size ≤ k) v5 r1 := K.rows
      have hkn : k < n1 := hn1 ▸ hkl
      obtain ⟨rb1, cap1, rfl, _, hrb5, _⟩ := Kd.S_form hrows (by omega)
      rw [hn1] at hrows K
      have hcap := cap_le (Kd.S_R hrows)
      have hncap : n1 ≤ cap1 := (Kd.S_reads' hrows).2.1
      have hok1 : oki5 rb1 ∨ w5.heap.size ≤ rb1 := (Kd.S_R hrows).1 rb1 rfl
      obtain ⟨f, rows, hrl1, hraw, _, hM⟩ := unpack hrows
      obtain ⟨c, hcl, hcM, hcc, _⟩ := Kd.R_elem hraw [] (k : Int) (by omega) (by omega)
      have hc0 : c = rows.getD k [] := hcM.1
      have hk' : k < rows.length := by rw [hrl1, hn1]; exact hkn
      have hMk := hM k (rg r1 k) c (by rw [rg_at hkl]; exact List.getElem?_eq_getElem hkl) (by rw [hc0, List.getD_eq_getElem?_getD, List.getElem?_eq_getElem hk']; rfl)
      obtain ⟨tv1, rfl, hRt⟩ := kRow_open hMk
      obtain ⟨TA, tc, rfl⟩ := Kd.R_slice hRt
      obtain ⟨s1, hs1⟩ : ∃ s1, (rg r1 k).1 = s1 := ⟨_, rfl⟩
      obtain ⟨tl, htl⟩ : ∃ tl, (rg r1 k).2.length = tl := ⟨_, rfl⟩
      rw [hs1, htl] at hcc hc0
      have g0 : w5.cell? ⟨rb1, k * 2, none⟩ = some (.int .i64 s1) := hcc 0 _ rfl
      have g1 : w5.cell? ⟨rb1, k * 2 + 1, none⟩ = some (.slice TA tl tc) := hcc 1 _ rfl
      have d4 := K.cc.c.2.2.2.2
      have zl := K.cc.fz
      have hrl := K.cc.ne hok1
      have hlb5 : lb < w5.heap.size := Nat.lt_of_lt_of_le K.cc.lbl K.cc.fr.size
      have hne5 : rb1 ≠ w5.heap.size := Nat.ne_of_lt hrb5
      have hne6 : lb ≠ w5.heap.size := Nat.ne_of_lt hlb5
      have hne7 : w5.heap.size ≠ rb1 := fun e => hne5 e.symm
      obtain ⟨hk1, hw1, hw2, hn11, HR9⟩ := away_num hkn (hn1 ▸ hl1) hncap
      have hDel : ∀ W, Below w5.heap.size w5 W → Calls Try.prog 133 #[.slice (some ⟨rb1, 0, none⟩) n1 cap1, .int .i64 (k : Int), .int .i64 ((k : Int) + 1)] W fun e w' => e = .returned (.slice (some ⟨rb1, 0, none⟩) (n1 - 1) cap1) ∧ Aside0 (Kd.R (Kd.raw 2) 154 w' 0 (fun b => (Value.slice (some ⟨rb1, 0, none⟩) n1 cap1).ownBlock = some b) (.slice (some ⟨rb1, 0, none⟩) (n1 - 1) cap1) (rows.eraseIdx k)) ∧ Aside0 (Fr (fun b => b = rb1) w5 w') ∧ Aside0 (W.heap.size ≤ w'.heap.size) ∧ (∀ b o, b < W.heap.size → b ≠ rb1 → w'.cell? ⟨b, o, none⟩ = W.cell? ⟨b, o, none⟩) := by
        intro W hW
        refine (del_raw1 (Kd.R_below hraw hW) k hkn hcap).mono ?_
        rintro e w' ⟨rfl, q1, q2⟩
        refine ⟨rfl, ⟨q1⟩, ⟨(Fr.of_below _ hW).trans (Fr.of_grown (F := fun b => b = rb1) q2 (fun b hb => by injection hb with hb; exact hb.symm)) (fun _ _ q => q)⟩, ⟨q2.size⟩, fun b o hb hn => World.cell?_of_block (q2.block b hb (fun e => by injection e with e; exact hn e))⟩
      have hFin : ∀ w7, Fr (fun b => b = rb1) w5 w7 → Kd.R (Kd.raw 2) 154 w7 0 (fun b => (Value.slice (some ⟨rb1, 0, none⟩) n1 cap1).ownBlock = some b) (.slice (some ⟨rb1, 0, none⟩) n1 cap1) (rows.eraseIdx k ++ [[.int .i64 s1, .slice TA tl tc]]) → LocksAt (w7.setCell ⟨lb, i * 5 + 4, none⟩ (.slice (some ⟨rb1, 0, none⟩) n1 cap1)) (fun k => F k ∨ w.heap.size ≤ k) h lb (xs.set i ⟨x.held, x.owner, s2, 0, r1.eraseIdx k ++ [rg r1 k]⟩) ∧ Fr F w (w7.setCell ⟨lb, i * 5 + 4, none⟩ (.slice (some ⟨rb1, 0, none⟩) n1 cap1)) := by
        intro w7 hF7 hR7
        have hS7 : SRow w7 (fun k => oki5 k ∨ w5.heap.size ≤ k) (.slice (some ⟨rb1, 0, none⟩) n1 cap1) (r1.eraseIdx k ++ [rg r1 k]) := by
          refine move_last (w := w5) (f := f) hkl hrl1 hM (fun b hb hn => hF7.block b hb (fun e => hn (by rw [e]; rfl))) (.inl rfl) (fun b hb => by injection hb with hb; rw [← hb]; exact hok1) (ok0 := _) (by rw [← hc0]; exact hR7)
        have K7 : Lk w5 lb i cur5 oki5 (w7.setCell ⟨lb, i * 5 + 4, none⟩ (.slice (some ⟨rb1, 0, none⟩) n1 cap1)) ⟨x.held, x.owner, s2, 0, r1.eraseIdx k ++ [rg r1 k]⟩ (.slice (some ⟨rb1, 0, none⟩) n1 cap1) := (K.cc.mid (hF7.mono (fun b _ e => e ▸ hok1))).setR hS7
        obtain ⟨q1, q2⟩ := hdone5 _ _ _ K7
        rw [List.set_set] at q1
        refine ⟨q1.mono (fun k q => q.elim id (fun q => .inr (Nat.le_trans HSz5.out q))), HFR5.out.trans q2 (fun k hk q => q.elim id (fun q => absurd hk (Nat.not_lt.2 q)))⟩
      have HDel := Lib.hid hDel
      have HFin := Lib.hid hFin
      have HK := Lib.hid K.cc
      have HOk1 := Lib.hid hok1
      have hlb6 : lb < w5.heap.size + 1 := Nat.lt_succ_of_lt hlb5
      have hlb7 : lb < w5.heap.size + 1 + 1 := Nat.lt_succ_of_lt hlb6
      have hne8 : w5.heap.size + 1 ≠ rb1 := fun e => absurd hrb5 (by rw [← e]; exact Nat.not_lt.2 (Nat.le_succ _))
      have HRK := Lib.hid hraw
      have HOne : (Value.slice TA tl tc).oneCell' = true := rfl
      have hinf : (Try.prog.info? 154).map (·.size) = some 2 := by kernel_rfl
      obtain ⟨inf, hinf1, hinf2⟩ := Option.map_eq_some_iff.1 hinf
      have HI1 := Lib.hid hinf1
      have HI2 := Lib.hid hinf2
      have HRoom := Lib.hid HR9
      clear hDel hFin hraw hM hMk hRt hrows hcc hcl hcM hc0 K hdone5 hoki5 hok1 hcap hncap hk' hn1 hs1 htl hinf hinf1 hinf2 HR9 hrl1 hkl
      go_wp2
      go_region_law (first
        | (refine step_put1 rfl (.tmp 55) (.tmp 57) 150 rfl 154 inf Try.underlying150 HI1.out HI2.out rb1 (n1 - 1) cap1 (by simp [Act.eval, Act.put]) _ 1 (by simp [Act.eval, Act.put]; rfl) (.int .i64 s1) (.slice TA tl tc) (by simp [hc6, hne7, hne8, go_sem]) (by simp [hc6, hne7, hne8, go_sem]) rfl rfl (by first | exact HR6.out | exact Kd.R_below HR6.out ((Below.refl _ _).alloc (Nat.le_refl _) _)) HRoom.out ?_; intro w7 hR7 hg7; rw [hn11] at hR7 ⊢; have fr7 : Fr (fun b => b = rb1) w5 w7 := (by first | exact HF6.out.trans (Fr.of_grown (F := fun b => b = rb1) hg7 (fun b hb => by injection hb with hb; exact hb.symm)) (fun _ _ q => q) | exact (HF6.out.alloc _).trans (Fr.of_grown (F := fun b => b = rb1) hg7 (fun b hb => by injection hb with hb; exact hb.symm)) (fun _ _ q => q)); have K7 := HK.out.mid (fr7.mono (fun b _ e => e ▸ HOk1.out)); have d7 := K7.c.2.2.2.2; have zl7 := K7.fz; have HFin7 := Lib.hid (HFin.out w7 fr7 hR7); clear K7 fr7 hR7 hg7 hc6)
        | (rw [if_pos (by simp [Region.wanted])]; go_simp; (go_at_call 133); refine (HDel.out _ ?_).mono ?_; (repeat (first | exact bel_refl _ | with_reducible apply bel_alloc | with_reducible apply bel_drew)); rintro e w6 ⟨rfl, hR6, hF6, hs6, hc6⟩; have HR6 := hR6; have HF6 := hF6; clear hR6 hF6; dsimp only))
      all_goals go_wp2
      all_goals go_meet
      all_goals (try (case rel => rw [HR1.out, HMv.out]; exact ⟨HFin7.out⟩))
  case rest =>
    have hc := hcut.out
    have HC := Lib.hid hc
    clear hcut hc
    go_wp2
    go_ret
    exact ⟨rfl, by rw [HS2.out]; exact HC.out⟩
end
end Go.Proofs.Ytgiimdoabkcoaaa.Co
