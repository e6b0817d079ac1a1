import Derived.Test.YtgiimdoabkcoaaaCoPlP
import Derived.Deep.RegionHeld3
import Derived.Test.YtgiimdoabkcoaaaCoDo
/-
Are they the same locks? The statement's own function, walked.
-/
namespace Go.Proofs.Ytgiimdoabkcoaaa.Co
set_option linter.unusedVariables false
set_option linter.unusedSimpArgs false
open Go.RowKit Go.Proofs.YtgiimdoabkcoaaaW.PrintWords Go.Proofs.YtgiimdoabkcoaaaW.PrintLast Go.Proofs.YtgiimdoabkcoaaaW.PrintMore
section
variable {w0 w O : World} {h lb xb m cx n : Nat} {xs : List LS} {ys : List DL}
theorem so_ask (c : PS w0 O h lb xb m cx xs ys) {i : Nat} (hi : i < xs.length) : ∀ W, Below O.heap.size O W → Calls Try.prog 52 #[.pointer (some ⟨h, 0, none⟩), .int .i64 (i : Int)] W fun e w' => e = .returned (.int .i64 (xs.getD i ls0).socket) ∧ w' = W := by
  intro W hb
  obtain ⟨F, L⟩ := (c.behind hb).locks
  exact socket_any L hi
theorem wt_ask (c : PS w0 O h lb xb m cx xs ys) {i : Nat} (hi : i < xs.length) {M : Nat} (hs : Sm M (xs.getD i ls0)) (hM : M ≤ 1000) : ∀ W, Below O.heap.size O W → Calls Try.prog 53 #[.pointer (some ⟨h, 0, none⟩), .int .i64 (i : Int)] W fun e w' => ∃ v, e = .returned v ∧ Kd.R (Kd.int .i64) 3 w' W.heap.size (fun _ => True) v (waitingP (xs.getD i ls0)) ∧ Below W.heap.size W w' := by
  intro W hb
  obtain ⟨F, L⟩ := (c.behind hb).locks
  exact waiting_any L hi (Nat.le_trans hs.1 (by omega)) (waiting_len hs hM)
theorem rw_ask {y : DL} {A4 A5 : Option Addr} {n4 n5 c4 c5 base : Nat} {ok : Nat → Prop} (h4 : kW.R 95 O base ok (.slice A4 n4 c4) y.waits) (h5 : (Kd.int .i64).R 3 O base ok (.slice A5 n5 c5) y.round) (hl4 : y.waits.length ≤ 1000) (hl5 : y.round.length ≤ 1000) :
    ∀ W, Below O.heap.size O W → Calls Try.prog 103 #[.agg #[.bool y.held, .int .i64 y.owner, .int .i64 y.socket, .int .i64 y.passes, .slice A4 n4 c4, .slice A5 n5 c5]] W fun e w' => ∃ v, e = .returned v ∧ Kd.R (Kd.int .i64) 3 w' W.heap.size (fun _ => True) v (rWaiting y) ∧ Below W.heap.size W w' := by
  intro W hb
  obtain ⟨e4, g4, r4⟩ := Kd.R_reads' (R_ofW.2 (Kd.R_below h4 hb))
  obtain ⟨e5, g5, r5⟩ := Kd.R_reads' (Kd.R_below h5 hb)
  obtain ⟨k, hk⟩ := (PCoa.waiting_f y hl4 hl5).rounds
  subst e5
  subst e4
  exact PCoa.pinfoldref14_Waiting.calls k _ _ _ _ A4 c4 _ A5 c5 _ _ W r4 g4 r5 g5 hk
theorem same_ask (l : List Int) (hl : l.length ≤ 1000000) : ∀ (W : World) (v1 v2 : Value) (b1 b2 : Nat) (ok1 ok2 : Nat → Prop), Kd.R (Kd.int .i64) 3 W b1 ok1 v1 l → Kd.R (Kd.int .i64) 3 W b2 ok2 v2 l → Calls Try.prog 20 #[v1, v2] W fun e w' => e = .returned (.bool true) ∧ Below W.heap.size W w' := by
  intro W v1 v2 b1 b2 ok1 ok2 h1 h2
  obtain ⟨A1, c1, rfl⟩ := Kd.R_slice h1
  obtain ⟨A2, c2, rfl⟩ := Kd.R_slice h2
  obtain ⟨_, g1, r1⟩ := Kd.R_reads' h1
  obtain ⟨_, g2, r2⟩ := Kd.R_reads' h2
  obtain ⟨k, hk⟩ := (PCoa.same_f l hl).rounds
  refine (PCoa.pinfoldref04_Same.calls k A1 c1 l A2 c2 l true W r1 g1 r2 g2 hk).mono ?_
  rintro e w' ⟨rfl, hd⟩
  exact ⟨rfl, hd.below⟩
theorem cells6 {W : World} {b T : Nat} {u0 u1 u2 u3 u4 u5 : Value} (hb : Below O.heap.size O W) (h : O.heap[b]? = some (.cells #[u0, u1, u2, u3, u4, u5] T (0, 0))) :
    Below O.heap.size O W ∧ W.cell? ⟨b, 0, none⟩ = some u0 ∧ W.cell? ⟨b, 1, none⟩ = some u1 ∧ W.cell? ⟨b, 2, none⟩ = some u2 ∧ W.cell? ⟨b, 3, none⟩ = some u3 ∧ W.cell? ⟨b, 4, none⟩ = some u4 ∧ W.cell? ⟨b, 5, none⟩ = some u5 :=
  have hh := (hb.block b (Array.getElem?_eq_some_iff.1 h).1).trans h
  ⟨hb, cell_of_heap hh rfl, cell_of_heap hh rfl, cell_of_heap hh rfl, cell_of_heap hh rfl, cell_of_heap hh rfl, cell_of_heap hh rfl⟩
set_option maxRecDepth 100000 in
set_option maxHeartbeats 4000000 in
theorem alike_any (c : PS w0 w h lb xb m cx xs ys) (hI : PIs n m xs ys) (hn : n ≤ 200) (hm : m ≤ 16) (t : Int) :
    Calls Try.prog 54 #[.pointer (some ⟨h, 0, none⟩), .slice (some ⟨xb, 0, none⟩) m cx, .int .i64 t] w fun e w' => e = .returned (.bool true) ∧ Below w.heap.size w w' := by
  have HC := Lib.hid c
  have HI := Lib.hid hI
  clear c hI
  go_enter Try.func54, Try.ntmps54
  go_wp2
  go_loopg [7, 8, 9, 10, 11, 18] m (fun gg v7 _ _ _ _ v18 wr => ∃ (j : Nat) (A7 : Option Addr) (m7 c7 : Nat), j ≤ m ∧ m - j ≤ gg ∧ v18 = .int .i64 j ∧ v7 = .slice A7 m7 c7 ∧ Aside0 (Below w.heap.size w wr) ∧ Aside0 (Kd.R (Kd.int .i64) 3 wr w.heap.size (fun _ => True) (.slice A7 m7 c7) (ownedP xs t j)))
  case atStart => exact ⟨0, none, 0, 0, Nat.zero_le _, by omega, rfl, rfl, ⟨Below.refl _ w⟩, ⟨by simpa [ownedP] using Kd.R_nil _ _ _ _ _⟩⟩
  case round =>
    obtain ⟨j, A7, m7, k7, hj, hg, rfl, rfl, HB, HR⟩ := hrel
    by_cases hlt : j < m
    · have hltz : (j : Int) < (m : Int) := by omega
      obtain ⟨oki, v4, v5, hcells, hfz, -, -, -, h4, h5, -⟩ := (HC.out.behind HB.out).at hlt
      have hpi := HI.out.2.2 j hlt
      have hsucc := ownedP_succ xs t j
      have hx0 := HI.out.1
      obtain ⟨A4, c4, rfl⟩ := Kd.R_slice h4
      obtain ⟨A5, c5, rfl⟩ := Kd.R_slice h5
      obtain ⟨y, hy⟩ : ∃ y, ys.getD j dl0 = y := ⟨_, rfl⟩
      obtain ⟨x, hx⟩ : ∃ x, xs.getD j ls0 = x := ⟨_, rfl⟩
      rw [hy] at hcells h4 h5 hpi
      have hjx : j < xs.length := by rw [hx0]; exact hlt
      have f0 : wr.cell? ⟨xb, j * 6, none⟩ = some (.bool x.held) := by rw [show x.held = y.held from hx ▸ hpi.tie.held]; exact hcells 0 (by omega)
      have f1 : wr.cell? ⟨xb, j * 6 + 1, none⟩ = some (.int .i64 x.owner) := by rw [show x.owner = y.owner from hx ▸ hpi.tie.owner]; exact hcells 1 (by omega)
      have f2 : wr.cell? ⟨xb, j * 6 + 2, none⟩ = some (.int .i64 x.socket) := by rw [show x.socket = y.socket from hx ▸ hpi.tie.socket]; exact hcells 2 (by omega)
      have f3 : wr.cell? ⟨xb, j * 6 + 3, none⟩ = some (.int .i64 x.passes) := by rw [show x.passes = y.passes from hx ▸ hpi.tie.passes]; exact hcells 3 (by omega)
      obtain ⟨n4, hn4⟩ : ∃ n4, y.waits.length = n4 := ⟨_, rfl⟩
      obtain ⟨n5, hn5⟩ : ∃ n5, y.round.length = n5 := ⟨_, rfl⟩
      rw [hn4] at hcells h4
      rw [hn5] at hcells h5
      have f4 : wr.cell? ⟨xb, j * 6 + 4, none⟩ = some (.slice A4 n4 c4) := hcells 4 (by omega)
      have f5 : wr.cell? ⟨xb, j * 6 + 5, none⟩ = some (.slice A5 n5 c5) := hcells 5 (by omega)
      obtain ⟨O, hO⟩ : ∃ O, wr.alloc (.cells #[.bool x.held, .int .i64 x.owner, .int .i64 x.socket, .int .i64 x.passes, .slice A4 n4 c4, .slice A5 n5 c5] 156) = O := ⟨_, rfl⟩
      have hbO : Below wr.heap.size wr O := hO ▸ (Below.refl wr.heap.size wr).alloc (Nat.le_refl _) _
      have hblk : O.heap[wr.heap.size]? = some (.cells #[.bool x.held, .int .i64 x.owner, .int .i64 x.socket, .int .i64 x.passes, .slice A4 n4 c4, .slice A5 n5 c5] 156 (0, 0)) := by rw [← hO]; exact (MapKept.heap_alloc wr _).1
      have cO := (HC.out.behind HB.out).behind hbO
      have HSo := Lib.hid (so_ask cO hjx)
      have HWt := Lib.hid (wt_ask cO hjx (M := n) (by rw [hx]; exact hx ▸ hpi.sm) (by omega))
      have hrw := rw_ask (Kd.R_below h4 hbO) (Kd.R_below h5 hbO) (Nat.le_trans hpi.wl (by omega)) (Nat.le_trans hpi.rl (by omega))
      have HOw := Lib.hid (show ∀ W, Below O.heap.size O W → _ from fun W hb => by obtain ⟨F, L⟩ := (cO.behind hb).locks; exact owner_at L hjx)
      have hsm : (waitingP (xs.getD j ls0)).length ≤ 1000000 := waiting_len (M := n) (hx ▸ hpi.sm) (by omega)
      rw [← hpi.tie.held, ← hpi.tie.owner, ← hpi.tie.socket, ← hpi.tie.passes, ← hpi.tie.waiting] at hrw
      rw [hx] at HSo HWt HOw hrw hsm hsucc
      obtain ⟨l, hl⟩ : ∃ l, waitingP x = l := ⟨_, rfl⟩
      rw [hl] at HWt hrw hsm
      have HRw := Lib.hid hrw
      have HSame := Lib.hid (same_ask l hsm)
      have HBO := Lib.hid hbO
      have HBlk := Lib.hid hblk
      have HL4 : Hid (((ownedP xs t j).length + 1) * 8 ≤ 140737488355328) := Lib.hid (by have := ownedP_len xs t j; omega)
      have hcase : (x.held = false ∧ hasB x t = false) ∨ (x.held = true ∧ (x.owner == t) = false ∧ hasB x t = false) ∨ (x.held = true ∧ (x.owner == t) = true ∧ hasB x t = true) := by
        unfold hasB
        cases x.held with
        | false => exact .inl ⟨rfl, rfl⟩
        | true =>
          by_cases q : x.owner = t
          · exact .inr (.inr ⟨rfl, by simp [q], by simp [q]⟩)
          · exact .inr (.inl ⟨rfl, by simp [q], by simp [q]⟩)
      clear hpi hcells hfz h4 h5 hy hx hx0 hjx hn4 hn5 hblk cO hrw hsm hl hbO
      go_upto_region 5 with (fail)
      skip
      clear f0 f1 f2 f3 f4 f5 hO
      have g0 : O.cell? ⟨wr.heap.size, 0, none⟩ = some (.bool x.held) := cell_of_heap HBlk.out rfl
      have g1 : O.cell? ⟨wr.heap.size, 1, none⟩ = some (.int .i64 x.owner) := cell_of_heap HBlk.out rfl
      have g2 : O.cell? ⟨wr.heap.size, 2, none⟩ = some (.int .i64 x.socket) := cell_of_heap HBlk.out rfl
      have g3 : O.cell? ⟨wr.heap.size, 3, none⟩ = some (.int .i64 x.passes) := cell_of_heap HBlk.out rfl
      have g4 : O.cell? ⟨wr.heap.size, 4, none⟩ = some (.slice A4 n4 c4) := cell_of_heap HBlk.out rfl
      have g5 : O.cell? ⟨wr.heap.size, 5, none⟩ = some (.slice A5 n5 c5) := cell_of_heap HBlk.out rfl
      have hcase2 : (x.held = false ∧ hasB x t = false) ∨ (x.held = true ∧ ((x.owner == t) = false ∧ hasB x t = false ∨ (x.owner == t) = true ∧ hasB x t = true)) := by
        rcases hcase with ⟨a, b⟩ | ⟨a, b, c⟩ | ⟨a, b, c⟩
        · exact .inl ⟨a, b⟩
        · exact .inr ⟨a, .inl ⟨b, c⟩⟩
        · exact .inr ⟨a, .inr ⟨b, c⟩⟩
      clear hcase
      rcases hcase2 with ⟨hh, hb⟩ | ⟨hh, hcase⟩
      · rw [hh] at HOw HRw g0 HBlk
        rw [if_neg (by decide)] at HOw
        clear hh
        go_upto_region 6 with (first | (go_at_call 49; refine (HOw.out _ (bel_refl _)).mono ?_; rintro e w1 ⟨rfl, hw9⟩; rw [hw9]; clear hw9) | fail)
        clear g0 g1 g2 g3 g4 g5
        refine wp_region_held_drew (S := (fun W => Below O.heap.size O W ∧ W.cell? ⟨wr.heap.size, 0, none⟩ = some (.bool false) ∧ W.cell? ⟨wr.heap.size, 1, none⟩ = some (.int .i64 x.owner) ∧ W.cell? ⟨wr.heap.size, 2, none⟩ = some (.int .i64 x.socket) ∧ W.cell? ⟨wr.heap.size, 3, none⟩ = some (.int .i64 x.passes) ∧ W.cell? ⟨wr.heap.size, 4, none⟩ = some (.slice A4 n4 c4) ∧ W.cell? ⟨wr.heap.size, 5, none⟩ = some (.slice A5 n5 c5))) (by kernel_rfl) (cells6 (bel_drew (bel_refl _)) HBlk.out) (fun hHeld => ?_)
        refine wpAnyH_take (i := 0) (v := ?tvF0) rfl (by kernel_rfl) (by kernel_rfl) (by kernel_rfl) (fun _ _ _ h => h) (Or.inl ⟨by rfl, ?tyF0⟩) (by assumption) ?trF0
        case tyF0 => (intro w hSw; (try dsimp only at hSw); (go_simp <;> with_reducible rfl))
        try simp only [Act.put, List.getElem_toArray, List.getElem_cons_succ, List.getElem_cons_zero, List.setIfInBounds_toArray, List.set_cons_zero, List.set_cons_succ]
        refine wpAnyH_take (i := 1) (v := ?tvF1) rfl (by kernel_rfl) (by kernel_rfl) (by kernel_rfl) (fun _ _ _ h => h) (Or.inl ⟨by rfl, ?tyF1⟩) (by assumption) ?trF1
        case tyF1 => (intro w hSw; (try dsimp only at hSw); (go_simp <;> with_reducible rfl))
        try simp only [Act.put, List.getElem_toArray, List.getElem_cons_succ, List.getElem_cons_zero, List.setIfInBounds_toArray, List.set_cons_zero, List.set_cons_succ]
        refine wpAnyH_take (i := 2) (v := ?tvF2) rfl (by kernel_rfl) (by kernel_rfl) (by kernel_rfl) (fun _ _ _ h => h) (Or.inl ⟨by rfl, ?tyF2⟩) (by assumption) ?trF2
        case tyF2 => (intro w hSw; (try dsimp only at hSw); (go_simp <;> with_reducible rfl))
        try simp only [Act.put, List.getElem_toArray, List.getElem_cons_succ, List.getElem_cons_zero, List.setIfInBounds_toArray, List.set_cons_zero, List.set_cons_succ]
        refine wpAnyH_take (i := 3) (v := ?tvF3) rfl (by kernel_rfl) (by kernel_rfl) (by kernel_rfl) (fun _ _ _ h => h) (Or.inl ⟨by rfl, ?tyF3⟩) (by assumption) ?trF3
        case tyF3 => (intro w hSw; (try dsimp only at hSw); (go_simp <;> with_reducible rfl))
        try simp only [Act.put, List.getElem_toArray, List.getElem_cons_succ, List.getElem_cons_zero, List.setIfInBounds_toArray, List.set_cons_zero, List.set_cons_succ]
        refine wpAnyH_take (i := 4) (v := ?tvF4) rfl (by kernel_rfl) (by kernel_rfl) (by kernel_rfl) (fun _ _ _ h => h) (Or.inl ⟨by rfl, ?tyF4⟩) (by assumption) ?trF4
        case tyF4 => (intro w hSw; (try dsimp only at hSw); (go_simp <;> with_reducible rfl))
        try simp only [Act.put, List.getElem_toArray, List.getElem_cons_succ, List.getElem_cons_zero, List.setIfInBounds_toArray, List.set_cons_zero, List.set_cons_succ]
        refine wpAnyH_take (i := 5) (v := ?tvF5) rfl (by kernel_rfl) (by kernel_rfl) (by kernel_rfl) (fun _ _ _ h => h) (Or.inl ⟨by rfl, ?tyF5⟩) (by assumption) ?trF5
        case tyF5 => (intro w hSw; (try dsimp only at hSw); (go_simp <;> with_reducible rfl))
        try simp only [Act.put, List.getElem_toArray, List.getElem_cons_succ, List.getElem_cons_zero, List.setIfInBounds_toArray, List.set_cons_zero, List.set_cons_succ]
        refine wpAnyH_take (i := 6) (v := ?tvF6) rfl (by kernel_rfl) (by kernel_rfl) (by kernel_rfl) (fun _ _ _ h => h) (Or.inl ⟨by rfl, ?tyF6⟩) (by assumption) ?trF6
        case tyF6 => (intro w hSw; (try dsimp only at hSw); (go_simp <;> with_reducible rfl))
        try simp only [Act.put, List.getElem_toArray, List.getElem_cons_succ, List.getElem_cons_zero, List.setIfInBounds_toArray, List.set_cons_zero, List.set_cons_succ]
        refine wpAnyH_take (i := 7) (v := undef) rfl (by kernel_rfl) (by kernel_rfl) (by kernel_rfl) (fun _ _ _ h => h) (Or.inr ⟨by kernel_rfl, rfl⟩) (by assumption) ?_
        try simp only [Act.put, List.getElem_toArray, List.getElem_cons_succ, List.getElem_cons_zero, List.setIfInBounds_toArray, List.set_cons_zero, List.set_cons_succ]
        refine wpAnyH_take (i := 8) (v := undef) rfl (by kernel_rfl) (by kernel_rfl) (by kernel_rfl) (fun _ _ _ h => h) (Or.inr ⟨by kernel_rfl, rfl⟩) (by assumption) ?_
        try simp only [Act.put, List.getElem_toArray, List.getElem_cons_succ, List.getElem_cons_zero, List.setIfInBounds_toArray, List.set_cons_zero, List.set_cons_succ]
        refine wpAnyH_take (i := 9) (v := undef) rfl (by kernel_rfl) (by kernel_rfl) (by kernel_rfl) (fun _ _ _ h => h) (Or.inr ⟨by kernel_rfl, rfl⟩) (by assumption) ?_
        try simp only [Act.put, List.getElem_toArray, List.getElem_cons_succ, List.getElem_cons_zero, List.setIfInBounds_toArray, List.set_cons_zero, List.set_cons_succ]
        refine wpAnyH_take (i := 10) (v := undef) rfl (by kernel_rfl) (by kernel_rfl) (by kernel_rfl) (fun _ _ _ h => h) (Or.inr ⟨by kernel_rfl, rfl⟩) (by assumption) ?_
        try simp only [Act.put, List.getElem_toArray, List.getElem_cons_succ, List.getElem_cons_zero, List.setIfInBounds_toArray, List.set_cons_zero, List.set_cons_succ]
        refine wpAnyH_take (i := 11) (v := ?tvF11) rfl (by kernel_rfl) (by kernel_rfl) (by kernel_rfl) (fun _ _ _ h => h) (Or.inl ⟨by rfl, ?tyF11⟩) (by assumption) ?trF11
        case tyF11 => (intro w hSw; (try dsimp only at hSw); (go_simp <;> with_reducible rfl))
        try simp only [Act.put, List.getElem_toArray, List.getElem_cons_succ, List.getElem_cons_zero, List.setIfInBounds_toArray, List.set_cons_zero, List.set_cons_succ]
        refine wpAnyH_take (i := 12) (v := ?tvF12) rfl (by kernel_rfl) (by kernel_rfl) (by kernel_rfl) (fun _ _ _ h => h) (Or.inl ⟨by rfl, ?tyF12⟩) (by assumption) ?trF12
        case tyF12 => (intro w hSw; (try dsimp only at hSw); (go_simp <;> with_reducible rfl))
        try simp only [Act.put, List.getElem_toArray, List.getElem_cons_succ, List.getElem_cons_zero, List.setIfInBounds_toArray, List.set_cons_zero, List.set_cons_succ]
        refine wpAnyH_take (i := 13) (v := ?tvF13) rfl (by kernel_rfl) (by kernel_rfl) (by kernel_rfl) (fun _ _ _ h => h) (Or.inl ⟨by rfl, ?tyF13⟩) (by assumption) ?trF13
        case tyF13 => (intro w hSw; (try dsimp only at hSw); (go_simp <;> with_reducible rfl))
        try simp only [Act.put, List.getElem_toArray, List.getElem_cons_succ, List.getElem_cons_zero, List.setIfInBounds_toArray, List.set_cons_zero, List.set_cons_succ]
        refine wpAnyH_take (i := 14) (v := ?tvF14) rfl (by kernel_rfl) (by kernel_rfl) (by kernel_rfl) (fun _ _ _ h => h) (Or.inl ⟨by rfl, ?tyF14⟩) (by assumption) ?trF14
        case tyF14 => (intro w hSw; (try dsimp only at hSw); (go_simp <;> with_reducible rfl))
        try simp only [Act.put, List.getElem_toArray, List.getElem_cons_succ, List.getElem_cons_zero, List.setIfInBounds_toArray, List.set_cons_zero, List.set_cons_succ]
        refine wpAnyH_take (i := 15) (v := ?tvF15) rfl (by kernel_rfl) (by kernel_rfl) (by kernel_rfl) (fun _ _ _ h => h) (Or.inl ⟨by rfl, ?tyF15⟩) (by assumption) ?trF15
        case tyF15 => (intro w hSw; (try dsimp only at hSw); (go_simp <;> with_reducible rfl))
        try simp only [Act.put, List.getElem_toArray, List.getElem_cons_succ, List.getElem_cons_zero, List.setIfInBounds_toArray, List.set_cons_zero, List.set_cons_succ]
        refine wpAnyH_take (i := 16) (v := ?tvF16) rfl (by kernel_rfl) (by kernel_rfl) (by kernel_rfl) (fun _ _ _ h => h) (Or.inl ⟨by rfl, ?tyF16⟩) (by assumption) ?trF16
        case tyF16 => (intro w hSw; (try dsimp only at hSw); (go_simp <;> with_reducible rfl))
        try simp only [Act.put, List.getElem_toArray, List.getElem_cons_succ, List.getElem_cons_zero, List.setIfInBounds_toArray, List.set_cons_zero, List.set_cons_succ]
        refine wpAnyH_take (i := 17) (v := ?tvF17) rfl (by kernel_rfl) (by kernel_rfl) (by kernel_rfl) (fun _ _ _ h => h) (Or.inl ⟨by rfl, ?tyF17⟩) (by assumption) ?trF17
        case tyF17 => (intro w hSw; (try dsimp only at hSw); (go_simp <;> with_reducible rfl))
        try simp only [Act.put, List.getElem_toArray, List.getElem_cons_succ, List.getElem_cons_zero, List.setIfInBounds_toArray, List.set_cons_zero, List.set_cons_succ]
        refine wpAnyH_take (i := 18) (v := ?tvF18) rfl (by kernel_rfl) (by kernel_rfl) (by kernel_rfl) (fun _ _ _ h => h) (Or.inl ⟨by rfl, ?tyF18⟩) (by assumption) ?trF18
        case tyF18 => (intro w hSw; (try dsimp only at hSw); (go_simp <;> with_reducible rfl))
        try simp only [Act.put, List.getElem_toArray, List.getElem_cons_succ, List.getElem_cons_zero, List.setIfInBounds_toArray, List.set_cons_zero, List.set_cons_succ]
        refine wpAnyH_take (i := 19) (v := ?tvF19) rfl (by kernel_rfl) (by kernel_rfl) (by kernel_rfl) (fun _ _ _ h => h) (Or.inl ⟨by rfl, ?tyF19⟩) (by assumption) ?trF19
        case tyF19 => (intro w hSw; (try dsimp only at hSw); (go_simp <;> with_reducible rfl))
        try simp only [Act.put, List.getElem_toArray, List.getElem_cons_succ, List.getElem_cons_zero, List.setIfInBounds_toArray, List.set_cons_zero, List.set_cons_succ]
        refine wpAnyH_take (i := 20) (v := ?tvF20) rfl (by kernel_rfl) (by kernel_rfl) (by kernel_rfl) (fun _ _ _ h => h) (Or.inl ⟨by rfl, ?tyF20⟩) (by assumption) ?trF20
        case tyF20 => (intro w hSw; (try dsimp only at hSw); (go_simp <;> with_reducible rfl))
        try simp only [Act.put, List.getElem_toArray, List.getElem_cons_succ, List.getElem_cons_zero, List.setIfInBounds_toArray, List.set_cons_zero, List.set_cons_succ]
        refine wpAnyH_take (i := 21) (v := ?tvF21) rfl (by kernel_rfl) (by kernel_rfl) (by kernel_rfl) (fun _ _ _ h => h) (Or.inl ⟨by rfl, ?tyF21⟩) (by assumption) ?trF21
        case tyF21 => (intro w hSw; (try dsimp only at hSw); (go_simp <;> with_reducible rfl))
        try simp only [Act.put, List.getElem_toArray, List.getElem_cons_succ, List.getElem_cons_zero, List.setIfInBounds_toArray, List.set_cons_zero, List.set_cons_succ]
        refine wpAnyH_take (i := 22) (v := ?tvF22) rfl (by kernel_rfl) (by kernel_rfl) (by kernel_rfl) (fun _ _ _ h => h) (Or.inl ⟨by rfl, ?tyF22⟩) (by assumption) ?trF22
        case tyF22 => (intro w hSw; (try dsimp only at hSw); (go_simp <;> with_reducible rfl))
        try simp only [Act.put, List.getElem_toArray, List.getElem_cons_succ, List.getElem_cons_zero, List.setIfInBounds_toArray, List.set_cons_zero, List.set_cons_succ]
        refine wpAnyH_take (i := 23) (v := ?tvF23) rfl (by kernel_rfl) (by kernel_rfl) (by kernel_rfl) (fun _ _ _ h => h) (Or.inl ⟨by rfl, ?tyF23⟩) (by assumption) ?trF23
        case tyF23 => (intro w hSw; (try dsimp only at hSw); (go_simp <;> with_reducible rfl))
        try simp only [Act.put, List.getElem_toArray, List.getElem_cons_succ, List.getElem_cons_zero, List.setIfInBounds_toArray, List.set_cons_zero, List.set_cons_succ]
        refine wpAnyH_take (i := 25) (v := ?tvF25) rfl (by kernel_rfl) (by kernel_rfl) (by kernel_rfl) (fun _ _ _ h => h) (Or.inl ⟨by rfl, ?tyF25⟩) (by assumption) ?trF25
        case tyF25 => (intro w hSw; (try dsimp only at hSw); (go_simp <;> with_reducible rfl))
        try simp only [Act.put, List.getElem_toArray, List.getElem_cons_succ, List.getElem_cons_zero, List.setIfInBounds_toArray, List.set_cons_zero, List.set_cons_succ]
        refine wpAnyH_take (i := 26) (v := ?tvF26) rfl (by kernel_rfl) (by kernel_rfl) (by kernel_rfl) (fun _ _ _ h => h) (Or.inl ⟨by rfl, ?tyF26⟩) (by assumption) ?trF26
        case tyF26 => (intro w hSw; (try dsimp only at hSw); (go_simp <;> with_reducible rfl))
        try simp only [Act.put, List.getElem_toArray, List.getElem_cons_succ, List.getElem_cons_zero, List.setIfInBounds_toArray, List.set_cons_zero, List.set_cons_succ]
        refine wpAnyH_ready (rs := [24]) (by kernel_rfl) (by simp) ?_
        refine AllReadyH.cons rfl (fun K hK => ?_) AllReadyH.nil
        go_simp
        (go_at_call 52; refine (HSo.out _ (And.left (by assumption))).mono ?_; rintro e w1 ⟨rfl, hw9⟩; rw [hw9]; clear hw9)
        try go_wp2_with (fail)
        refine hK.out _ _ ?_ (fun hHeld => ?_)
        · (first | assumption | exact cells6 (by assumption) HBlk.out)
        clear hK K
        try simp only [Act.put, List.getElem_toArray, List.getElem_cons_succ, List.getElem_cons_zero, List.setIfInBounds_toArray, List.set_cons_zero, List.set_cons_succ]
        refine wpAnyH_take (i := 27) (v := ?tvF27) rfl (by kernel_rfl) (by kernel_rfl) (by kernel_rfl) (fun _ _ _ h => h) (Or.inl ⟨by rfl, ?tyF27⟩) (by assumption) ?trF27
        case tyF27 => (intro w hSw; (try dsimp only at hSw); (go_simp <;> with_reducible rfl))
        try simp only [Act.put, List.getElem_toArray, List.getElem_cons_succ, List.getElem_cons_zero, List.setIfInBounds_toArray, List.set_cons_zero, List.set_cons_succ]
        refine wpAnyH_take (i := 28) (v := ?tvF28) rfl (by kernel_rfl) (by kernel_rfl) (by kernel_rfl) (fun _ _ _ h => h) (Or.inl ⟨by rfl, ?tyF28⟩) (by assumption) ?trF28
        case tyF28 => (intro w hSw; (try dsimp only at hSw); (go_simp <;> with_reducible rfl))
        try simp only [Act.put, List.getElem_toArray, List.getElem_cons_succ, List.getElem_cons_zero, List.setIfInBounds_toArray, List.set_cons_zero, List.set_cons_succ]
        refine wpAnyH_take (i := 29) (v := ?tvF29) rfl (by kernel_rfl) (by kernel_rfl) (by kernel_rfl) (fun _ _ _ h => h) (Or.inl ⟨by rfl, ?tyF29⟩) (by assumption) ?trF29
        case tyF29 => (intro w hSw; (try dsimp only at hSw); (go_simp <;> with_reducible rfl))
        try simp only [Act.put, List.getElem_toArray, List.getElem_cons_succ, List.getElem_cons_zero, List.setIfInBounds_toArray, List.set_cons_zero, List.set_cons_succ]
        refine wpAnyH_take (i := 30) (v := ?tvF30) rfl (by kernel_rfl) (by kernel_rfl) (by kernel_rfl) (fun _ _ _ h => h) (Or.inl ⟨by rfl, ?tyF30⟩) (by assumption) ?trF30
        case tyF30 => (intro w hSw; (try dsimp only at hSw); (go_simp <;> with_reducible rfl))
        try simp only [Act.put, List.getElem_toArray, List.getElem_cons_succ, List.getElem_cons_zero, List.setIfInBounds_toArray, List.set_cons_zero, List.set_cons_succ]
        refine wpAnyH_take (i := 31) (v := ?tvF31) rfl (by kernel_rfl) (by kernel_rfl) (by kernel_rfl) (fun _ _ _ h => h) (Or.inl ⟨by rfl, ?tyF31⟩) (by assumption) ?trF31
        case tyF31 => (intro w hSw; (try dsimp only at hSw); (go_simp <;> with_reducible rfl))
        try simp only [Act.put, List.getElem_toArray, List.getElem_cons_succ, List.getElem_cons_zero, List.setIfInBounds_toArray, List.set_cons_zero, List.set_cons_succ]
        refine wpAnyH_take (i := 33) (v := ?tvF33) rfl (by kernel_rfl) (by kernel_rfl) (by kernel_rfl) (fun _ _ _ h => h) (Or.inl ⟨by rfl, ?tyF33⟩) (by assumption) ?trF33
        case tyF33 => (intro w hSw; (try dsimp only at hSw); (go_simp <;> with_reducible rfl))
        try simp only [Act.put, List.getElem_toArray, List.getElem_cons_succ, List.getElem_cons_zero, List.setIfInBounds_toArray, List.set_cons_zero, List.set_cons_succ]
        refine wpAnyH_ready (rs := [32]) (by kernel_rfl) (by simp) ?_
        refine AllReadyH.cons rfl (fun K hK => ?_) AllReadyH.nil
        go_simp
        (go_at_call 53; refine (HWt.out _ (And.left (by assumption))).mono ?_; rintro e w2 ⟨v2, rfl, hR2, hB2⟩; have HB2 : Below O.heap.size O w2 := bel_trans (And.left (by assumption)) hB2; have HR2 := Lib.hid hR2; clear hR2 hB2)
        try go_wp2_with (fail)
        refine hK.out _ _ ?_ (fun hHeld => ?_)
        · (first | assumption | exact cells6 (by assumption) HBlk.out)
        clear hK K
        try simp only [Act.put, List.getElem_toArray, List.getElem_cons_succ, List.getElem_cons_zero, List.setIfInBounds_toArray, List.set_cons_zero, List.set_cons_succ]
        refine wpAnyH_ready (rs := [34]) (by kernel_rfl) (by simp) ?_
        refine AllReadyH.cons rfl (fun K hK => ?_) AllReadyH.nil
        go_simp
        (go_at_call 103; refine (HRw.out _ (And.left (by assumption))).mono ?_; rintro e w3 ⟨v3, rfl, hR3, hB3⟩; have HB3 : Below O.heap.size O w3 := bel_trans (And.left (by assumption)) hB3; have HR23 := Lib.hid (Kd.R_below HR2.out hB3); have HR3 := Lib.hid hR3; clear hR3 hB3)
        try go_wp2_with (fail)
        refine hK.out _ _ ?_ (fun hHeld => ?_)
        · (first | assumption | exact cells6 (by assumption) HBlk.out)
        clear hK K
        try simp only [Act.put, List.getElem_toArray, List.getElem_cons_succ, List.getElem_cons_zero, List.setIfInBounds_toArray, List.set_cons_zero, List.set_cons_succ]
        refine wpAnyH_ready (rs := [35]) (by kernel_rfl) (by simp) ?_
        refine AllReadyH.cons rfl (fun K hK => ?_) AllReadyH.nil
        go_simp
        (go_at_call 20; refine (HSame.out _ _ _ _ _ _ _ HR23.out HR3.out).mono ?_; rintro e w4 ⟨rfl, hB4⟩; have HB4 : Below O.heap.size O w4 := bel_trans (And.left (by assumption)) hB4; clear hB4)
        try go_wp2_with (fail)
        refine hK.out _ _ ?_ (fun hHeld => ?_)
        · (first | assumption | exact cells6 (by assumption) HBlk.out)
        clear hK K
        try simp only [Act.put, List.getElem_toArray, List.getElem_cons_succ, List.getElem_cons_zero, List.setIfInBounds_toArray, List.set_cons_zero, List.set_cons_succ]
        refine wpAnyH_take (i := 36) (v := ?tvF36) rfl (by kernel_rfl) (by kernel_rfl) (by kernel_rfl) (fun _ _ _ h => h) (Or.inl ⟨by rfl, ?tyF36⟩) (by assumption) ?trF36
        case tyF36 => (intro w hSw; (try dsimp only at hSw); (go_simp <;> with_reducible rfl))
        try simp only [Act.put, List.getElem_toArray, List.getElem_cons_succ, List.getElem_cons_zero, List.setIfInBounds_toArray, List.set_cons_zero, List.set_cons_succ]
        refine wpAnyH_take (i := 37) (v := ?tvF37) rfl (by kernel_rfl) (by kernel_rfl) (by kernel_rfl) (fun _ _ _ h => h) (Or.inl ⟨by rfl, ?tyF37⟩) (by assumption) ?trF37
        case tyF37 => (intro w hSw; (try dsimp only at hSw); (go_simp <;> with_reducible rfl))
        try simp only [Act.put, List.getElem_toArray, List.getElem_cons_succ, List.getElem_cons_zero, List.setIfInBounds_toArray, List.set_cons_zero, List.set_cons_succ]
        refine wpAnyH_done (by kernel_rfl) ?_ _
        obtain ⟨-, k0, k1, -, -, -, -⟩ := hHeld
        have HBr := Lib.hid (bel_trans HBO.out HB4)
        have HBw := Lib.hid (bel_trans HB.out HBr.out)
        have HR4 := Lib.hid (Kd.R_below HR.out HBr.out)
        rw [if_neg (by rw [hb]; decide), List.append_nil] at hsucc
        have HS := Lib.hid hsucc
        clear hsucc hb
        go_wp2
        go_roundg (m - (j + 1))
        case measure => omega
        case rel => exact ⟨j + 1, A7, m7, k7, by omega, by omega, by go_num, rfl, ⟨HBw.out⟩, ⟨by rw [HS.out]; exact HR4.out⟩⟩
      · rw [hh, if_pos rfl] at HOw
        rw [hh] at HRw g0 HBlk
        clear hh
        have hno : (x.owner != x.owner) = false := by simp
        go_upto_region 6 with (first | (go_at_call 49; refine (HOw.out _ (bel_refl _)).mono ?_; rintro e w1 ⟨rfl, hw9⟩; rw [hw9]; clear hw9) | fail)
        clear g0 g1 g2 g3 g4 g5
        refine wp_region_held_drew (S := (fun W => Below O.heap.size O W ∧ W.cell? ⟨wr.heap.size, 0, none⟩ = some (.bool true) ∧ W.cell? ⟨wr.heap.size, 1, none⟩ = some (.int .i64 x.owner) ∧ W.cell? ⟨wr.heap.size, 2, none⟩ = some (.int .i64 x.socket) ∧ W.cell? ⟨wr.heap.size, 3, none⟩ = some (.int .i64 x.passes) ∧ W.cell? ⟨wr.heap.size, 4, none⟩ = some (.slice A4 n4 c4) ∧ W.cell? ⟨wr.heap.size, 5, none⟩ = some (.slice A5 n5 c5))) (by kernel_rfl) (cells6 (bel_drew (bel_refl _)) HBlk.out) (fun hHeld => ?_)
        refine wpAnyH_take (i := 0) (v := ?tvT0) rfl (by kernel_rfl) (by kernel_rfl) (by kernel_rfl) (fun _ _ _ h => h) (Or.inl ⟨by rfl, ?tyT0⟩) (by assumption) ?trT0
        case tyT0 => (intro w hSw; (try dsimp only at hSw); (go_simp <;> with_reducible rfl))
        try simp only [Act.put, List.getElem_toArray, List.getElem_cons_succ, List.getElem_cons_zero, List.setIfInBounds_toArray, List.set_cons_zero, List.set_cons_succ]
        refine wpAnyH_take (i := 1) (v := ?tvT1) rfl (by kernel_rfl) (by kernel_rfl) (by kernel_rfl) (fun _ _ _ h => h) (Or.inl ⟨by rfl, ?tyT1⟩) (by assumption) ?trT1
        case tyT1 => (intro w hSw; (try dsimp only at hSw); (go_simp <;> with_reducible rfl))
        try simp only [Act.put, List.getElem_toArray, List.getElem_cons_succ, List.getElem_cons_zero, List.setIfInBounds_toArray, List.set_cons_zero, List.set_cons_succ]
        refine wpAnyH_take (i := 2) (v := ?tvT2) rfl (by kernel_rfl) (by kernel_rfl) (by kernel_rfl) (fun _ _ _ h => h) (Or.inl ⟨by rfl, ?tyT2⟩) (by assumption) ?trT2
        case tyT2 => (intro w hSw; (try dsimp only at hSw); (go_simp <;> with_reducible rfl))
        try simp only [Act.put, List.getElem_toArray, List.getElem_cons_succ, List.getElem_cons_zero, List.setIfInBounds_toArray, List.set_cons_zero, List.set_cons_succ]
        refine wpAnyH_take (i := 3) (v := ?tvT3) rfl (by kernel_rfl) (by kernel_rfl) (by kernel_rfl) (fun _ _ _ h => h) (Or.inl ⟨by rfl, ?tyT3⟩) (by assumption) ?trT3
        case tyT3 => (intro w hSw; (try dsimp only at hSw); (go_simp <;> with_reducible rfl))
        try simp only [Act.put, List.getElem_toArray, List.getElem_cons_succ, List.getElem_cons_zero, List.setIfInBounds_toArray, List.set_cons_zero, List.set_cons_succ]
        refine wpAnyH_take (i := 4) (v := ?tvT4) rfl (by kernel_rfl) (by kernel_rfl) (by kernel_rfl) (fun _ _ _ h => h) (Or.inl ⟨by rfl, ?tyT4⟩) (by assumption) ?trT4
        case tyT4 => (intro w hSw; (try dsimp only at hSw); (go_simp <;> with_reducible rfl))
        try simp only [Act.put, List.getElem_toArray, List.getElem_cons_succ, List.getElem_cons_zero, List.setIfInBounds_toArray, List.set_cons_zero, List.set_cons_succ]
        refine wpAnyH_take (i := 5) (v := ?tvT5) rfl (by kernel_rfl) (by kernel_rfl) (by kernel_rfl) (fun _ _ _ h => h) (Or.inl ⟨by rfl, ?tyT5⟩) (by assumption) ?trT5
        case tyT5 => (intro w hSw; (try dsimp only at hSw); (go_simp <;> with_reducible rfl))
        try simp only [Act.put, List.getElem_toArray, List.getElem_cons_succ, List.getElem_cons_zero, List.setIfInBounds_toArray, List.set_cons_zero, List.set_cons_succ]
        refine wpAnyH_take (i := 6) (v := ?tvT6) rfl (by kernel_rfl) (by kernel_rfl) (by kernel_rfl) (fun _ _ _ h => h) (Or.inl ⟨by rfl, ?tyT6⟩) (by assumption) ?trT6
        case tyT6 => (intro w hSw; (try dsimp only at hSw); (go_simp <;> with_reducible rfl))
        try simp only [Act.put, List.getElem_toArray, List.getElem_cons_succ, List.getElem_cons_zero, List.setIfInBounds_toArray, List.set_cons_zero, List.set_cons_succ]
        refine wpAnyH_take (i := 7) (v := ?tvT7) rfl (by kernel_rfl) (by kernel_rfl) (by kernel_rfl) (fun _ _ _ h => h) (Or.inl ⟨by rfl, ?tyT7⟩) (by assumption) ?trT7
        case tyT7 => (intro w hSw; (try dsimp only at hSw); (go_simp <;> with_reducible rfl))
        try simp only [Act.put, List.getElem_toArray, List.getElem_cons_succ, List.getElem_cons_zero, List.setIfInBounds_toArray, List.set_cons_zero, List.set_cons_succ]
        refine wpAnyH_take (i := 8) (v := ?tvT8) rfl (by kernel_rfl) (by kernel_rfl) (by kernel_rfl) (fun _ _ _ h => h) (Or.inl ⟨by rfl, ?tyT8⟩) (by assumption) ?trT8
        case tyT8 => (intro w hSw; (try dsimp only at hSw); (go_simp <;> with_reducible rfl))
        try simp only [Act.put, List.getElem_toArray, List.getElem_cons_succ, List.getElem_cons_zero, List.setIfInBounds_toArray, List.set_cons_zero, List.set_cons_succ]
        refine wpAnyH_take (i := 9) (v := ?tvT9) rfl (by kernel_rfl) (by kernel_rfl) (by kernel_rfl) (fun _ _ _ h => h) (Or.inl ⟨by rfl, ?tyT9⟩) (by assumption) ?trT9
        case tyT9 => (intro w hSw; (try dsimp only at hSw); (go_simp <;> with_reducible rfl))
        try simp only [Act.put, List.getElem_toArray, List.getElem_cons_succ, List.getElem_cons_zero, List.setIfInBounds_toArray, List.set_cons_zero, List.set_cons_succ]
        refine wpAnyH_take (i := 10) (v := ?tvT10) rfl (by kernel_rfl) (by kernel_rfl) (by kernel_rfl) (fun _ _ _ h => h) (Or.inl ⟨by rfl, ?tyT10⟩) (by assumption) ?trT10
        case tyT10 => (intro w hSw; (try dsimp only at hSw); (go_simp <;> with_reducible rfl))
        try simp only [Act.put, List.getElem_toArray, List.getElem_cons_succ, List.getElem_cons_zero, List.setIfInBounds_toArray, List.set_cons_zero, List.set_cons_succ]
        refine wpAnyH_take (i := 11) (v := ?tvT11) rfl (by kernel_rfl) (by kernel_rfl) (by kernel_rfl) (fun _ _ _ h => h) (Or.inl ⟨by rfl, ?tyT11⟩) (by assumption) ?trT11
        case tyT11 => (intro w hSw; (try dsimp only at hSw); (go_simp <;> with_reducible rfl))
        try simp only [Act.put, List.getElem_toArray, List.getElem_cons_succ, List.getElem_cons_zero, List.setIfInBounds_toArray, List.set_cons_zero, List.set_cons_succ]
        refine wpAnyH_take (i := 12) (v := ?tvT12) rfl (by kernel_rfl) (by kernel_rfl) (by kernel_rfl) (fun _ _ _ h => h) (Or.inl ⟨by rfl, ?tyT12⟩) (by assumption) ?trT12
        case tyT12 => (intro w hSw; (try dsimp only at hSw); (go_simp <;> with_reducible rfl))
        try simp only [Act.put, List.getElem_toArray, List.getElem_cons_succ, List.getElem_cons_zero, List.setIfInBounds_toArray, List.set_cons_zero, List.set_cons_succ]
        refine wpAnyH_take (i := 13) (v := ?tvT13) rfl (by kernel_rfl) (by kernel_rfl) (by kernel_rfl) (fun _ _ _ h => h) (Or.inl ⟨by rfl, ?tyT13⟩) (by assumption) ?trT13
        case tyT13 => (intro w hSw; (try dsimp only at hSw); (go_simp <;> with_reducible rfl))
        try simp only [Act.put, List.getElem_toArray, List.getElem_cons_succ, List.getElem_cons_zero, List.setIfInBounds_toArray, List.set_cons_zero, List.set_cons_succ]
        refine wpAnyH_take (i := 14) (v := ?tvT14) rfl (by kernel_rfl) (by kernel_rfl) (by kernel_rfl) (fun _ _ _ h => h) (Or.inl ⟨by rfl, ?tyT14⟩) (by assumption) ?trT14
        case tyT14 => (intro w hSw; (try dsimp only at hSw); (go_simp <;> with_reducible rfl))
        try simp only [Act.put, List.getElem_toArray, List.getElem_cons_succ, List.getElem_cons_zero, List.setIfInBounds_toArray, List.set_cons_zero, List.set_cons_succ]
        refine wpAnyH_take (i := 15) (v := ?tvT15) rfl (by kernel_rfl) (by kernel_rfl) (by kernel_rfl) (fun _ _ _ h => h) (Or.inl ⟨by rfl, ?tyT15⟩) (by assumption) ?trT15
        case tyT15 => (intro w hSw; (try dsimp only at hSw); (go_simp <;> with_reducible rfl))
        try simp only [Act.put, List.getElem_toArray, List.getElem_cons_succ, List.getElem_cons_zero, List.setIfInBounds_toArray, List.set_cons_zero, List.set_cons_succ]
        refine wpAnyH_take (i := 16) (v := ?tvT16) rfl (by kernel_rfl) (by kernel_rfl) (by kernel_rfl) (fun _ _ _ h => h) (Or.inl ⟨by rfl, ?tyT16⟩) (by assumption) ?trT16
        case tyT16 => (intro w hSw; (try dsimp only at hSw); (go_simp <;> with_reducible rfl))
        try simp only [Act.put, List.getElem_toArray, List.getElem_cons_succ, List.getElem_cons_zero, List.setIfInBounds_toArray, List.set_cons_zero, List.set_cons_succ]
        refine wpAnyH_take (i := 17) (v := undef) rfl (by kernel_rfl) (by kernel_rfl) (by kernel_rfl) (fun _ _ _ h => h) (Or.inr ⟨by kernel_rfl, rfl⟩) (by assumption) ?_
        try simp only [Act.put, List.getElem_toArray, List.getElem_cons_succ, List.getElem_cons_zero, List.setIfInBounds_toArray, List.set_cons_zero, List.set_cons_succ]
        refine wpAnyH_take (i := 18) (v := undef) rfl (by kernel_rfl) (by kernel_rfl) (by kernel_rfl) (fun _ _ _ h => h) (Or.inr ⟨by kernel_rfl, rfl⟩) (by assumption) ?_
        try simp only [Act.put, List.getElem_toArray, List.getElem_cons_succ, List.getElem_cons_zero, List.setIfInBounds_toArray, List.set_cons_zero, List.set_cons_succ]
        refine wpAnyH_take (i := 19) (v := ?tvT19) rfl (by kernel_rfl) (by kernel_rfl) (by kernel_rfl) (fun _ _ _ h => h) (Or.inl ⟨by rfl, ?tyT19⟩) (by assumption) ?trT19
        case tyT19 => (intro w hSw; (try dsimp only at hSw); (go_simp <;> with_reducible rfl))
        try simp only [Act.put, List.getElem_toArray, List.getElem_cons_succ, List.getElem_cons_zero, List.setIfInBounds_toArray, List.set_cons_zero, List.set_cons_succ]
        refine wpAnyH_take (i := 20) (v := ?tvT20) rfl (by kernel_rfl) (by kernel_rfl) (by kernel_rfl) (fun _ _ _ h => h) (Or.inl ⟨by rfl, ?tyT20⟩) (by assumption) ?trT20
        case tyT20 => (intro w hSw; (try dsimp only at hSw); (go_simp <;> with_reducible rfl))
        try simp only [Act.put, List.getElem_toArray, List.getElem_cons_succ, List.getElem_cons_zero, List.setIfInBounds_toArray, List.set_cons_zero, List.set_cons_succ]
        refine wpAnyH_take (i := 21) (v := ?tvT21) rfl (by kernel_rfl) (by kernel_rfl) (by kernel_rfl) (fun _ _ _ h => h) (Or.inl ⟨by rfl, ?tyT21⟩) (by assumption) ?trT21
        case tyT21 => (intro w hSw; (try dsimp only at hSw); (go_simp <;> with_reducible rfl))
        try simp only [Act.put, List.getElem_toArray, List.getElem_cons_succ, List.getElem_cons_zero, List.setIfInBounds_toArray, List.set_cons_zero, List.set_cons_succ]
        refine wpAnyH_take (i := 22) (v := ?tvT22) rfl (by kernel_rfl) (by kernel_rfl) (by kernel_rfl) (fun _ _ _ h => h) (Or.inl ⟨by rfl, ?tyT22⟩) (by assumption) ?trT22
        case tyT22 => (intro w hSw; (try dsimp only at hSw); (go_simp <;> with_reducible rfl))
        try simp only [Act.put, List.getElem_toArray, List.getElem_cons_succ, List.getElem_cons_zero, List.setIfInBounds_toArray, List.set_cons_zero, List.set_cons_succ]
        refine wpAnyH_take (i := 23) (v := ?tvT23) rfl (by kernel_rfl) (by kernel_rfl) (by kernel_rfl) (fun _ _ _ h => h) (Or.inl ⟨by rfl, ?tyT23⟩) (by assumption) ?trT23
        case tyT23 => (intro w hSw; (try dsimp only at hSw); (go_simp <;> with_reducible rfl))
        try simp only [Act.put, List.getElem_toArray, List.getElem_cons_succ, List.getElem_cons_zero, List.setIfInBounds_toArray, List.set_cons_zero, List.set_cons_succ]
        refine wpAnyH_take (i := 25) (v := ?tvT25) rfl (by kernel_rfl) (by kernel_rfl) (by kernel_rfl) (fun _ _ _ h => h) (Or.inl ⟨by rfl, ?tyT25⟩) (by assumption) ?trT25
        case tyT25 => (intro w hSw; (try dsimp only at hSw); (go_simp <;> with_reducible rfl))
        try simp only [Act.put, List.getElem_toArray, List.getElem_cons_succ, List.getElem_cons_zero, List.setIfInBounds_toArray, List.set_cons_zero, List.set_cons_succ]
        refine wpAnyH_take (i := 26) (v := ?tvT26) rfl (by kernel_rfl) (by kernel_rfl) (by kernel_rfl) (fun _ _ _ h => h) (Or.inl ⟨by rfl, ?tyT26⟩) (by assumption) ?trT26
        case tyT26 => (intro w hSw; (try dsimp only at hSw); (go_simp <;> with_reducible rfl))
        try simp only [Act.put, List.getElem_toArray, List.getElem_cons_succ, List.getElem_cons_zero, List.setIfInBounds_toArray, List.set_cons_zero, List.set_cons_succ]
        refine wpAnyH_ready (rs := [24]) (by kernel_rfl) (by simp) ?_
        refine AllReadyH.cons rfl (fun K hK => ?_) AllReadyH.nil
        go_simp
        (go_at_call 52; refine (HSo.out _ (And.left (by assumption))).mono ?_; rintro e w1 ⟨rfl, hw9⟩; rw [hw9]; clear hw9)
        try go_wp2_with (fail)
        refine hK.out _ _ ?_ (fun hHeld => ?_)
        · (first | assumption | exact cells6 (by assumption) HBlk.out)
        clear hK K
        try simp only [Act.put, List.getElem_toArray, List.getElem_cons_succ, List.getElem_cons_zero, List.setIfInBounds_toArray, List.set_cons_zero, List.set_cons_succ]
        refine wpAnyH_take (i := 27) (v := ?tvT27) rfl (by kernel_rfl) (by kernel_rfl) (by kernel_rfl) (fun _ _ _ h => h) (Or.inl ⟨by rfl, ?tyT27⟩) (by assumption) ?trT27
        case tyT27 => (intro w hSw; (try dsimp only at hSw); (go_simp <;> with_reducible rfl))
        try simp only [Act.put, List.getElem_toArray, List.getElem_cons_succ, List.getElem_cons_zero, List.setIfInBounds_toArray, List.set_cons_zero, List.set_cons_succ]
        refine wpAnyH_take (i := 28) (v := ?tvT28) rfl (by kernel_rfl) (by kernel_rfl) (by kernel_rfl) (fun _ _ _ h => h) (Or.inl ⟨by rfl, ?tyT28⟩) (by assumption) ?trT28
        case tyT28 => (intro w hSw; (try dsimp only at hSw); (go_simp <;> with_reducible rfl))
        try simp only [Act.put, List.getElem_toArray, List.getElem_cons_succ, List.getElem_cons_zero, List.setIfInBounds_toArray, List.set_cons_zero, List.set_cons_succ]
        refine wpAnyH_take (i := 29) (v := ?tvT29) rfl (by kernel_rfl) (by kernel_rfl) (by kernel_rfl) (fun _ _ _ h => h) (Or.inl ⟨by rfl, ?tyT29⟩) (by assumption) ?trT29
        case tyT29 => (intro w hSw; (try dsimp only at hSw); (go_simp <;> with_reducible rfl))
        try simp only [Act.put, List.getElem_toArray, List.getElem_cons_succ, List.getElem_cons_zero, List.setIfInBounds_toArray, List.set_cons_zero, List.set_cons_succ]
        refine wpAnyH_take (i := 30) (v := ?tvT30) rfl (by kernel_rfl) (by kernel_rfl) (by kernel_rfl) (fun _ _ _ h => h) (Or.inl ⟨by rfl, ?tyT30⟩) (by assumption) ?trT30
        case tyT30 => (intro w hSw; (try dsimp only at hSw); (go_simp <;> with_reducible rfl))
        try simp only [Act.put, List.getElem_toArray, List.getElem_cons_succ, List.getElem_cons_zero, List.setIfInBounds_toArray, List.set_cons_zero, List.set_cons_succ]
        refine wpAnyH_take (i := 31) (v := ?tvT31) rfl (by kernel_rfl) (by kernel_rfl) (by kernel_rfl) (fun _ _ _ h => h) (Or.inl ⟨by rfl, ?tyT31⟩) (by assumption) ?trT31
        case tyT31 => (intro w hSw; (try dsimp only at hSw); (go_simp <;> with_reducible rfl))
        try simp only [Act.put, List.getElem_toArray, List.getElem_cons_succ, List.getElem_cons_zero, List.setIfInBounds_toArray, List.set_cons_zero, List.set_cons_succ]
        refine wpAnyH_take (i := 33) (v := ?tvT33) rfl (by kernel_rfl) (by kernel_rfl) (by kernel_rfl) (fun _ _ _ h => h) (Or.inl ⟨by rfl, ?tyT33⟩) (by assumption) ?trT33
        case tyT33 => (intro w hSw; (try dsimp only at hSw); (go_simp <;> with_reducible rfl))
        try simp only [Act.put, List.getElem_toArray, List.getElem_cons_succ, List.getElem_cons_zero, List.setIfInBounds_toArray, List.set_cons_zero, List.set_cons_succ]
        refine wpAnyH_ready (rs := [32]) (by kernel_rfl) (by simp) ?_
        refine AllReadyH.cons rfl (fun K hK => ?_) AllReadyH.nil
        go_simp
        (go_at_call 53; refine (HWt.out _ (And.left (by assumption))).mono ?_; rintro e w2 ⟨v2, rfl, hR2, hB2⟩; have HB2 : Below O.heap.size O w2 := bel_trans (And.left (by assumption)) hB2; have HR2 := Lib.hid hR2; clear hR2 hB2)
        try go_wp2_with (fail)
        refine hK.out _ _ ?_ (fun hHeld => ?_)
        · (first | assumption | exact cells6 (by assumption) HBlk.out)
        clear hK K
        try simp only [Act.put, List.getElem_toArray, List.getElem_cons_succ, List.getElem_cons_zero, List.setIfInBounds_toArray, List.set_cons_zero, List.set_cons_succ]
        refine wpAnyH_ready (rs := [34]) (by kernel_rfl) (by simp) ?_
        refine AllReadyH.cons rfl (fun K hK => ?_) AllReadyH.nil
        go_simp
        (go_at_call 103; refine (HRw.out _ (And.left (by assumption))).mono ?_; rintro e w3 ⟨v3, rfl, hR3, hB3⟩; have HB3 : Below O.heap.size O w3 := bel_trans (And.left (by assumption)) hB3; have HR23 := Lib.hid (Kd.R_below HR2.out hB3); have HR3 := Lib.hid hR3; clear hR3 hB3)
        try go_wp2_with (fail)
        refine hK.out _ _ ?_ (fun hHeld => ?_)
        · (first | assumption | exact cells6 (by assumption) HBlk.out)
        clear hK K
        try simp only [Act.put, List.getElem_toArray, List.getElem_cons_succ, List.getElem_cons_zero, List.setIfInBounds_toArray, List.set_cons_zero, List.set_cons_succ]
        refine wpAnyH_ready (rs := [35]) (by kernel_rfl) (by simp) ?_
        refine AllReadyH.cons rfl (fun K hK => ?_) AllReadyH.nil
        go_simp
        (go_at_call 20; refine (HSame.out _ _ _ _ _ _ _ HR23.out HR3.out).mono ?_; rintro e w4 ⟨rfl, hB4⟩; have HB4 : Below O.heap.size O w4 := bel_trans (And.left (by assumption)) hB4; clear hB4)
        try go_wp2_with (fail)
        refine hK.out _ _ ?_ (fun hHeld => ?_)
        · (first | assumption | exact cells6 (by assumption) HBlk.out)
        clear hK K
        try simp only [Act.put, List.getElem_toArray, List.getElem_cons_succ, List.getElem_cons_zero, List.setIfInBounds_toArray, List.set_cons_zero, List.set_cons_succ]
        refine wpAnyH_take (i := 36) (v := ?tvT36) rfl (by kernel_rfl) (by kernel_rfl) (by kernel_rfl) (fun _ _ _ h => h) (Or.inl ⟨by rfl, ?tyT36⟩) (by assumption) ?trT36
        case tyT36 => (intro w hSw; (try dsimp only at hSw); (go_simp <;> with_reducible rfl))
        try simp only [Act.put, List.getElem_toArray, List.getElem_cons_succ, List.getElem_cons_zero, List.setIfInBounds_toArray, List.set_cons_zero, List.set_cons_succ]
        refine wpAnyH_take (i := 37) (v := ?tvT37) rfl (by kernel_rfl) (by kernel_rfl) (by kernel_rfl) (fun _ _ _ h => h) (Or.inl ⟨by rfl, ?tyT37⟩) (by assumption) ?trT37
        case tyT37 => (intro w hSw; (try dsimp only at hSw); (go_simp <;> with_reducible rfl))
        try simp only [Act.put, List.getElem_toArray, List.getElem_cons_succ, List.getElem_cons_zero, List.setIfInBounds_toArray, List.set_cons_zero, List.set_cons_succ]
        refine wpAnyH_done (by kernel_rfl) ?_ _
        obtain ⟨-, k0, k1, -, -, -, -⟩ := hHeld
        have HBr := Lib.hid (bel_trans HBO.out HB4)
        have HBw := Lib.hid (bel_trans HB.out HBr.out)
        have HR4 := Lib.hid (Kd.R_below HR.out HBr.out)
        rcases hcase with ⟨ho, hb⟩ | ⟨ho, hb⟩
        · rw [if_neg (by rw [hb]; decide), List.append_nil] at hsucc
          have HS := Lib.hid hsucc
          clear hsucc hb
          go_wp2
          go_roundg (m - (j + 1))
          case measure => omega
          case rel => exact ⟨j + 1, A7, m7, k7, by omega, by omega, by go_num, rfl, ⟨HBw.out⟩, ⟨by rw [HS.out]; exact HR4.out⟩⟩
        · rw [if_pos hb] at hsucc
          have HS := Lib.hid hsucc
          clear hsucc hb
          go_wp2_with (first
            | (at_builtin; refine Kd.R_append (Kd.int .i64) (w0 := w) w.heap.size rfl (.tmp 75) (.tmp 77) 27 3 (.int .i64 0) 8 rfl Try.underlying27 infoInt rfl (by decide) (by decide) (.slice A7 m7 k7) (ownedP xs t j) (j : Int) [.int .i64 (j : Int)] (fun _ => True) (fun _ => False) rfl rfl rfl (fun _ q => q.elim) (fun _ _ => trivial) HR4.out HBw.out HBw.out.size HL4.out ?_; intro v8 w8 hR8 hB8 hg8 hat8; rw [← HS.out] at hR8; obtain ⟨A8, k8_, e8_⟩ := Kd.R_slice hR8; subst e8_; have HR8 := Lib.hid hR8; have HB8 := Lib.hid hB8; clear hR8 hB8 hg8 hat8)
            | fail)
          go_roundg (m - (j + 1))
          case measure => omega
          case rel => exact ⟨j + 1, A8, _, k8_, by omega, by omega, by go_num, rfl, ⟨HB8.out⟩, ⟨HR8.out⟩⟩
    · have hltz : ¬ (j : Int) < (m : Int) := by omega
      have hjm : j = m := by omega
      subst hjm
      obtain ⟨F, L⟩ := (HC.out.behind HB.out).locks
      have hlen := HI.out.1
      have h1 : ∀ z : Int, ¬ (0 ≤ z ∧ z < (j : Int)) → _ := fun z hz => owner_out L (n := z) (by rw [hlen]; exact hz)
      have h3 := owned_any L t (by rw [hlen]; omega)
      rw [hlen] at h3
      have hol := ownedP_len xs t j
      have h4 := same_ask (ownedP xs t j) (Nat.le_trans hol (by omega))
      have H1 := Lib.hid h1
      have H3 := Lib.hid h3
      have H4 := Lib.hid h4
      have H5 := Lib.hid (show ∀ W, Below wr.heap.size wr W → Calls Try.prog 56 #[.pointer (some ⟨h, 0, none⟩)] W fun e w' => e = .returned (.int .i64 (j : Int)) ∧ w' = W from fun W hb => by have := len_any (L.behind hb); rw [hlen] at this; exact this)
      have hm1 : ((j : Int) == (j : Int)) = true := by simp
      clear h1 h3 h4 hlen hol L
      go_upto_region 13 with (first
        | (go_at_call 49; refine (H1.out _ (by omega)).mono ?_; rintro e w1 ⟨rfl, hw9⟩; rw [hw9]; clear hw9)
        | fail)
      go_wp2_with (first
        | (go_at_call 57; refine (H3.out).mono ?_; rintro e w2 ⟨v2, rfl, hR2, hB2⟩; have HR2 := Lib.hid hR2; have HB2 := Lib.hid hB2; have HRr := Lib.hid (Kd.R_below HR.out hB2); clear hR2 hB2)
        | (go_at_call 20; refine (H4.out _ _ _ _ _ _ _ HR2.out HRr.out).mono ?_; rintro e w4 ⟨rfl, hB4⟩; have HB4 := Lib.hid (bel_trans HB2.out hB4); clear hB4)
        | (go_at_call 56; refine (H5.out _ HB4.out).mono ?_; rintro e w5 ⟨rfl, hw9⟩; rw [hw9]; clear hw9)
        | fail)
      go_ret
      exact ⟨rfl, bel_trans HB.out HB4.out⟩
end
end Go.Proofs.Ytgiimdoabkcoaaa.Co

/-
Any locks taken and given by any tasks of any sockets: the statement's own function, walked.
-/
namespace Go.Proofs.Ytgiimdoabkcoaaa.Co
set_option linter.unusedVariables false
set_option linter.unusedSimpArgs false
open Go.RowKit Go.Proofs.YtgiimdoabkcoaaaW.PrintWords Go.Proofs.YtgiimdoabkcoaaaW.PrintLast Go.Proofs.YtgiimdoabkcoaaaW.PrintMore
attribute [local go_sem] max2_int min2_int
theorem cut60 (n : Nat) : ∃ m : Nat, min (n : Int) 60 = (m : Int) ∧ m ≤ n ∧ m ≤ 60 := ⟨min n 60, by omega, by omega, by omega⟩
theorem infoDL : (Try.prog.info? 156).map (fun i => (i.zero, i.size, i.bytes)) = some (some (.agg #[.bool false, .int .i64 0, .int .i64 0, .int .i64 0, .slice none 0 0, .slice none 0 0]), 6, 80) := by kernel_rfl
theorem clamp_nat (n : Int) : ∃ m : Nat, clampN n = (m : Int) ∧ m ≤ 16 := ⟨(clampN n).toNat, by have := clampN_b n; omega, by have := clampN_b n; omega⟩
theorem ps_start {w w1 w2 : World} {h lb xb m cx : Nat} (L : LocksAt w1 (fun k => w.heap.size ≤ k) h lb (List.replicate m ls0)) (hb1 : Below w.heap.size w w1)
    (hS : Kd.S kDL 156 w2 w1.heap.size (fun k => w1.heap.size ≤ k) (.slice (some ⟨xb, 0, none⟩) m cx) (List.replicate m dl0)) (hb2 : Below w1.heap.size w1 w2) : PS w w2 h lb xb m cx (List.replicate m ls0) (List.replicate m dl0) :=
  ⟨_, fun k => w1.heap.size ≤ k ∧ k < w2.heap.size, L.bound.behind hb2, Kd.S_lower (Kd.S_mono (Kd.S_bound hS) (fun k q => ⟨q.1, q.2.2.1⟩)) hb1.size, fun k q => ⟨q.1, fun r => absurd q.2 (Nat.not_lt.2 r.1)⟩, fun k q => ⟨Nat.le_trans hb1.size q.1, q.2⟩, bel_trans hb1 hb2⟩
set_option maxRecDepth 100000 in
set_option maxHeartbeats 4000000 in
theorem plays_any (nn : Int) (A : Option Addr) (c : Nat) (l : List OpS) (w : World) (hA : Kd.C kOp w A l.length l) (hc : l.length ≤ c) (hk : ∀ o ∈ l, 0 ≤ o.k ∧ o.k ≤ 18446744073709551615) :
    Calls Try.prog 13 #[.int .i64 nn, .slice A l.length c] w fun e w' => e = .returned (.bool true) ∧ Below w.heap.size w w' := by
  obtain ⟨p, hp, hpl, hp60⟩ := cut60 l.length
  obtain ⟨m, hm, hm16⟩ := clamp_nat nn
  have hnew := new_any w nn
  have hmx : max 0 (min nn 16) = clampN nn := rfl
  rw [hm, Int.toNat_natCast] at hnew
  rw [hm] at hmx
  have HNew := Lib.hid hnew
  have HA := Lib.hid hA
  have HK := Lib.hid hk
  obtain ⟨n0, hn0⟩ : ∃ n0, l.length = n0 := ⟨_, rfl⟩
  have HN := Lib.hid hn0
  rw [hn0] at hp hpl hc ⊢
  have hp1 : (0 : Int) ≤ (p : Int) ∧ (p : Int) ≤ (n0 : Int) := by omega
  have hp2 := eq_true hp1
  have HM16 := Lib.hid hm16
  have hl : (m : Int).toNat * 80 ≤ 281474976710656 := by omega
  have h00 : (0 : Int) ≤ (m : Int) := Int.natCast_nonneg m
  clear hA hk hn0 hp1 hnew hm
  go_enter Try.func13, Try.ntmps13
  go_upto_region 3 with (first | (go_at_call 47; refine (HNew.out).mono ?_; rintro e w1 ⟨h, lb, rfl, l1, b1⟩; have HL := Lib.hid l1; have HB1 := Lib.hid b1; clear l1 b1) | fail)
  clear HNew
  go_upto_region 4 with (first | (refine Kd.S_make kDL (w0 := w1) w1.heap.size 156 rfl rfl 104 _ _ rfl (m : Int) rfl rfl Try.underlying104 _ 80 infoDL rfl (by decide) (by decide) dl0 (ok := fun k => w1.heap.size ≤ k) (okp := fun _ => False) (kDL_mk (y := dl0) (Kd.R_nil _ _ _ _ _) (Kd.R_nil _ _ _ _ _)) (fun _ q => q.elim) (Nat.le_refl _) h00 hl (Below.refl _ _) (Nat.le_refl _) ?_; intro v2 w2 hS hB hg hb; obtain ⟨b, hb1, hb2⟩ := hb; obtain ⟨A9, cx, hv⟩ := Kd.S_slice hS; rw [hv] at hS hb1; obtain ⟨xb, hxb⟩ : ∃ xb, A9 = some ⟨xb, 0, none⟩ := own_head hS hb1; rw [hxb] at hv hS; rw [hv]; rw [Int.toNat_natCast] at hS ⊢; rw [List.length_replicate] at hS ⊢; have HPS0 := Lib.hid (ps_start HL.out HB1.out hS hB); clear hS hB hg hb1 hb2 hv hxb) | fail)
  clear HL HB1 hl
  have HAl0 := Lib.hid (alike_any HPS0.out (PIs.start m) (by omega) HM16.out 0)
  clear hmx hp
  go_upto_region 7 with (first | (go_at_call 54; refine (HAl0.out).mono ?_; rintro e w3 ⟨rfl, hb3⟩; have HPS1 := Lib.hid (HPS0.out.behind hb3); clear hb3) | fail)
  clear HAl0 HPS0
  go_loopg [8, 30] p (fun gg _ v30 wr => ∃ (kk : Nat) (xs : List LS) (ys : List DL), kk ≤ p ∧ p - kk ≤ gg ∧ v30 = .int .i64 kk ∧ Aside0 (PS w wr h lb xb m cx xs ys) ∧ Aside0 (PIs kk m xs ys))
  case atStart => exact ⟨0, _, _, Nat.zero_le _, by omega, rfl, ⟨HPS1.out⟩, ⟨PIs.start m⟩⟩
  case round =>
    obtain ⟨kk, xs, ys, hkk, hg, rfl, HC, HI⟩ := hrel
    by_cases hlt : kk < p
    · have hltz : (kk : Int) < (p : Int) := by omega
      obtain ⟨ad, o, rfl, hmem, f0, f1, f2, f3⟩ := op_at HA.out (Nat.le_refl _) HC.out.bel (i := kk) (by rw [HN.out]; omega)
      have hko := HK.out o hmem
      obtain ⟨O, hO⟩ : ∃ O, wr.alloc (.cells #[.int .u64 o.k, .int .i64 o.l, .int .i64 o.t, .int .i64 o.s] 90) = O := ⟨_, rfl⟩
      have hbO : Below wr.heap.size wr O := hO ▸ (Below.refl wr.heap.size wr).alloc (Nat.le_refl _) _
      have hblk : O.heap[wr.heap.size]? = some (.cells #[.int .u64 o.k, .int .i64 o.l, .int .i64 o.t, .int .i64 o.s] 90 (0, 0)) := by rw [← hO]; exact (MapKept.heap_alloc wr _).1
      have b0 : O.cell? ⟨wr.heap.size, 0, none⟩ = some (.int .u64 o.k) := cell_of_heap hblk rfl
      have b1 : O.cell? ⟨wr.heap.size, 1, none⟩ = some (.int .i64 o.l) := cell_of_heap hblk rfl
      have b2 : O.cell? ⟨wr.heap.size, 2, none⟩ = some (.int .i64 o.t) := cell_of_heap hblk rfl
      have b3 : O.cell? ⟨wr.heap.size, 3, none⟩ = some (.int .i64 o.s) := cell_of_heap hblk rfl
      have HDo := Lib.hid (do_any HC.out hbO HI.out (by omega) o hko)
      have HBlk := Lib.hid hblk
      clear hmem hko hbO hblk
      go_upto_region 9 with (fail)
      clear f0 f1 f2 f3 hO
      go_wp2_with (first
        | (go_at_call 55; refine (HDo.out).mono ?_; rintro e w4 ⟨rfl, ⟨xs4, ys4, hp4, hi4⟩, hx4⟩; have b4 : w4.cell? ⟨wr.heap.size, 2, none⟩ = some (.int .i64 o.t) := cell_of_heap (hx4 _ _ (Nat.le_refl _) HBlk.out) rfl; have HP4 := Lib.hid hp4; have HI4 := Lib.hid hi4; clear hp4 hi4 hx4)
        | (go_at_call 54; refine (alike_any HP4.out HI4.out (by omega) HM16.out _).mono ?_; rintro e w5 ⟨rfl, hb5⟩; have HP5 := Lib.hid (HP4.out.behind hb5); clear hb5)
        | fail)
      go_roundg (p - (kk + 1))
      case measure => omega
      case rel => exact ⟨kk + 1, xs4, ys4, by omega, by omega, by go_num, ⟨HP5.out⟩, ⟨HI4.out⟩⟩
    · have hltz : ¬ (kk : Int) < (p : Int) := by omega
      have hl9 := Lib.hid (lives_any wr)
      go_wp2_with (first | (go_at_call 51; refine (hl9.out).mono ?_; rintro e w9 ⟨rfl, hb9⟩; have HB9 := Lib.hid hb9; clear hb9) | fail)
      go_ret
      exact ⟨rfl, HC.out.bel.trans (HB9.out.mono HC.out.bel.size)⟩
end Go.Proofs.Ytgiimdoabkcoaaa.Co
