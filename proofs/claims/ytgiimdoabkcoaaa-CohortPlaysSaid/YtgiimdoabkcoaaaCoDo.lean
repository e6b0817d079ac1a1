import Derived.Test.YtgiimdoabkcoaaaCoPlP
import Derived.Deep.RegionHeld3
/-
One thing is done to both: what becomes of the memory.
-/
namespace Go.Proofs.Ytgiimdoabkcoaaa.Co
set_option linter.unusedVariables false
set_option linter.unusedSimpArgs false
open Go.RowKit Go.Proofs.YtgiimdoabkcoaaaW.PrintWords Go.Proofs.YtgiimdoabkcoaaaW.PrintLast Go.Proofs.YtgiimdoabkcoaaaW.PrintMore
/-- the walk's own blocks, made since w, stay. -/
def Stays (w O W : World) : Prop := ∀ k, w.heap.size ≤ k → k < O.heap.size → W.heap[k]? = O.heap[k]?
section
variable {w0 w O w1 : World} {h lb xb m cx : Nat} {xs : List LS} {ys : List DL}
theorem PS.base {F G : Nat → Prop} (hb : Below w.heap.size w O) (hF : ∀ k, F k → w0.heap.size ≤ k ∧ ¬ G k) (hG : ∀ k, G k → w0.heap.size ≤ k ∧ k < w.heap.size) : (∀ k, F k ∧ k < w.heap.size → w0.heap.size ≤ k ∧ ¬ G k) ∧ (∀ k, G k → w0.heap.size ≤ k ∧ k < O.heap.size) :=
  ⟨fun k q => hF k q.1, fun k q => ⟨(hG k q).1, Nat.lt_of_lt_of_le (hG k q).2 hb.size⟩⟩
theorem take_ps2 (c : PS w0 w h lb xb m cx xs ys) (hb : Below w.heap.size w O) {i : Nat} (hi : i < xs.length) (hs : Sm 1000000 (xs.getD i ls0)) (t s : Int) :
    Calls Try.prog 48 #[.pointer (some ⟨h, 0, none⟩), .int .i64 (i : Int), .int .i64 t, .int .i64 s] O fun e w' => e = .returned (tkV (takeP (xs.getD i ls0) t s).2.1 (takeP (xs.getD i ls0) t s).2.2) ∧ PS w0 w' h lb xb m cx (xs.set i (takeP (xs.getD i ls0) t s).1) ys ∧ Stays w O w' := by
  obtain ⟨F, G, L, s1, hF, hG, h0⟩ := c
  obtain ⟨hF1, hG1⟩ := PS.base hb hF hG
  refine (take_some (L.bound.behind hb) hi hs t s).mono ?_
  rintro e w' ⟨rfl, l1, f1⟩
  exact ⟨rfl, PS.next (Kd.S_below s1 hb) hF1 hG1 (h0.trans (hb.mono h0.size)) l1 f1, fun k h1 h2 => f1.block k h2 (fun q => absurd q.2 (Nat.not_lt.2 h1))⟩
theorem give_ps2 (c : PS w0 w h lb xb m cx xs ys) (hb : Below w.heap.size w O) {i : Nat} (hi : i < xs.length) (hs : Sm 1000000 (xs.getD i ls0)) (hok : Ok (xs.getD i ls0)) (hp : (xs.getD i ls0).passes ≤ 1000000) (t : Int) :
    Calls Try.prog 50 #[.pointer (some ⟨h, 0, none⟩), .int .i64 (i : Int), .int .i64 t] O fun e w' => e = .returned (gvV (giveP (xs.getD i ls0) t).2.1 (giveP (xs.getD i ls0) t).2.2.1 (giveP (xs.getD i ls0) t).2.2.2) ∧ PS w0 w' h lb xb m cx (xs.set i (giveP (xs.getD i ls0) t).1) ys ∧ Stays w O w' := by
  obtain ⟨F, G, L, s1, hF, hG, h0⟩ := c
  obtain ⟨hF1, hG1⟩ := PS.base hb hF hG
  refine (give_some (L.bound.behind hb) hi hs hok hp t).mono ?_
  rintro e w' ⟨rfl, l1, f1⟩
  exact ⟨rfl, PS.next (Kd.S_below s1 hb) hF1 hG1 (h0.trans (hb.mono h0.size)) l1 f1, fun k h1 h2 => f1.block k h2 (fun q => absurd q.2 (Nat.not_lt.2 h1))⟩
end
/-- a new lock's rows, apart from all others'. -/
def NewAt (w0 W2 V : World) (oki : Nat → Prop) (z : DL) (u4 u5 : Value) : Prop := ∃ P : Nat → Prop, Kept W2 V P ∧ Below w0.heap.size w0 V ∧ (∀ k, P k → oki k ∧ ∃ cells, W2.heap[k]? = some (.cells cells 3 (0, 0))) ∧ kW.R 95 V w0.heap.size (fun k => oki k ∨ W2.heap.size ≤ k) u4 z.waits ∧ (Kd.int .i64).R 3 V w0.heap.size (fun k => oki k ∨ W2.heap.size ≤ k) u5 z.round
section
variable {w0 W2 W V V1 : World} {oki : Nat → Prop} {y z : DL} {u4 u5 : Value}
theorem NewAt.behind (h : NewAt w0 W2 V oki z u4 u5) (hb : Below V.heap.size V V1) : NewAt w0 W2 V1 oki z u4 u5 := by
  obtain ⟨P, k, b, p, r4, r5⟩ := h
  exact ⟨P, k.below hb, b.trans (hb.mono b.size), p, Kd.R_below r4 hb, Kd.R_below r5 hb⟩
theorem NewAt.put (h : NewAt w0 W2 V oki z u4 u5) {T o : Nat} {cs : Array Value} (h0 : w0.heap.size ≤ W2.heap.size) (hT : W2.heap.size ≤ T) (hb : V.heap[T]? = some (.cells cs 156 (0, 0))) (a0 a1 a2 a3 a4 a5 : Value) : NewAt w0 W2 (put6 V T o a0 a1 a2 a3 a4 a5) oki z u4 u5 := by
  obtain ⟨P, k, b, p, r4, r5⟩ := h
  refine ⟨P, ⟨?_, fun i hi hn => ?_⟩, put6_below b (Nat.le_trans h0 hT), p, ?_, ?_⟩
  · simp only [put6, World.setCell]; simpa using k.1
  · exact (put6_other (by omega)).trans (k.2 i hi hn)
  · exact Kd.R_mono (Kd.R_move (Kd.R_types r4 hb (by decide)) (fun i q => put6_other q.2)) (fun _ q => q.1)
  · exact Kd.R_mono (Kd.R_move (Kd.R_types r5 hb (by decide)) (fun i q => put6_other q.2)) (fun _ q => q.1)
theorem NewAt.slices (h : NewAt w0 W2 V oki z u4 u5) : (∃ A n c, u4 = .slice A n c) ∧ ∃ A n c, u5 = .slice A n c := by
  obtain ⟨_, _, _, _, r4, r5⟩ := h
  obtain ⟨A, c, rfl⟩ := Kd.R_slice r4
  obtain ⟨B, d, rfl⟩ := Kd.R_slice r5
  exact ⟨⟨A, _, c, rfl⟩, ⟨B, _, d, rfl⟩⟩
theorem NewAt.block (h : NewAt w0 W2 V oki z u4 u5) {b T : Nat} {cs : Array Value} (hb : W2.heap[b]? = some (.cells cs T (0, 0))) (hT : T ≠ 3) : V.heap[b]? = some (.cells cs T (0, 0)) := by
  obtain ⟨P, k, _, p, _⟩ := h
  refine (k.2 b (Array.getElem?_eq_some_iff.1 hb).1 (fun q => ?_)).trans hb
  obtain ⟨_, cells, hc⟩ := p b q
  rw [hb] at hc
  injection hc with hc
  injection hc with _ hc
  exact hT hc
/-- the document's lock i, and what becomes of all when a new one is put there. -/
theorem ref_at {h lb xb m cx : Nat} {xs : List LS} {ys : List DL} (c : PS w0 W2 h lb xb m cx xs ys) {i : Nat} (hi : i < m) :
    ∃ (oki : Nat → Prop) (A4 A5 : Option Addr) (n4 n5 c4 c5 : Nat), (∀ j, j < 6 → W2.cell? ⟨xb, i * 6 + j, none⟩ = (cD (ys.getD i dl0) (.slice A4 n4 c4) (.slice A5 n5 c5))[j]?) ∧ kW.R 95 W2 w0.heap.size oki (.slice A4 n4 c4) (ys.getD i dl0).waits ∧ (Kd.int .i64).R 3 W2 w0.heap.size oki (.slice A5 n5 c5) (ys.getD i dl0).round ∧
      ∀ (V : World) (z : DL) (u4 u5 : Value), NewAt w0 W2 V oki z u4 u5 → (∀ j, j < 6 → V.cell? ⟨xb, i * 6 + j, none⟩ = (cD (ys.getD i dl0) (.slice A4 n4 c4) (.slice A5 n5 c5))[j]?) ∧ (∀ j, V.frozen? ⟨xb, j, none⟩ = false) ∧
        PS w0 (put6 V xb (i * 6) (.bool z.held) (.int .i64 z.owner) (.int .i64 z.socket) (.int .i64 z.passes) u4 u5) h lb xb m cx xs (ys.set i z) := by
  obtain ⟨oki, v4, v5, hc, _, _, _, _, h4, h5, hcl⟩ := c.at hi
  obtain ⟨A4, c4, rfl⟩ := Kd.R_slice h4
  obtain ⟨A5, c5, rfl⟩ := Kd.R_slice h5
  refine ⟨oki, A4, A5, _, _, c4, c5, hc, h4, h5, fun V z u4 u5 hN => ?_⟩
  obtain ⟨P, k, b, p, r4, r5⟩ := hN
  exact hcl V P _ z u4 u5 k b (fun k q => (p k q).1) r4 r5 (fun _ q => q)
theorem up_to {α : Type} {d : Kd α} {e : Nat} {v : Value} {l : List α} (hr : d.R e V W.heap.size (fun _ => True) v l) (h0 : w0.heap.size ≤ W2.heap.size) (hW : W2.heap.size ≤ W.heap.size) : d.R e V w0.heap.size (fun k => oki k ∨ W2.heap.size ≤ k) v l :=
  Kd.R_lower (Kd.R_mono (Kd.R_bound hr) (fun k hk => .inr (Nat.le_trans hW hk.2.1))) (Nat.le_trans h0 hW)
theorem take_new {A4 A5 : Option Addr} {n4 n5 c4 c5 : Nat} (h4 : kW.R 95 W2 w0.heap.size oki (.slice A4 n4 c4) y.waits) (h5 : (Kd.int .i64).R 3 W2 w0.heap.size oki (.slice A5 n5 c5) y.round) (hB2 : Below w0.heap.size w0 W2) (hl4 : y.waits.length ≤ 1000) (hl5 : y.round.length ≤ 1000) (t s : Int) :
    ∀ W, Below W2.heap.size W2 W → Calls Try.prog 104 #[.agg #[.bool y.held, .int .i64 y.owner, .int .i64 y.socket, .int .i64 y.passes, .slice A4 n4 c4, .slice A5 n5 c5], .int .i64 t, .int .i64 s] W fun e w' => ∃ u4 u5, e = .returned (.tuple #[.agg (rC (rTake y t s).1 u4 u5), .bool (rTake y t s).2.1, .int .i64 (rTake y t s).2.2]) ∧ NewAt w0 W2 w' oki (rTake y t s).1 u4 u5 ∧ Below W.heap.size W w' := by
  intro W hW
  obtain ⟨e4, g4, r4⟩ := Kd.R_reads' (Kd.R_below h4 hW)
  obtain ⟨e5, g5, r5⟩ := Kd.R_reads' (Kd.R_below h5 hW)
  subst e4
  subst e5
  refine (rtake_calls y t s A4 A5 c4 c5 W r4 r5 g4 g5 hl4 hl5).mono ?_
  rintro e w' ⟨v4, v5, rfl, q4, q5, hb⟩
  have hb2 := bel_trans hW hb
  refine ⟨v4, v5, rfl, ⟨fun _ => False, Kept.of_below hb2 _, hB2.trans (hb2.mono hB2.size), fun _ q => q.elim, ?_, ?_⟩, hb⟩
  · rcases q4 with ⟨rfl, e⟩ | q
    · rw [e]; exact Kd.R_mono (Kd.R_below h4 hb2) (fun _ q => .inl q)
    · exact up_to q hB2.size hW.size
  · rcases q5 with ⟨rfl, e⟩ | q
    · rw [e]; exact Kd.R_mono (Kd.R_below h5 hb2) (fun _ q => .inl q)
    · exact up_to q hB2.size hW.size
theorem give_new {A4 A5 : Option Addr} {n4 n5 c4 c5 : Nat} (h4 : kW.R 95 W2 w0.heap.size oki (.slice A4 n4 c4) y.waits) (h5 : (Kd.int .i64).R 3 W2 w0.heap.size oki (.slice A5 n5 c5) y.round) (hB2 : Below w0.heap.size w0 W2) (hl4 : y.waits.length ≤ 1000) (hl5 : y.round.length ≤ 1000) (hw : y.waits = [] ∨ y.round ≠ []) (hp0 : 0 ≤ y.passes ∧ y.passes ≤ 1000000) (t : Int) :
    ∀ W, Below W2.heap.size W2 W → Calls Try.prog 105 #[.agg #[.bool y.held, .int .i64 y.owner, .int .i64 y.socket, .int .i64 y.passes, .slice A4 n4 c4, .slice A5 n5 c5], .int .i64 t] W fun e w' => ∃ u4 u5, e = .returned (.tuple #[.agg (rC (rGive y t).1 u4 u5), .int .i64 (rGive y t).2.1, .bool (rGive y t).2.2.1, .int .i64 (rGive y t).2.2.2]) ∧ NewAt w0 W2 w' oki (rGive y t).1 u4 u5 ∧ Stays W2 W w' := by
  intro W hW
  have h4W := Kd.R_below h4 hW
  have h5W := Kd.R_below h5 hW
  have e4 := (Kd.R_reads' h4W).1
  have g4 := (Kd.R_reads' h4W).2.1
  have e5 := (Kd.R_reads' h5W).1
  subst e4
  subst e5
  have hlt : ∀ k, some k = (Value.slice A5 y.round.length c5).ownBlock → k < W2.heap.size := fun k q => Kd.R_lt h5 k q.symm
  have hsep : ∀ {V' : World} {P' : Nat → Prop}, (∀ k, P' k → some k = (Value.slice A5 y.round.length c5).ownBlock) → Kept W V' P' → kW.R 95 V' w0.heap.size oki (.slice A4 y.waits.length c4) y.waits := by
    intro V' P' hP' hK
    refine Kd.R_mono (Kd.R_move (Kd.R_bound h4W) (fun k q => ?_)) (fun _ q => q.1)
    obtain ⟨_, _, hk, r, hr, cells, hc⟩ := q
    obtain rfl : r = 95 := by
      rcases List.mem_cons.1 hr with hr | hr
      · exact hr
      · exact absurd hr (by simp [kW, Kd.pair, Kd.int, Kd.scalar])
    exact hK.2 k hk (fun p => Kd.R_ne h5W hc (by decide) (hP' k p))
  refine (rgive_calls w0 W (hB2.trans (hW.mono hB2.size)) y (fun k => some k = (Value.slice A5 y.round.length c5).ownBlock) (fun k q => Nat.lt_of_lt_of_le (hlt k q) hW.size) t A4 A5 c4 c5 (fun W_ hK => ?_) g4 (Kd.R_tight rfl h5W) hl4 hl5 hw hp0).mono ?_
  · have := (Kd.R_reads' (R_ofW.2 (hsep (fun _ q => q) hK))).2.2
    exact this
  rintro e w' ⟨v4, v5, rfl, q4, q5, hb, hK⟩
  have hoki : ∀ k, some k = (Value.slice A5 y.round.length c5).ownBlock → oki k := fun k q => h5.1 k q.symm
  have hK2 : Kept W2 w' (fun k => some k = (Value.slice A5 y.round.length c5).ownBlock) := (Kept.of_below hW _).then_ hK (fun k q => .inl q)
  have hup : ∀ k, (some k = (Value.slice A5 y.round.length c5).ownBlock ∨ W.heap.size ≤ k) → (oki k ∨ W2.heap.size ≤ k) := fun k q => q.imp (hoki k) (Nat.le_trans hW.size)
  refine ⟨v4, v5, rfl, ⟨_, hK2, hb, fun k q => ⟨hoki k q, Kd.R_typed h5 k q.symm⟩, ?_, Kd.R_mono q5 hup⟩, fun k h1 h2 => hK.2 k h2 (fun q => absurd (hlt k q) (Nat.not_lt.2 h1))⟩
  rcases q4 with ⟨rfl, e⟩ | q
  · rw [e]; exact Kd.R_mono (hsep (fun _ q => q) hK) (fun _ q => .inl q)
  · exact Kd.R_mono (R_ofW.1 q) hup
end
end Go.Proofs.Ytgiimdoabkcoaaa.Co

/-
One thing is done to both, walked.
-/
namespace Go.Proofs.Ytgiimdoabkcoaaa.Co
set_option linter.unusedVariables false
set_option linter.unusedSimpArgs false
open Go.RowKit Go.Proofs.YtgiimdoabkcoaaaW.PrintWords Go.Proofs.YtgiimdoabkcoaaaW.PrintLast Go.Proofs.YtgiimdoabkcoaaaW.PrintMore
/-- boxes of the caller's stay. -/
def BoxKept (wp w w' : World) : Prop := ∀ (b : Nat) (cs : Array Value), wp.heap.size ≤ b → w.heap[b]? = some (.cells cs 90 (0, 0)) → w'.heap[b]? = some (.cells cs 90 (0, 0))
def DoPost (w0 wp w : World) (h lb xb m cx n : Nat) (e : Ending) (w' : World) : Prop := e = .returned (.bool true) ∧ (∃ xs ys, PS w0 w' h lb xb m cx xs ys ∧ PIs (n + 1) m xs ys) ∧ BoxKept wp w w'
theorem PS.xlt {w0 w : World} {h lb xb m cx : Nat} {xs : List LS} {ys : List DL} (c : PS w0 w h lb xb m cx xs ys) : xb < w.heap.size := by
  obtain ⟨F, G, L, s, hF, hG, h0⟩ := c
  exact Kd.S_lt s xb rfl
theorem box_below {wp w O w' : World} (hbO : Below w.heap.size w O) (hb : Below O.heap.size O w') : BoxKept wp w w' := fun b cs h1 h2 =>
  (hb.block b (Nat.lt_of_lt_of_le (Array.getElem?_eq_some_iff.1 h2).1 hbO.size)).trans ((hbO.block b (Array.getElem?_eq_some_iff.1 h2).1).trans h2)
theorem box_chain {w0 wp w O w2 V : World} {oki : Nat → Prop} {z : DL} {u4 u5 a0 a1 a2 a3 a4 a5 : Value} {xb o : Nat} (hbO : Below w.heap.size w O) (hs : Stays wp O w2) (hN : NewAt w0 w2 V oki z u4 u5) (hx : xb < wp.heap.size) : BoxKept wp w (put6 V xb o a0 a1 a2 a3 a4 a5) := fun b cs h1 h2 => by
  have hlt := (Array.getElem?_eq_some_iff.1 h2).1
  have e1 := (hbO.block b hlt).trans h2
  have e2 := (hs b h1 (Nat.lt_of_lt_of_le hlt hbO.size)).trans e1
  exact (put6_other (by omega)).trans (hN.block e2 (by decide))
section
variable {w0 wp w O : World} {h lb xb m cx n : Nat} {xs : List LS} {ys : List DL}
set_option maxRecDepth 100000 in
set_option maxHeartbeats 4000000 in
theorem do_out (c : PS w0 wp h lb xb m cx xs ys) (hbw : Below wp.heap.size wp w) (hI : PIs n m xs ys) (ok ol ot os : Int) (hk : 0 ≤ ok ∧ ok ≤ 18446744073709551615) (hl : ¬ (0 ≤ ol ∧ ol < (m : Int))) :
    Calls Try.prog 55 #[.pointer (some ⟨h, 0, none⟩), .slice (some ⟨xb, 0, none⟩) m cx, .agg #[.int .u64 ok, .int .i64 ol, .int .i64 ot, .int .i64 os]] w (DoPost w0 wp w h lb xb m cx n) := by
  obtain ⟨O, hO⟩ : ∃ O, w.alloc (.cells #[.int .u64 ok, .int .i64 ol, .int .i64 ot, .int .i64 os] 90) = O := ⟨_, rfl⟩
  have hbO1 : Below w.heap.size w O := hO ▸ (Below.refl w.heap.size w).alloc (Nat.le_refl _) _
  have hbO : Below wp.heap.size wp O := bel_trans hbw hbO1
  have HX := Lib.hid c.xlt
  have HBO1 := Lib.hid hbO1
  have HWP := Lib.hid hbw.size
  clear hbO1
  have hblk : O.heap[w.heap.size]? = some (.cells #[.int .u64 ok, .int .i64 ol, .int .i64 ot, .int .i64 os] 90 (0, 0)) := by rw [← hO]; exact (MapKept.heap_alloc w _).1
  have g0 : O.cell? ⟨w.heap.size, 0, none⟩ = some (.int .u64 ok) := cell_of_heap hblk rfl
  have g1 : O.cell? ⟨w.heap.size, 1, none⟩ = some (.int .i64 ol) := cell_of_heap hblk rfl
  have g2 : O.cell? ⟨w.heap.size, 2, none⟩ = some (.int .i64 ot) := cell_of_heap hblk rfl
  have g3 : O.cell? ⟨w.heap.size, 3, none⟩ = some (.int .i64 os) := cell_of_heap hblk rfl
  have cO := c.behind hbO
  have hT : ∀ t s, Calls Try.prog 48 #[.pointer (some ⟨h, 0, none⟩), .int .i64 ol, .int .i64 t, .int .i64 s] O (TakeQ O false 3) := fun t s => by obtain ⟨F, L⟩ := cO.locks; exact take_none L (by rw [hI.1]; exact hl) t s
  have hG : ∀ t, Calls Try.prog 50 #[.pointer (some ⟨h, 0, none⟩), .int .i64 ol, .int .i64 t] O (GiveQ O 0 false 3) := fun t => by obtain ⟨F, L⟩ := cO.locks; exact give_none L (by rw [hI.1]; exact hl) t
  have HT := Lib.hid hT
  have HG := Lib.hid hG
  have HP : Hid (∀ w', Below O.heap.size O w' → DoPost w0 wp w h lb xb m cx n (.returned (.bool true)) w') := Lib.hid (fun w' hb => ⟨rfl, ⟨xs, ys, cO.behind hb, hI.more⟩, box_below HBO1.out hb⟩)
  obtain ⟨Q, hQ⟩ : ∃ Q, DoPost w0 wp w h lb xb m cx n = Q := ⟨_, rfl⟩
  rw [hQ] at HP ⊢
  obtain ⟨hk0, hk1⟩ := hk
  have hcase : ol < 0 ∨ (0 ≤ ol ∧ ¬ ol < (m : Int)) := by omega
  clear hT hG cO hblk hbO c hI hQ hl hbw
  go_enter Try.func55, Try.ntmps55
  by_cases h5 : ok % 5 < 2
  · rcases hcase with q | ⟨q, q2⟩
    · have q1 : ¬ (0 ≤ ol) := by omega
      go_wp2_with (first
        | (go_at_call 48; refine (HT.out _ _).mono ?_; rintro e w1 ⟨rfl, hb1⟩; have HB1 := Lib.hid hb1; clear hb1; unfold tkV)
        | fail)
      exact HP.out _ HB1.out
    · go_wp2_with (first
        | (go_at_call 48; refine (HT.out _ _).mono ?_; rintro e w1 ⟨rfl, hb1⟩; have HB1 := Lib.hid hb1; clear hb1; unfold tkV)
        | fail)
      exact HP.out _ HB1.out
  · rcases hcase with q | ⟨q, q2⟩
    · have q1 : ¬ (0 ≤ ol) := by omega
      go_wp2_with (first
        | (go_at_call 50; refine (HG.out _).mono ?_; rintro e w1 ⟨rfl, hb1⟩; have HB1 := Lib.hid hb1; clear hb1; unfold gvV)
        | fail)
      exact HP.out _ HB1.out
    · go_wp2_with (first
        | (go_at_call 50; refine (HG.out _).mono ?_; rintro e w1 ⟨rfl, hb1⟩; have HB1 := Lib.hid hb1; clear hb1; unfold gvV)
        | fail)
      exact HP.out _ HB1.out
set_option maxRecDepth 100000 in
set_option maxHeartbeats 4000000 in
theorem do_give (c : PS w0 wp h lb xb m cx xs ys) (hbw : Below wp.heap.size wp w) (hI : PIs n m xs ys) (hn : n ≤ 200) (ok : Int) (i : Nat) (ot os : Int) (hk : 0 ≤ ok ∧ ok ≤ 18446744073709551615) (hi : i < m) (h5 : ¬ ok % 5 < 2) :
    Calls Try.prog 55 #[.pointer (some ⟨h, 0, none⟩), .slice (some ⟨xb, 0, none⟩) m cx, .agg #[.int .u64 ok, .int .i64 (i : Int), .int .i64 ot, .int .i64 os]] w (DoPost w0 wp w h lb xb m cx n) := by
  obtain ⟨O, hO⟩ : ∃ O, w.alloc (.cells #[.int .u64 ok, .int .i64 (i : Int), .int .i64 ot, .int .i64 os] 90) = O := ⟨_, rfl⟩
  have hbO1 : Below w.heap.size w O := hO ▸ (Below.refl w.heap.size w).alloc (Nat.le_refl _) _
  have hbO : Below wp.heap.size wp O := bel_trans hbw hbO1
  have HX := Lib.hid c.xlt
  have HBO1 := Lib.hid hbO1
  have HWP := Lib.hid hbw.size
  clear hbO1
  have hblk : O.heap[w.heap.size]? = some (.cells #[.int .u64 ok, .int .i64 (i : Int), .int .i64 ot, .int .i64 os] 90 (0, 0)) := by rw [← hO]; exact (MapKept.heap_alloc w _).1
  have g0 : O.cell? ⟨w.heap.size, 0, none⟩ = some (.int .u64 ok) := cell_of_heap hblk rfl
  have g1 : O.cell? ⟨w.heap.size, 1, none⟩ = some (.int .i64 (i : Int)) := cell_of_heap hblk rfl
  have g2 : O.cell? ⟨w.heap.size, 2, none⟩ = some (.int .i64 ot) := cell_of_heap hblk rfl
  have hix : i < xs.length := by rw [hI.1]; exact hi
  have hpi := hI.2.2 i hi
  obtain ⟨_, _, _, _, _, _, _, hc0, -⟩ := ref_at (c.behind hbO) hi
  have f1 : O.cell? ⟨xb, i * 6 + 1, none⟩ = some (.int .i64 (ys.getD i dl0).owner) := hc0 1 (by omega)
  obtain ⟨T, hT⟩ : ∃ T, (ok % 5 < 4 ∧ (ys.getD i dl0).owner = T) ∨ (¬ ok % 5 < 4 ∧ T = ot) := by
    by_cases q : ok % 5 < 4
    · exact ⟨_, .inl ⟨q, rfl⟩⟩
    · exact ⟨_, .inr ⟨q, rfl⟩⟩
  have hgv := hpi.give (t := T)
  have hg := give_ps2 c hbO hix (hpi.sm.more (by omega)) hpi.ok (by have := hpi.ps; omega) T
  have hset := PIs.set hI hi hgv.1
  rw [hgv.2] at hg
  have hwl : (ys.getD i dl0).waits.length ≤ 1000 := Nat.le_trans hpi.wl (by omega)
  have hrl : (ys.getD i dl0).round.length ≤ 1000 := Nat.le_trans hpi.rl (by omega)
  have hwr := hpi.wr
  have hps : 0 ≤ (ys.getD i dl0).passes ∧ (ys.getD i dl0).passes ≤ 1000000 := by rw [← hpi.tie.passes]; exact ⟨hpi.ok.pass, by have := hpi.ps; omega⟩
  have hb0 := c.bel
  have HRef : Hid (∀ W2 xs1, PS w0 W2 h lb xb m cx xs1 ys → _) := Lib.hid (fun W2 xs1 (q : PS w0 W2 h lb xb m cx xs1 ys) => ref_at q hi)
  obtain ⟨y, hy⟩ : ∃ y, ys.getD i dl0 = y := ⟨_, rfl⟩
  rw [hy] at f1 hT hg hset hwl hrl hwr hps HRef
  obtain ⟨xs1, hx1⟩ : ∃ xs1, xs.set i (giveP (xs.getD i ls0) T).1 = xs1 := ⟨_, rfl⟩
  rw [hx1] at hg hset
  have HNew : Hid (∀ W2 (oki : Nat → Prop) A4 A5 n4 n5 c4 c5, Below w0.heap.size w0 W2 → kW.R 95 W2 w0.heap.size oki (.slice A4 n4 c4) y.waits → (Kd.int .i64).R 3 W2 w0.heap.size oki (.slice A5 n5 c5) y.round → _) := Lib.hid (fun W2 oki A4 A5 n4 n5 c4 c5 hB r4 r5 => give_new (y := y) (oki := oki) (A4 := A4) (A5 := A5) (n4 := n4) (n5 := n5) (c4 := c4) (c5 := c5) r4 r5 hB hwl hrl hwr hps T)
  obtain ⟨rr, hrr⟩ : ∃ rr, rGive y T = rr := ⟨_, rfl⟩
  rw [hrr] at hg hset HNew
  obtain ⟨z, nx, b, er⟩ := rr
  dsimp only at hg hset HNew
  unfold rC at HNew
  unfold gvV at hg
  have HG := Lib.hid hg
  have HP : Hid (∀ w', PS w0 w' h lb xb m cx xs1 (ys.set i z) → BoxKept wp w w' → DoPost w0 wp w h lb xb m cx n (.returned (.bool true)) w') := Lib.hid (fun w' hp hx => ⟨rfl, ⟨_, _, hp, hset⟩, hx⟩)
  obtain ⟨Q, hQ⟩ : ∃ Q, DoPost w0 wp w h lb xb m cx n = Q := ⟨_, rfl⟩
  rw [hQ] at HP ⊢
  obtain ⟨hk0, hk1⟩ := hk
  have hi0 : (0 : Int) ≤ (i : Int) := by omega
  have hi1 : (i : Int) < (m : Int) := by omega
  have HBlk := Lib.hid hblk
  have HO := Lib.hid hbO.size
  clear hg hset hQ hgv hpi hwl hrl hwr hps hb0 hx1 hrr hy hblk hbO hc0 hix c hI hbw
  go_enter Try.func55, Try.ntmps55
  rcases hT with ⟨h4, rfl⟩ | ⟨h4, rfl⟩
  all_goals
    go_upto_region 15 with (first
      | (go_at_call 50; refine (HG.out).mono ?_; rintro e w2 ⟨rfl, hp2, hs2⟩; have HP2 := Lib.hid hp2; have HS2 := Lib.hid hs2; clear hp2 hs2)
      | fail)
    obtain ⟨oki, A4, A5, n4, n5, c4, c5, hcs, r4, r5, hcl⟩ := HRef.out w2 xs1 HP2.out
    have HNw := Lib.hid (HNew.out w2 oki A4 A5 n4 n5 c4 c5 HP2.out.bel r4 r5 w2 (bel_refl _))
    have HCl := Lib.hid hcl
    have hb2 := (HS2.out w.heap.size HWP.out (Array.getElem?_eq_some_iff.1 HBlk.out).1).trans HBlk.out
    have HB2 := Lib.hid hb2
    have o1 : w2.cell? ⟨w.heap.size, 1, none⟩ = some (.int .i64 (i : Int)) := cell_of_heap hb2 rfl
    have d0 : w2.cell? ⟨xb, i * 6, none⟩ = some (.bool y.held) := hcs 0 (by omega)
    have d1 : w2.cell? ⟨xb, i * 6 + 1, none⟩ = some (.int .i64 y.owner) := hcs 1 (by omega)
    have d2 : w2.cell? ⟨xb, i * 6 + 2, none⟩ = some (.int .i64 y.socket) := hcs 2 (by omega)
    have d3 : w2.cell? ⟨xb, i * 6 + 3, none⟩ = some (.int .i64 y.passes) := hcs 3 (by omega)
    have d4 : w2.cell? ⟨xb, i * 6 + 4, none⟩ = some (.slice A4 n4 c4) := hcs 4 (by omega)
    have d5 : w2.cell? ⟨xb, i * 6 + 5, none⟩ = some (.slice A5 n5 c5) := hcs 5 (by omega)
    clear g0 g1 g2 f1 hcs r4 r5 hcl hb2 HNew HRef HG hO
    go_upto_region 16 with (first
      | (go_at_call 105; refine (HNw.out).mono ?_; rintro e w3 ⟨u4, u5, rfl, hn3, hs3⟩; obtain ⟨⟨B4, m4, k4, e4⟩, ⟨B5, m5, k5, e5⟩⟩ := hn3.slices; subst e4; subst e5; have HN3 := Lib.hid hn3; clear hn3 hs3)
      | fail)
    obtain ⟨T, hT⟩ : ∃ T, w3.heap.size = T := ⟨_, rfl⟩
    obtain ⟨V, hV⟩ : ∃ V, w3.alloc (.cells #[.bool z.held, .int .i64 z.owner, .int .i64 z.socket, .int .i64 z.passes, .slice B4 m4 k4, .slice B5 m5 k5] 156) = V := ⟨_, rfl⟩
    have hbV : Below w3.heap.size w3 V := hV ▸ (Below.refl w3.heap.size w3).alloc (Nat.le_refl _) _
    have hTb : V.heap[T]? = some (.cells #[.bool z.held, .int .i64 z.owner, .int .i64 z.socket, .int .i64 z.passes, .slice B4 m4 k4, .slice B5 m5 k5] 156 (0, 0)) := by rw [← hT, ← hV]; exact (MapKept.heap_alloc w3 _).1
    have HNV := Lib.hid (HN3.out.behind hbV)
    obtain ⟨hcs, hfz, hps⟩ := HCl.out V z _ _ HNV.out
    have hb3 := HN3.out.block HB2.out (by decide)
    have o1 : V.cell? ⟨w.heap.size, 1, none⟩ = some (.int .i64 (i : Int)) := bel_cell hbV (cell_of_heap hb3 rfl)
    have HPs := Lib.hid hps
    have d0 : V.cell? ⟨xb, i * 6, none⟩ = some (.bool y.held) := hcs 0 (by omega)
    have d1 : V.cell? ⟨xb, i * 6 + 1, none⟩ = some (.int .i64 y.owner) := hcs 1 (by omega)
    have d2 : V.cell? ⟨xb, i * 6 + 2, none⟩ = some (.int .i64 y.socket) := hcs 2 (by omega)
    have d3 : V.cell? ⟨xb, i * 6 + 3, none⟩ = some (.int .i64 y.passes) := hcs 3 (by omega)
    have d4 : V.cell? ⟨xb, i * 6 + 4, none⟩ = some (.slice A4 n4 c4) := hcs 4 (by omega)
    have d5 : V.cell? ⟨xb, i * 6 + 5, none⟩ = some (.slice A5 n5 c5) := hcs 5 (by omega)
    have x0 : V.frozen? ⟨xb, i * 6, none⟩ = false := hfz _
    have x1 : V.frozen? ⟨xb, i * 6 + 1, none⟩ = false := hfz _
    have x2 : V.frozen? ⟨xb, i * 6 + 2, none⟩ = false := hfz _
    have x3 : V.frozen? ⟨xb, i * 6 + 3, none⟩ = false := hfz _
    have x4 : V.frozen? ⟨xb, i * 6 + 4, none⟩ = false := hfz _
    have x5 : V.frozen? ⟨xb, i * 6 + 5, none⟩ = false := hfz _
    have t0 : V.cell? ⟨T, 0, none⟩ = some (.bool z.held) := cell_of_heap hTb rfl
    have t1 : V.cell? ⟨T, 1, none⟩ = some (.int .i64 z.owner) := cell_of_heap hTb rfl
    have t2 : V.cell? ⟨T, 2, none⟩ = some (.int .i64 z.socket) := cell_of_heap hTb rfl
    have t3 : V.cell? ⟨T, 3, none⟩ = some (.int .i64 z.passes) := cell_of_heap hTb rfl
    have t4 : V.cell? ⟨T, 4, none⟩ = some (.slice B4 m4 k4) := cell_of_heap hTb rfl
    have t5 : V.cell? ⟨T, 5, none⟩ = some (.slice B5 m5 k5) := cell_of_heap hTb rfl
    rw [hV, hT]
    clear hT hV hbV hTb hcs hfz hps hb3
    go_wp2
    exact HP.out _ HPs.out (box_chain HBO1.out HS2.out HNV.out HX.out)
set_option maxRecDepth 100000 in
set_option maxHeartbeats 4000000 in
theorem do_take (c : PS w0 wp h lb xb m cx xs ys) (hbw : Below wp.heap.size wp w) (hI : PIs n m xs ys) (hn : n ≤ 200) (ok : Int) (i : Nat) (ot os : Int) (hk : 0 ≤ ok ∧ ok ≤ 18446744073709551615) (hi : i < m) (h5 : ok % 5 < 2) :
    Calls Try.prog 55 #[.pointer (some ⟨h, 0, none⟩), .slice (some ⟨xb, 0, none⟩) m cx, .agg #[.int .u64 ok, .int .i64 (i : Int), .int .i64 ot, .int .i64 os]] w (DoPost w0 wp w h lb xb m cx n) := by
  obtain ⟨O, hO⟩ : ∃ O, w.alloc (.cells #[.int .u64 ok, .int .i64 (i : Int), .int .i64 ot, .int .i64 os] 90) = O := ⟨_, rfl⟩
  have hbO1 : Below w.heap.size w O := hO ▸ (Below.refl w.heap.size w).alloc (Nat.le_refl _) _
  have hbO : Below wp.heap.size wp O := bel_trans hbw hbO1
  have HX := Lib.hid c.xlt
  have HBO1 := Lib.hid hbO1
  have HWP := Lib.hid hbw.size
  clear hbO1
  have hblk : O.heap[w.heap.size]? = some (.cells #[.int .u64 ok, .int .i64 (i : Int), .int .i64 ot, .int .i64 os] 90 (0, 0)) := by rw [← hO]; exact (MapKept.heap_alloc w _).1
  have g0 : O.cell? ⟨w.heap.size, 0, none⟩ = some (.int .u64 ok) := cell_of_heap hblk rfl
  have g1 : O.cell? ⟨w.heap.size, 1, none⟩ = some (.int .i64 (i : Int)) := cell_of_heap hblk rfl
  have g2 : O.cell? ⟨w.heap.size, 2, none⟩ = some (.int .i64 ot) := cell_of_heap hblk rfl
  have g3 : O.cell? ⟨w.heap.size, 3, none⟩ = some (.int .i64 os) := cell_of_heap hblk rfl
  have hix : i < xs.length := by rw [hI.1]; exact hi
  have hpi := hI.2.2 i hi
  have hgv := hpi.take (t := ot) (s := os)
  have hg := take_ps2 c hbO hix (hpi.sm.more (by omega)) ot os
  have hset := PIs.set hI hi hgv.1
  rw [hgv.2] at hg
  have hwl : (ys.getD i dl0).waits.length ≤ 1000 := Nat.le_trans hpi.wl (by omega)
  have hrl : (ys.getD i dl0).round.length ≤ 1000 := Nat.le_trans hpi.rl (by omega)
  have HRef : Hid (∀ W2 xs1, PS w0 W2 h lb xb m cx xs1 ys → _) := Lib.hid (fun W2 xs1 (q : PS w0 W2 h lb xb m cx xs1 ys) => ref_at q hi)
  obtain ⟨y, hy⟩ : ∃ y, ys.getD i dl0 = y := ⟨_, rfl⟩
  rw [hy] at hg hset hwl hrl HRef
  obtain ⟨xs1, hx1⟩ : ∃ xs1, xs.set i (takeP (xs.getD i ls0) ot os).1 = xs1 := ⟨_, rfl⟩
  rw [hx1] at hg hset
  have HNew : Hid (∀ W2 (oki : Nat → Prop) A4 A5 n4 n5 c4 c5, Below w0.heap.size w0 W2 → kW.R 95 W2 w0.heap.size oki (.slice A4 n4 c4) y.waits → (Kd.int .i64).R 3 W2 w0.heap.size oki (.slice A5 n5 c5) y.round → _) := Lib.hid (fun W2 oki A4 A5 n4 n5 c4 c5 hB r4 r5 => take_new (y := y) (oki := oki) (A4 := A4) (A5 := A5) (n4 := n4) (n5 := n5) (c4 := c4) (c5 := c5) r4 r5 hB hwl hrl ot os)
  obtain ⟨rr, hrr⟩ : ∃ rr, rTake y ot os = rr := ⟨_, rfl⟩
  rw [hrr] at hg hset HNew
  obtain ⟨z, b, er⟩ := rr
  dsimp only at hg hset HNew
  unfold rC at HNew
  unfold tkV at hg
  have HG := Lib.hid hg
  have HP : Hid (∀ w', PS w0 w' h lb xb m cx xs1 (ys.set i z) → BoxKept wp w w' → DoPost w0 wp w h lb xb m cx n (.returned (.bool true)) w') := Lib.hid (fun w' hp hx => ⟨rfl, ⟨_, _, hp, hset⟩, hx⟩)
  obtain ⟨Q, hQ⟩ : ∃ Q, DoPost w0 wp w h lb xb m cx n = Q := ⟨_, rfl⟩
  rw [hQ] at HP ⊢
  obtain ⟨hk0, hk1⟩ := hk
  have hi0 : (0 : Int) ≤ (i : Int) := by omega
  have hi1 : (i : Int) < (m : Int) := by omega
  have HBlk := Lib.hid hblk
  clear hg hset hQ hgv hpi hwl hrl hx1 hrr hy hblk hbO hix c hI hbw
  go_enter Try.func55, Try.ntmps55
  go_upto_region 6 with (first
    | (go_at_call 48; refine (HG.out).mono ?_; rintro e w2 ⟨rfl, hp2, hs2⟩; have HP2 := Lib.hid hp2; have HS2 := Lib.hid hs2; clear hp2 hs2)
    | fail)
  obtain ⟨oki, A4, A5, n4, n5, c4, c5, hcs, r4, r5, hcl⟩ := HRef.out w2 xs1 HP2.out
  have HNw := Lib.hid (HNew.out w2 oki A4 A5 n4 n5 c4 c5 HP2.out.bel r4 r5)
  have HCl := Lib.hid hcl
  have HW0 := Lib.hid HP2.out.bel.size
  have hb2 := (HS2.out w.heap.size HWP.out (Array.getElem?_eq_some_iff.1 HBlk.out).1).trans HBlk.out
  have HB2 := Lib.hid hb2
  have HKeep : Hid (∀ W, Below w2.heap.size w2 W → Below w2.heap.size w2 W ∧ W.cell? ⟨w.heap.size, 1, none⟩ = some (.int .i64 (i : Int)) ∧ W.cell? ⟨w.heap.size, 2, none⟩ = some (.int .i64 ot) ∧ W.cell? ⟨w.heap.size, 3, none⟩ = some (.int .i64 os) ∧ W.cell? ⟨xb, i * 6, none⟩ = some (.bool y.held) ∧ W.cell? ⟨xb, i * 6 + 1, none⟩ = some (.int .i64 y.owner) ∧ W.cell? ⟨xb, i * 6 + 2, none⟩ = some (.int .i64 y.socket) ∧ W.cell? ⟨xb, i * 6 + 3, none⟩ = some (.int .i64 y.passes) ∧ W.cell? ⟨xb, i * 6 + 4, none⟩ = some (.slice A4 n4 c4) ∧ W.cell? ⟨xb, i * 6 + 5, none⟩ = some (.slice A5 n5 c5)) := Lib.hid (fun W hb => ⟨hb, bel_cell hb (cell_of_heap hb2 rfl), bel_cell hb (cell_of_heap hb2 rfl), bel_cell hb (cell_of_heap hb2 rfl), bel_cell hb (hcs 0 (by omega)), bel_cell hb (hcs 1 (by omega)), bel_cell hb (hcs 2 (by omega)), bel_cell hb (hcs 3 (by omega)), bel_cell hb (hcs 4 (by omega)), bel_cell hb (hcs 5 (by omega))⟩)
  clear g0 g1 g2 g3 hcs r4 r5 hcl hb2 HNew HRef HG hO
  refine wp_region_held_drew (S := (fun W => Below w2.heap.size w2 W ∧ W.cell? ⟨w.heap.size, 1, none⟩ = some (.int .i64 (i : Int)) ∧ W.cell? ⟨w.heap.size, 2, none⟩ = some (.int .i64 ot) ∧ W.cell? ⟨w.heap.size, 3, none⟩ = some (.int .i64 os) ∧ W.cell? ⟨xb, i * 6, none⟩ = some (.bool y.held) ∧ W.cell? ⟨xb, i * 6 + 1, none⟩ = some (.int .i64 y.owner) ∧ W.cell? ⟨xb, i * 6 + 2, none⟩ = some (.int .i64 y.socket) ∧ W.cell? ⟨xb, i * 6 + 3, none⟩ = some (.int .i64 y.passes) ∧ W.cell? ⟨xb, i * 6 + 4, none⟩ = some (.slice A4 n4 c4) ∧ W.cell? ⟨xb, i * 6 + 5, none⟩ = some (.slice A5 n5 c5))) (by kernel_rfl) (HKeep.out _ (bel_drew (bel_refl _))) (fun hHeld => ?_)
  refine wpAnyH_take (i := 0) (v := ?tv00) rfl (by kernel_rfl) (by kernel_rfl) (by kernel_rfl) (fun _ _ _ h => h) (Or.inl ⟨by rfl, ?ty00⟩) (by assumption) ?tr00
  case ty00 => (intro w hSw; (try dsimp only at hSw); (go_simp <;> with_reducible rfl))
  try simp only [Act.put, List.getElem_toArray, List.getElem_cons_succ, List.getElem_cons_zero, List.setIfInBounds_toArray, List.set_cons_zero, List.set_cons_succ]
  refine wpAnyH_take (i := 1) (v := ?tv01) rfl (by kernel_rfl) (by kernel_rfl) (by kernel_rfl) (fun _ _ _ h => h) (Or.inl ⟨by rfl, ?ty01⟩) (by assumption) ?tr01
  case ty01 => (intro w hSw; (try dsimp only at hSw); (go_simp <;> with_reducible rfl))
  try simp only [Act.put, List.getElem_toArray, List.getElem_cons_succ, List.getElem_cons_zero, List.setIfInBounds_toArray, List.set_cons_zero, List.set_cons_succ]
  refine wpAnyH_take (i := 2) (v := ?tv02) rfl (by kernel_rfl) (by kernel_rfl) (by kernel_rfl) (fun _ _ _ h => h) (Or.inl ⟨by rfl, ?ty02⟩) (by assumption) ?tr02
  case ty02 => (intro w hSw; (try dsimp only at hSw); (go_simp <;> with_reducible rfl))
  try simp only [Act.put, List.getElem_toArray, List.getElem_cons_succ, List.getElem_cons_zero, List.setIfInBounds_toArray, List.set_cons_zero, List.set_cons_succ]
  refine wpAnyH_take (i := 3) (v := ?tv03) rfl (by kernel_rfl) (by kernel_rfl) (by kernel_rfl) (fun _ _ _ h => h) (Or.inl ⟨by rfl, ?ty03⟩) (by assumption) ?tr03
  case ty03 => (intro w hSw; (try dsimp only at hSw); (go_simp <;> with_reducible rfl))
  try simp only [Act.put, List.getElem_toArray, List.getElem_cons_succ, List.getElem_cons_zero, List.setIfInBounds_toArray, List.set_cons_zero, List.set_cons_succ]
  refine wpAnyH_take (i := 4) (v := ?tv04) rfl (by kernel_rfl) (by kernel_rfl) (by kernel_rfl) (fun _ _ _ h => h) (Or.inl ⟨by rfl, ?ty04⟩) (by assumption) ?tr04
  case ty04 => (intro w hSw; (try dsimp only at hSw); (go_simp <;> with_reducible rfl))
  try simp only [Act.put, List.getElem_toArray, List.getElem_cons_succ, List.getElem_cons_zero, List.setIfInBounds_toArray, List.set_cons_zero, List.set_cons_succ]
  refine wpAnyH_take (i := 5) (v := ?tv05) rfl (by kernel_rfl) (by kernel_rfl) (by kernel_rfl) (fun _ _ _ h => h) (Or.inl ⟨by rfl, ?ty05⟩) (by assumption) ?tr05
  case ty05 => (intro w hSw; (try dsimp only at hSw); (go_simp <;> with_reducible rfl))
  try simp only [Act.put, List.getElem_toArray, List.getElem_cons_succ, List.getElem_cons_zero, List.setIfInBounds_toArray, List.set_cons_zero, List.set_cons_succ]
  refine wpAnyH_take (i := 6) (v := ?tv06) rfl (by kernel_rfl) (by kernel_rfl) (by kernel_rfl) (fun _ _ _ h => h) (Or.inl ⟨by rfl, ?ty06⟩) (by assumption) ?tr06
  case ty06 => (intro w hSw; (try dsimp only at hSw); (go_simp <;> with_reducible rfl))
  try simp only [Act.put, List.getElem_toArray, List.getElem_cons_succ, List.getElem_cons_zero, List.setIfInBounds_toArray, List.set_cons_zero, List.set_cons_succ]
  refine wpAnyH_take (i := 7) (v := ?tv07) rfl (by kernel_rfl) (by kernel_rfl) (by kernel_rfl) (fun _ _ _ h => h) (Or.inl ⟨by rfl, ?ty07⟩) (by assumption) ?tr07
  case ty07 => (intro w hSw; (try dsimp only at hSw); (go_simp <;> with_reducible rfl))
  try simp only [Act.put, List.getElem_toArray, List.getElem_cons_succ, List.getElem_cons_zero, List.setIfInBounds_toArray, List.set_cons_zero, List.set_cons_succ]
  refine wpAnyH_take (i := 8) (v := ?tv08) rfl (by kernel_rfl) (by kernel_rfl) (by kernel_rfl) (fun _ _ _ h => h) (Or.inl ⟨by rfl, ?ty08⟩) (by assumption) ?tr08
  case ty08 => (intro w hSw; (try dsimp only at hSw); (go_simp <;> with_reducible rfl))
  try simp only [Act.put, List.getElem_toArray, List.getElem_cons_succ, List.getElem_cons_zero, List.setIfInBounds_toArray, List.set_cons_zero, List.set_cons_succ]
  refine wpAnyH_ready (rs := [9, 14]) (by kernel_rfl) (by simp) ?_
  refine AllReadyH.cons rfl (fun K hK => ?_) (AllReadyH.cons rfl (fun K hK => ?_) AllReadyH.nil)
  · go_simp
    go_at_call 104
    refine (HNw.out _ (And.left (by assumption))).mono ?_
    rintro e w3 ⟨u4, u5, rfl, hn3, hb3⟩
    obtain ⟨⟨B4, m4, k4, e4⟩, ⟨B5, m5, k5, e5⟩⟩ := hn3.slices
    subst e4
    subst e5
    have HN3 := Lib.hid hn3
    have HB3 := Lib.hid hb3
    have HB23 := Lib.hid (bel_trans (And.left hHeld) hb3)
    clear hn3 hb3
    try go_wp2_with (fail)
    refine hK.out _ _ ?_ (fun hHeld => ?_)
    · exact HKeep.out _ HB23.out
    clear hK K
    try simp only [Act.put, List.getElem_toArray, List.getElem_cons_succ, List.getElem_cons_zero, List.setIfInBounds_toArray, List.set_cons_zero, List.set_cons_succ]
    refine wpAnyH_take (i := 10) (v := ?tvA10) rfl (by kernel_rfl) (by kernel_rfl) (by kernel_rfl) (fun _ _ _ h => h) (Or.inl ⟨by rfl, ?tyA10⟩) (by assumption) ?trA10
    case tyA10 => (intro w hSw; (try dsimp only at hSw); (go_simp <;> with_reducible rfl))
    try simp only [Act.put, List.getElem_toArray, List.getElem_cons_succ, List.getElem_cons_zero, List.setIfInBounds_toArray, List.set_cons_zero, List.set_cons_succ]
    refine wpAnyH_take (i := 11) (v := ?tvA11) rfl (by kernel_rfl) (by kernel_rfl) (by kernel_rfl) (fun _ _ _ h => h) (Or.inl ⟨by rfl, ?tyA11⟩) (by assumption) ?trA11
    case tyA11 => (intro w hSw; (try dsimp only at hSw); (go_simp <;> with_reducible rfl))
    try simp only [Act.put, List.getElem_toArray, List.getElem_cons_succ, List.getElem_cons_zero, List.setIfInBounds_toArray, List.set_cons_zero, List.set_cons_succ]
    refine wpAnyH_take (i := 12) (v := ?tvA12) rfl (by kernel_rfl) (by kernel_rfl) (by kernel_rfl) (fun _ _ _ h => h) (Or.inl ⟨by rfl, ?tyA12⟩) (by assumption) ?trA12
    case tyA12 => (intro w hSw; (try dsimp only at hSw); (go_simp <;> with_reducible rfl))
    try simp only [Act.put, List.getElem_toArray, List.getElem_cons_succ, List.getElem_cons_zero, List.setIfInBounds_toArray, List.set_cons_zero, List.set_cons_succ]
    refine wpAnyH_take (i := 13) (v := ?tvA13) rfl (by kernel_rfl) (by kernel_rfl) (by kernel_rfl) (fun _ _ _ h => h) (Or.inl ⟨by rfl, ?tyA13⟩) (by assumption) ?trA13
    case tyA13 => (intro w hSw; (try dsimp only at hSw); (go_simp <;> with_reducible rfl))
    try simp only [Act.put, List.getElem_toArray, List.getElem_cons_succ, List.getElem_cons_zero, List.setIfInBounds_toArray, List.set_cons_zero, List.set_cons_succ]
    refine wpAnyH_ready (rs := [14]) (by kernel_rfl) (by simp) ?_
    refine AllReadyH.cons rfl (fun K hK => ?_) AllReadyH.nil
    go_simp
    refine hK.out _ _ ?_ (fun hHeld => ?_)
    · exact HKeep.out _ (bel_alloc HB23.out _)
    clear hK K
    try simp only [Act.put, List.getElem_toArray, List.getElem_cons_succ, List.getElem_cons_zero, List.setIfInBounds_toArray, List.set_cons_zero, List.set_cons_succ]
    refine wpAnyH_ready (rs := [15]) (by kernel_rfl) (by simp) ?_
    refine AllReadyH.cons rfl (fun K hK => ?_) AllReadyH.nil
    go_simp
    refine hK.out _ _ ?_ (fun hHeld => ?_)
    · exact HKeep.out _ (bel_alloc HB23.out _)
    clear hK K
    try simp only [Act.put, List.getElem_toArray, List.getElem_cons_succ, List.getElem_cons_zero, List.setIfInBounds_toArray, List.set_cons_zero, List.set_cons_succ]
    refine wpAnyH_take (i := 16) (v := ?tvA16) rfl (by kernel_rfl) (by kernel_rfl) (by kernel_rfl) (fun _ _ _ h => h) (Or.inl ⟨by rfl, ?tyA16⟩) (by assumption) ?trA16
    case tyA16 => (intro w hSw; (try dsimp only at hSw); (go_simp <;> with_reducible rfl))
    try simp only [Act.put, List.getElem_toArray, List.getElem_cons_succ, List.getElem_cons_zero, List.setIfInBounds_toArray, List.set_cons_zero, List.set_cons_succ]
    refine wpAnyH_take (i := 17) (v := ?tvA17) rfl (by kernel_rfl) (by kernel_rfl) (by kernel_rfl) (fun _ _ _ h => h) (Or.inl ⟨by rfl, ?tyA17⟩) (by assumption) ?trA17
    case tyA17 => (intro w hSw; (try dsimp only at hSw); (go_simp <;> with_reducible rfl))
    try simp only [Act.put, List.getElem_toArray, List.getElem_cons_succ, List.getElem_cons_zero, List.setIfInBounds_toArray, List.set_cons_zero, List.set_cons_succ]
    refine wpAnyH_done (by kernel_rfl) ?_ _
    obtain ⟨T, hT⟩ : ∃ T, w3.heap.size = T := ⟨_, rfl⟩
    obtain ⟨V, hV⟩ : ∃ V, w3.alloc (.cells #[.bool z.held, .int .i64 z.owner, .int .i64 z.socket, .int .i64 z.passes, .slice B4 m4 k4, .slice B5 m5 k5] 156) = V := ⟨_, rfl⟩
    have hbV : Below w3.heap.size w3 V := hV ▸ (Below.refl w3.heap.size w3).alloc (Nat.le_refl _) _
    have hTb : V.heap[T]? = some (.cells #[.bool z.held, .int .i64 z.owner, .int .i64 z.socket, .int .i64 z.passes, .slice B4 m4 k4, .slice B5 m5 k5] 156 (0, 0)) := by rw [← hT, ← hV]; exact (MapKept.heap_alloc w3 _).1
    have hNV := HN3.out.behind hbV
    rw [hV, hT]
    clear hV hT hbV
    have HNV := Lib.hid hNV
    obtain ⟨hcs, hfz, hps⟩ := HCl.out V z _ _ hNV
    have hb3 := hNV.block HB2.out (by decide)
    have o1 : V.cell? ⟨w.heap.size, 1, none⟩ = some (.int .i64 (i : Int)) := cell_of_heap hb3 rfl
    have HPs := Lib.hid hps
    have d0 : V.cell? ⟨xb, i * 6, none⟩ = some (.bool y.held) := hcs 0 (by omega)
    have d1 : V.cell? ⟨xb, i * 6 + 1, none⟩ = some (.int .i64 y.owner) := hcs 1 (by omega)
    have d2 : V.cell? ⟨xb, i * 6 + 2, none⟩ = some (.int .i64 y.socket) := hcs 2 (by omega)
    have d3 : V.cell? ⟨xb, i * 6 + 3, none⟩ = some (.int .i64 y.passes) := hcs 3 (by omega)
    have d4 : V.cell? ⟨xb, i * 6 + 4, none⟩ = some (.slice A4 n4 c4) := hcs 4 (by omega)
    have d5 : V.cell? ⟨xb, i * 6 + 5, none⟩ = some (.slice A5 n5 c5) := hcs 5 (by omega)
    have x0 : V.frozen? ⟨xb, i * 6, none⟩ = false := hfz _
    have x1 : V.frozen? ⟨xb, i * 6 + 1, none⟩ = false := hfz _
    have x2 : V.frozen? ⟨xb, i * 6 + 2, none⟩ = false := hfz _
    have x3 : V.frozen? ⟨xb, i * 6 + 3, none⟩ = false := hfz _
    have x4 : V.frozen? ⟨xb, i * 6 + 4, none⟩ = false := hfz _
    have x5 : V.frozen? ⟨xb, i * 6 + 5, none⟩ = false := hfz _
    have t0 : V.cell? ⟨T, 0, none⟩ = some (.bool z.held) := cell_of_heap hTb rfl
    have t1 : V.cell? ⟨T, 1, none⟩ = some (.int .i64 z.owner) := cell_of_heap hTb rfl
    have t2 : V.cell? ⟨T, 2, none⟩ = some (.int .i64 z.socket) := cell_of_heap hTb rfl
    have t3 : V.cell? ⟨T, 3, none⟩ = some (.int .i64 z.passes) := cell_of_heap hTb rfl
    have t4 : V.cell? ⟨T, 4, none⟩ = some (.slice B4 m4 k4) := cell_of_heap hTb rfl
    have t5 : V.cell? ⟨T, 5, none⟩ = some (.slice B5 m5 k5) := cell_of_heap hTb rfl
    clear hNV hTb hcs hfz hps hb3 hHeld
    go_wp2
    exact HP.out _ HPs.out (box_chain HBO1.out HS2.out HNV.out HX.out)
  · go_simp
    refine hK.out _ _ ?_ (fun hHeld => ?_)
    · exact HKeep.out _ (bel_alloc (bel_drew (bel_refl _)) _)
    clear hK K
    try simp only [Act.put, List.getElem_toArray, List.getElem_cons_succ, List.getElem_cons_zero, List.setIfInBounds_toArray, List.set_cons_zero, List.set_cons_succ]
    obtain ⟨W4, hW4⟩ : ∃ W4, (w2.alloc (.cells #[.bool false, .int .i64 0, .int .i64 0, .int .i64 0, .slice none 0 0, .slice none 0 0] 156)).drew = W4 := ⟨_, rfl⟩
    have hTb4 : W4.heap[w2.heap.size]? = some (.cells #[.bool false, .int .i64 0, .int .i64 0, .int .i64 0, .slice none 0 0, .slice none 0 0] 156 (0, 0)) := by rw [← hW4]; exact (MapKept.heap_alloc w2 _).1
    rw [hW4] at hHeld ⊢
    have HT4 := Lib.hid hTb4
    clear hW4 hTb4
    refine wpAnyH_ready (rs := [9]) (by kernel_rfl) (by simp) ?_
    refine AllReadyH.cons rfl (fun K hK => ?_) AllReadyH.nil
    go_simp
    go_at_call 104
    refine (HNw.out _ (And.left (by assumption))).mono ?_
    rintro e w3 ⟨u4, u5, rfl, hn3, hb3⟩
    obtain ⟨⟨B4, m4, k4, e4⟩, ⟨B5, m5, k5, e5⟩⟩ := hn3.slices
    subst e4
    subst e5
    have HN3 := Lib.hid hn3
    have HB3 := Lib.hid hb3
    have HB23 := Lib.hid (bel_trans (And.left hHeld) hb3)
    clear hn3 hb3
    try go_wp2_with (fail)
    refine hK.out _ _ ?_ (fun hHeld => ?_)
    · exact HKeep.out _ HB23.out
    clear hK K
    try simp only [Act.put, List.getElem_toArray, List.getElem_cons_succ, List.getElem_cons_zero, List.setIfInBounds_toArray, List.set_cons_zero, List.set_cons_succ]
    have hT3 : w3.heap[w2.heap.size]? = some (.cells #[.bool false, .int .i64 0, .int .i64 0, .int .i64 0, .slice none 0 0, .slice none 0 0] 156 (0, 0)) := (HB3.out.block w2.heap.size (Array.getElem?_eq_some_iff.1 HT4.out).1).trans HT4.out
    have HT3 := Lib.hid hT3
    have s0 : w3.cell? ⟨w2.heap.size, 0, none⟩ = some (.bool false) := cell_of_heap hT3 rfl
    have z0 : w3.frozen? ⟨w2.heap.size, 0, none⟩ = false := fz_of_heap hT3 0
    have s1 : w3.cell? ⟨w2.heap.size, 1, none⟩ = some (.int .i64 0) := cell_of_heap hT3 rfl
    have z1 : w3.frozen? ⟨w2.heap.size, 1, none⟩ = false := fz_of_heap hT3 1
    have s2 : w3.cell? ⟨w2.heap.size, 2, none⟩ = some (.int .i64 0) := cell_of_heap hT3 rfl
    have z2 : w3.frozen? ⟨w2.heap.size, 2, none⟩ = false := fz_of_heap hT3 2
    have s3 : w3.cell? ⟨w2.heap.size, 3, none⟩ = some (.int .i64 0) := cell_of_heap hT3 rfl
    have z3 : w3.frozen? ⟨w2.heap.size, 3, none⟩ = false := fz_of_heap hT3 3
    have s4 : w3.cell? ⟨w2.heap.size, 4, none⟩ = some (.slice none 0 0) := cell_of_heap hT3 rfl
    have z4 : w3.frozen? ⟨w2.heap.size, 4, none⟩ = false := fz_of_heap hT3 4
    have s5 : w3.cell? ⟨w2.heap.size, 5, none⟩ = some (.slice none 0 0) := cell_of_heap hT3 rfl
    have z5 : w3.frozen? ⟨w2.heap.size, 5, none⟩ = false := fz_of_heap hT3 5
    clear hT3
    refine wpAnyH_take (i := 10) (v := ?tvB10) rfl (by kernel_rfl) (by kernel_rfl) (by kernel_rfl) (fun _ _ _ h => h) (Or.inl ⟨by rfl, ?tyB10⟩) (by assumption) ?trB10
    case tyB10 => (intro w hSw; (try dsimp only at hSw); (go_simp <;> with_reducible rfl))
    try simp only [Act.put, List.getElem_toArray, List.getElem_cons_succ, List.getElem_cons_zero, List.setIfInBounds_toArray, List.set_cons_zero, List.set_cons_succ]
    refine wpAnyH_take (i := 11) (v := ?tvB11) rfl (by kernel_rfl) (by kernel_rfl) (by kernel_rfl) (fun _ _ _ h => h) (Or.inl ⟨by rfl, ?tyB11⟩) (by assumption) ?trB11
    case tyB11 => (intro w hSw; (try dsimp only at hSw); (go_simp <;> with_reducible rfl))
    try simp only [Act.put, List.getElem_toArray, List.getElem_cons_succ, List.getElem_cons_zero, List.setIfInBounds_toArray, List.set_cons_zero, List.set_cons_succ]
    refine wpAnyH_take (i := 12) (v := ?tvB12) rfl (by kernel_rfl) (by kernel_rfl) (by kernel_rfl) (fun _ _ _ h => h) (Or.inl ⟨by rfl, ?tyB12⟩) (by assumption) ?trB12
    case tyB12 => (intro w hSw; (try dsimp only at hSw); (go_simp <;> with_reducible rfl))
    try simp only [Act.put, List.getElem_toArray, List.getElem_cons_succ, List.getElem_cons_zero, List.setIfInBounds_toArray, List.set_cons_zero, List.set_cons_succ]
    refine wpAnyH_take (i := 13) (v := ?tvB13) rfl (by kernel_rfl) (by kernel_rfl) (by kernel_rfl) (fun _ _ _ h => h) (Or.inl ⟨by rfl, ?tyB13⟩) (by assumption) ?trB13
    case tyB13 => (intro w hSw; (try dsimp only at hSw); (go_simp <;> with_reducible rfl))
    try simp only [Act.put, List.getElem_toArray, List.getElem_cons_succ, List.getElem_cons_zero, List.setIfInBounds_toArray, List.set_cons_zero, List.set_cons_succ]
    refine wpAnyH_ready (rs := [15]) (by kernel_rfl) (by simp) ?_
    refine AllReadyH.cons rfl (fun K hK => ?_) AllReadyH.nil
    go_simp
    refine hK.out _ _ ?_ (fun hHeld => ?_)
    · exact HKeep.out _ (put6_below (o := 0) HB23.out (Nat.le_refl _))
    clear hK K s0 s1 s2 s3 s4 s5 z0 z1 z2 z3 z4 z5
    try simp only [Act.put, List.getElem_toArray, List.getElem_cons_succ, List.getElem_cons_zero, List.setIfInBounds_toArray, List.set_cons_zero, List.set_cons_succ]
    refine wpAnyH_take (i := 16) (v := ?tvB16) rfl (by kernel_rfl) (by kernel_rfl) (by kernel_rfl) (fun _ _ _ h => h) (Or.inl ⟨by rfl, ?tyB16⟩) (by assumption) ?trB16
    case tyB16 => (intro w hSw; (try dsimp only at hSw); (go_simp <;> with_reducible rfl))
    try simp only [Act.put, List.getElem_toArray, List.getElem_cons_succ, List.getElem_cons_zero, List.setIfInBounds_toArray, List.set_cons_zero, List.set_cons_succ]
    refine wpAnyH_take (i := 17) (v := ?tvB17) rfl (by kernel_rfl) (by kernel_rfl) (by kernel_rfl) (fun _ _ _ h => h) (Or.inl ⟨by rfl, ?tyB17⟩) (by assumption) ?trB17
    case tyB17 => (intro w hSw; (try dsimp only at hSw); (go_simp <;> with_reducible rfl))
    try simp only [Act.put, List.getElem_toArray, List.getElem_cons_succ, List.getElem_cons_zero, List.setIfInBounds_toArray, List.set_cons_zero, List.set_cons_succ]
    refine wpAnyH_done (by kernel_rfl) ?_ _
    obtain ⟨V, hV⟩ : ∃ V, put6 w3 w2.heap.size 0 (.bool z.held) (.int .i64 z.owner) (.int .i64 z.socket) (.int .i64 z.passes) (.slice B4 m4 k4) (.slice B5 m5 k5) = V := ⟨_, rfl⟩
    have hTb : V.heap[w2.heap.size]? = some (.cells #[.bool z.held, .int .i64 z.owner, .int .i64 z.socket, .int .i64 z.passes, .slice B4 m4 k4, .slice B5 m5 k5] 156 (0, 0)) := by rw [← hV]; exact six_heap HT3.out rfl _ _ _ _ _ _
    have hNV := HN3.out.put (o := 0) HW0.out (Nat.le_refl _) HT3.out (.bool z.held) (.int .i64 z.owner) (.int .i64 z.socket) (.int .i64 z.passes) (.slice B4 m4 k4) (.slice B5 m5 k5)
    rw [hV] at hNV
    rw [show ((((((w3.setCell ⟨w2.heap.size, 0, none⟩ (.bool z.held)).setCell ⟨w2.heap.size, 1, none⟩ (.int .i64 z.owner)).setCell ⟨w2.heap.size, 2, none⟩ (.int .i64 z.socket)).setCell ⟨w2.heap.size, 3, none⟩ (.int .i64 z.passes)).setCell ⟨w2.heap.size, 4, none⟩ (.slice B4 m4 k4)).setCell ⟨w2.heap.size, 5, none⟩ (.slice B5 m5 k5)) = V from hV]
    clear hV
    have HNV := Lib.hid hNV
    obtain ⟨hcs, hfz, hps⟩ := HCl.out V z _ _ hNV
    have hb3 := hNV.block HB2.out (by decide)
    have o1 : V.cell? ⟨w.heap.size, 1, none⟩ = some (.int .i64 (i : Int)) := cell_of_heap hb3 rfl
    have HPs := Lib.hid hps
    have d0 : V.cell? ⟨xb, i * 6, none⟩ = some (.bool y.held) := hcs 0 (by omega)
    have d1 : V.cell? ⟨xb, i * 6 + 1, none⟩ = some (.int .i64 y.owner) := hcs 1 (by omega)
    have d2 : V.cell? ⟨xb, i * 6 + 2, none⟩ = some (.int .i64 y.socket) := hcs 2 (by omega)
    have d3 : V.cell? ⟨xb, i * 6 + 3, none⟩ = some (.int .i64 y.passes) := hcs 3 (by omega)
    have d4 : V.cell? ⟨xb, i * 6 + 4, none⟩ = some (.slice A4 n4 c4) := hcs 4 (by omega)
    have d5 : V.cell? ⟨xb, i * 6 + 5, none⟩ = some (.slice A5 n5 c5) := hcs 5 (by omega)
    have x0 : V.frozen? ⟨xb, i * 6, none⟩ = false := hfz _
    have x1 : V.frozen? ⟨xb, i * 6 + 1, none⟩ = false := hfz _
    have x2 : V.frozen? ⟨xb, i * 6 + 2, none⟩ = false := hfz _
    have x3 : V.frozen? ⟨xb, i * 6 + 3, none⟩ = false := hfz _
    have x4 : V.frozen? ⟨xb, i * 6 + 4, none⟩ = false := hfz _
    have x5 : V.frozen? ⟨xb, i * 6 + 5, none⟩ = false := hfz _
    have t0 : V.cell? ⟨w2.heap.size, 0, none⟩ = some (.bool z.held) := cell_of_heap hTb rfl
    have t1 : V.cell? ⟨w2.heap.size, 1, none⟩ = some (.int .i64 z.owner) := cell_of_heap hTb rfl
    have t2 : V.cell? ⟨w2.heap.size, 2, none⟩ = some (.int .i64 z.socket) := cell_of_heap hTb rfl
    have t3 : V.cell? ⟨w2.heap.size, 3, none⟩ = some (.int .i64 z.passes) := cell_of_heap hTb rfl
    have t4 : V.cell? ⟨w2.heap.size, 4, none⟩ = some (.slice B4 m4 k4) := cell_of_heap hTb rfl
    have t5 : V.cell? ⟨w2.heap.size, 5, none⟩ = some (.slice B5 m5 k5) := cell_of_heap hTb rfl
    clear hNV hTb hcs hfz hps hb3 hHeld
    go_wp2
    exact HP.out _ HPs.out (box_chain HBO1.out HS2.out HNV.out HX.out)
theorem do_any (c : PS w0 wp h lb xb m cx xs ys) (hbw : Below wp.heap.size wp w) (hI : PIs n m xs ys) (hn : n ≤ 200) (o : OpS) (hk : 0 ≤ o.k ∧ o.k ≤ 18446744073709551615) :
    Calls Try.prog 55 #[.pointer (some ⟨h, 0, none⟩), .slice (some ⟨xb, 0, none⟩) m cx, .agg #[.int .u64 o.k, .int .i64 o.l, .int .i64 o.t, .int .i64 o.s]] w (DoPost w0 wp w h lb xb m cx n) := by
  by_cases hl : 0 ≤ o.l ∧ o.l < (m : Int)
  · obtain ⟨i, hi⟩ : ∃ i : Nat, o.l = (i : Int) := ⟨o.l.toNat, by omega⟩
    rw [hi] at hl ⊢
    by_cases h5 : o.k % 5 < 2
    · exact do_take c hbw hI hn o.k i o.t o.s hk (by omega) h5
    · exact do_give c hbw hI hn o.k i o.t o.s hk (by omega) h5
  · exact do_out c hbw hI o.k o.l o.t o.s hk hl
end
end Go.Proofs.Ytgiimdoabkcoaaa.Co
