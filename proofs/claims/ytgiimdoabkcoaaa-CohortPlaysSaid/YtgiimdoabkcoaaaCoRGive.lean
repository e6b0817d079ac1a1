import Derived.Test.YtgiimdoabkcoaaaCoRefF
import Derived.Test.YtgiimdoabkcoaaaCoOrdM
import Derived.Test.YtgiimdoabkcoaaaCohortBudget
import Derived.Deep.QuietTactic
import Derived.BigQuiet
import Derived.Test.YtgiimdoabkcoaaaWKept
/-
The document's Take, walked.
-/
namespace Go.Proofs.Ytgiimdoabkcoaaa.Co
set_option linter.unusedVariables false
set_option linter.unusedSimpArgs false
open Go.RowKit Go.Proofs.YtgiimdoabkcoaaaW.PrintWords Go.Proofs.YtgiimdoabkcoaaaW.PrintLast Go.Proofs.YtgiimdoabkcoaaaW.PrintMore
/-- the cells of a document's lock. -/
def rC (y : DL) (v4 v5 : Value) : Array Value := #[.bool y.held, .int .i64 y.owner, .int .i64 y.socket, .int .i64 y.passes, v4, v5]
/-- a row that is the old one as it came in, or a new one. -/
def NewW (w0 w : World) (v0 v : Value) (l0 l : List Wt) : Prop := (v = v0 ∧ l = l0) ∨ Kd.R kW 95 w w0.heap.size (fun _ => True) v l
def NewI (w0 w : World) (v0 v : Value) (l0 l : List Int) : Prop := (v = v0 ∧ l = l0) ∨ Kd.R (Kd.int .i64) 3 w w0.heap.size (fun _ => True) v l
def RTakePost (w : World) (y z : DL) (b : Bool) (er : Int) (u4 u5 : Value) (e : Ending) (w' : World) : Prop :=
  ∃ v4 v5, e = .returned (.tuple #[.agg (rC z v4 v5), .bool b, .int .i64 er]) ∧ NewW w w' u4 v4 y.waits z.waits ∧ NewI w w' u5 v5 y.round z.round ∧ Below w.heap.size w w'
/-- where the argument and the result lie. -/
def RT (w W : World) (y : DL) (v4 v5 : Value) : Prop := Below w.heap.size w W ∧ W.heap[w.heap.size]? = some (.cells (rC y v4 v5) 156 (0, 0)) ∧ W.heap[w.heap.size + 1]? = some (.cells (rC dl0 (.slice none 0 0) (.slice none 0 0)) 156 (0, 0))
section
variable {w W W1 : World} {y : DL} {v4 v5 : Value}
theorem RT.start (w : World) (y : DL) (v4 v5 : Value) : RT w ((w.alloc (.cells (rC y v4 v5) 156)).alloc (.cells (rC dl0 (.slice none 0 0) (.slice none 0 0)) 156)) y v4 v5 := by
  have h1 := (MapKept.heap_alloc w (.cells (rC y v4 v5) 156)).1
  have h2 := MapKept.heap_alloc (w.alloc (.cells (rC y v4 v5) 156)) (.cells (rC dl0 (.slice none 0 0) (.slice none 0 0)) 156)
  have hsz : (w.alloc (.cells (rC y v4 v5) 156)).heap.size = w.heap.size + 1 := by simp [go_sem]
  refine ⟨bel_alloc (bel_alloc (bel_refl _) _) _, (h2.2 _ (by rw [hsz]; omega)).trans h1, ?_⟩
  rw [← hsz]
  exact h2.1
theorem RT.behind (h : RT w W y v4 v5) (hb : Below W.heap.size W W1) : RT w W1 y v4 v5 := by
  obtain ⟨h1, h2, h3⟩ := h
  have l2 := (Array.getElem?_eq_some_iff.1 h2).1
  have l3 := (Array.getElem?_eq_some_iff.1 h3).1
  exact ⟨Below_trans h1 hb, (hb.block _ l2).trans h2, (hb.block _ l3).trans h3⟩
theorem RT.cells (h : RT w W y v4 v5) : W.cell? ⟨w.heap.size, 0, none⟩ = some (.bool y.held) ∧ W.cell? ⟨w.heap.size, 1, none⟩ = some (.int .i64 y.owner) ∧ W.cell? ⟨w.heap.size, 2, none⟩ = some (.int .i64 y.socket) ∧ W.cell? ⟨w.heap.size, 3, none⟩ = some (.int .i64 y.passes) ∧ W.cell? ⟨w.heap.size, 4, none⟩ = some v4 ∧ W.cell? ⟨w.heap.size, 5, none⟩ = some v5 :=
  ⟨cell_of_heap h.2.1 rfl, cell_of_heap h.2.1 rfl, cell_of_heap h.2.1 rfl, cell_of_heap h.2.1 rfl, cell_of_heap h.2.1 rfl, cell_of_heap h.2.1 rfl⟩
theorem RT.res (h : RT w W y v4 v5) : W.cell? ⟨w.heap.size + 1, 0, none⟩ = some (.bool false) ∧ W.cell? ⟨w.heap.size + 1, 1, none⟩ = some (.int .i64 0) ∧ W.cell? ⟨w.heap.size + 1, 2, none⟩ = some (.int .i64 0) ∧ W.cell? ⟨w.heap.size + 1, 3, none⟩ = some (.int .i64 0) ∧ W.cell? ⟨w.heap.size + 1, 4, none⟩ = some (.slice none 0 0) ∧ W.cell? ⟨w.heap.size + 1, 5, none⟩ = some (.slice none 0 0) :=
  ⟨cell_of_heap h.2.2 rfl, cell_of_heap h.2.2 rfl, cell_of_heap h.2.2 rfl, cell_of_heap h.2.2 rfl, cell_of_heap h.2.2 rfl, cell_of_heap h.2.2 rfl⟩
theorem RT.frz (h : RT w W y v4 v5) (j : Nat) : W.frozen? ⟨w.heap.size + 1, j, none⟩ = false := fz_of_heap h.2.2 j
theorem RT.out (h : RT w W y v4 v5) (u0 u1 u2 u3 u4 u5 : Value) :
    ((((((W.setCell ⟨w.heap.size + 1, 0, none⟩ u0).setCell ⟨w.heap.size + 1, 1, none⟩ u1).setCell ⟨w.heap.size + 1, 2, none⟩ u2).setCell ⟨w.heap.size + 1, 3, none⟩ u3).setCell ⟨w.heap.size + 1, 4, none⟩ u4).setCell ⟨w.heap.size + 1, 5, none⟩ u5).heap[w.heap.size + 1]? = some (.cells #[u0, u1, u2, u3, u4, u5] 156 (0, 0)) ∧
    Below w.heap.size w ((((((W.setCell ⟨w.heap.size + 1, 0, none⟩ u0).setCell ⟨w.heap.size + 1, 1, none⟩ u1).setCell ⟨w.heap.size + 1, 2, none⟩ u2).setCell ⟨w.heap.size + 1, 3, none⟩ u3).setCell ⟨w.heap.size + 1, 4, none⟩ u4).setCell ⟨w.heap.size + 1, 5, none⟩ u5) := by
  have hle : w.heap.size ≤ w.heap.size + 1 := Nat.le_succ _
  refine ⟨?_, ?_⟩
  · refine blk_put (cs := #[u0, u1, u2, u3, u4, .slice none 0 0]) ?_ 5 _ rfl
    refine blk_put (cs := #[u0, u1, u2, u3, .slice none 0 0, .slice none 0 0]) ?_ 4 _ rfl
    refine blk_put (cs := #[u0, u1, u2, .int .i64 0, .slice none 0 0, .slice none 0 0]) ?_ 3 _ rfl
    refine blk_put (cs := #[u0, u1, .int .i64 0, .int .i64 0, .slice none 0 0, .slice none 0 0]) ?_ 2 _ rfl
    refine blk_put (cs := #[u0, .int .i64 0, .int .i64 0, .int .i64 0, .slice none 0 0, .slice none 0 0]) ?_ 1 _ rfl
    refine blk_put (cs := #[.bool false, .int .i64 0, .int .i64 0, .int .i64 0, .slice none 0 0, .slice none 0 0]) ?_ 0 _ rfl
    exact h.2.2
  · refine below_set ?_ hle
    refine below_set ?_ hle
    refine below_set ?_ hle
    refine below_set ?_ hle
    refine below_set ?_ hle
    refine below_set ?_ hle
    exact h.1
theorem cw_at {ws : List Wt} {A : Option Addr} {n j : Nat} (h : kW.C w A ws.length ws) (hn : ws.length = n) (hb : Below w.heap.size w W) (hj : j < n) :
    ∃ q, A = some q ∧ W.cell? (q.add (j * 2)) = some (.int .i64 (wg ws j).1) ∧ W.cell? ⟨(q.add (j * 2)).block, (q.add (j * 2)).off + 1, none⟩ = some (.int .i64 (wg ws j).2) := by
  obtain ⟨ad, cs, hA', hcl, hK, hcc⟩ := Kd.C_get h (0, 0) (j : Int) (by omega) (by omega)
  rw [Int.toNat_natCast] at hK hcc
  obtain ⟨_, _, rfl, rfl, rfl⟩ := hK
  have h2 : kW.sz = 2 := rfl
  rw [h2] at hcc
  have h3 : ad.add (j * 2 + 1) = ⟨(ad.add (j * 2)).block, (ad.add (j * 2)).off + 1, none⟩ := by
    rw [← add_add]
    generalize ad.add (j * 2) = a
    unfold Addr.add
    rw [if_neg (by omega)]
  refine ⟨ad, hA', bel_cell hb (hcc 0 _ rfl), ?_⟩
  rw [← h3]
  exact bel_cell hb (hcc 1 _ rfl)
theorem rtake_twice {held : Bool} {owner socket passes t s : Int} {ws : List Wt} {rd : List Int} {j : Nat} (hneg : ¬ (t < 0 ∨ s < 0)) (how : ¬ (held = true ∧ owner = t)) (hj : j < ws.length) (h : (wg ws j).1 = t) :
    rTake ⟨held, owner, socket, passes, ws, rd⟩ t s = (⟨held, owner, socket, passes, ws, rd⟩, false, 9) := by
  have : ws.any (fun w => decide (w.1 = t)) = true := List.any_eq_true.2 ⟨wg ws j, by rw [wg_at hj]; exact List.getElem_mem _, by simpa using h⟩
  unfold rTake
  rw [if_neg hneg, if_neg how, if_pos this]
theorem any_none {ws : List Wt} {t : Int} (h : ∀ i, i < ws.length → (wg ws i).1 ≠ t) : ws.any (fun w => decide (w.1 = t)) = false := by
  rw [Bool.eq_false_iff]
  intro e
  obtain ⟨w, hw, hx⟩ := List.any_eq_true.1 e
  obtain ⟨i, hi, rfl⟩ := List.getElem_of_mem hw
  exact h i hi (by rw [wg_at hi]; simpa using hx)
theorem R_new {α : Type} (d : Kd α) (e : Nat) (w : World) : d.R e (w.alloc (.cells #[] e)) w.heap.size (fun _ => True) (.slice (some ⟨w.heap.size, 0, none⟩) 0 0) [] :=
  R_empty d (MapKept.heap_alloc w (.cells #[] e)).1 (Nat.le_refl _) trivial
/-- the argument, the result, and the lock that is made. -/
def RT2 (w W : World) (Y : Nat) (y : DL) (v4 v5 u4 u5 : Value) : Prop := RT w W y v4 v5 ∧ W.heap[Y]? = some (.cells (rC y u4 u5) 156 (0, 0)) ∧ w.heap.size + 1 < Y
theorem RT.two (h : RT w W y v4 v5) : RT2 w (W.alloc (.cells (rC y v4 v5) 156)) W.heap.size y v4 v5 v4 v5 :=
  ⟨h.behind ((Below.refl W.heap.size W).alloc (Nat.le_refl _) _), (MapKept.heap_alloc W _).1, (Array.getElem?_eq_some_iff.1 h.2.2).1⟩
theorem RT2.behind {Y : Nat} {u4 u5 : Value} (h : RT2 w W Y y v4 v5 u4 u5) (hb : Below W.heap.size W W1) : RT2 w W1 Y y v4 v5 u4 u5 :=
  ⟨h.1.behind hb, (hb.block _ (Array.getElem?_eq_some_iff.1 h.2.1).1).trans h.2.1, h.2.2⟩
theorem RT2.put {Y : Nat} {u4 u5 : Value} (h : RT2 w W Y y v4 v5 u4 u5) (j : Nat) (u : Value) {z4 z5 : Value} (e : (rC y u4 u5).setIfInBounds j u = rC y z4 z5) : RT2 w (W.setCell ⟨Y, j, none⟩ u) Y y v4 v5 z4 z5 := by
  obtain ⟨⟨h1, h2, h3⟩, h4, h5⟩ := h
  have g1 : w.heap.size ≠ Y := by omega
  have g2 : w.heap.size + 1 ≠ Y := by omega
  exact ⟨⟨below_set h1 (by omega), (Below.heap_setCell W ⟨Y, j, none⟩ u _ g1).trans h2, (Below.heap_setCell W ⟨Y, j, none⟩ u _ g2).trans h3⟩, blk_put h4 j u e, h5⟩
theorem RT2.cells {Y : Nat} {u4 u5 : Value} (h : RT2 w W Y y v4 v5 u4 u5) : W.cell? ⟨Y, 0, none⟩ = some (.bool y.held) ∧ W.cell? ⟨Y, 1, none⟩ = some (.int .i64 y.owner) ∧ W.cell? ⟨Y, 2, none⟩ = some (.int .i64 y.socket) ∧ W.cell? ⟨Y, 3, none⟩ = some (.int .i64 y.passes) ∧ W.cell? ⟨Y, 4, none⟩ = some u4 ∧ W.cell? ⟨Y, 5, none⟩ = some u5 :=
  ⟨cell_of_heap h.2.1 rfl, cell_of_heap h.2.1 rfl, cell_of_heap h.2.1 rfl, cell_of_heap h.2.1 rfl, cell_of_heap h.2.1 rfl, cell_of_heap h.2.1 rfl⟩
theorem RT2.frz {Y : Nat} {u4 u5 : Value} (h : RT2 w W Y y v4 v5 u4 u5) (j : Nat) : W.frozen? ⟨Y, j, none⟩ = false := fz_of_heap h.2.1 j
/-- an own row of another type, behind a store into the made lock. -/
theorem RT2.row {Y : Nat} {u4 u5 : Value} {α : Type} {d : Kd α} {e base : Nat} {v : Value} {xs : List α} (h : RT2 w W Y y v4 v5 u4 u5) (hR : d.R e W base (fun _ => True) v xs) (ht : ∀ q, q ∈ e :: d.E → q ≠ 156) (j : Nat) (u : Value) : d.R e (W.setCell ⟨Y, j, none⟩ u) base (fun _ => True) v xs :=
  Kd.R_mono (Kd.R_far (p := ⟨Y, j, none⟩) (Kd.R_types hR h.2.1 ht) (fun _ hk => hk.2) u) (fun _ _ => trivial)
theorem RT.row {α : Type} {d : Kd α} {e base : Nat} {v : Value} {xs : List α} (h : RT w W y v4 v5) (hR : d.R e W base (fun _ => True) v xs) (ht : ∀ q, q ∈ e :: d.E → q ≠ 156) (j : Nat) (u : Value) : d.R e (W.setCell ⟨w.heap.size + 1, j, none⟩ u) base (fun _ => True) v xs :=
  Kd.R_mono (Kd.R_far (p := ⟨w.heap.size + 1, j, none⟩) (Kd.R_types hR h.2.2 ht) (fun _ hk => hk.2) u) (fun _ _ => trivial)
theorem RT.row6 {α : Type} {d : Kd α} {e base : Nat} {v : Value} {xs : List α} (h : RT w W y v4 v5) (hR : d.R e W base (fun _ => True) v xs) (ht : ∀ q, q ∈ e :: d.E → q ≠ 156) (u0 u1 u2 u3 u4 u5 : Value) :
    d.R e ((((((W.setCell ⟨w.heap.size + 1, 0, none⟩ u0).setCell ⟨w.heap.size + 1, 1, none⟩ u1).setCell ⟨w.heap.size + 1, 2, none⟩ u2).setCell ⟨w.heap.size + 1, 3, none⟩ u3).setCell ⟨w.heap.size + 1, 4, none⟩ u4).setCell ⟨w.heap.size + 1, 5, none⟩ u5) base (fun _ => True) v xs :=
  Kd.R_mono (Kd.R_far (p := ⟨w.heap.size + 1, 5, none⟩) (Kd.R_far (p := ⟨w.heap.size + 1, 4, none⟩) (Kd.R_far (p := ⟨w.heap.size + 1, 3, none⟩) (Kd.R_far (p := ⟨w.heap.size + 1, 2, none⟩) (Kd.R_far (p := ⟨w.heap.size + 1, 1, none⟩) (Kd.R_far (p := ⟨w.heap.size + 1, 0, none⟩) (Kd.R_types hR h.2.2 ht) (fun _ hk => hk.2) u0) (fun _ hk => hk.2) u1) (fun _ hk => hk.2) u2) (fun _ hk => hk.2) u3) (fun _ hk => hk.2) u4) (fun _ hk => hk.2) u5) (fun _ _ => trivial)
theorem results_cell3 {P : Program} {fn : Func} {p a b : Tmp} {ty : TypeId} (h : fn.results = #[.cell p ty, .tmp a, .tmp b]) (tmps : Array Value) (w : World) (g : Nat) (t : TypeId) (cs : Array Value) (fr : Nat × Nat) (d : TypeDesc)
    (hp : tmps.getD p undef = .pointer (some ⟨g, 0, none⟩)) (hg : w.heap[g]? = some (.cells cs t fr))
    (hu : P.underlying ty = some d) (hd : (match d with | .struct _ | .array _ _ => true | _ => false) = true) (hi : (P.info? ty).map (·.size) = some cs.size) :
    (results fn tmps).run P w = .ok (.tuple #[.agg cs, tmps.getD a undef, tmps.getD b undef]) w := by
  have hp' : tmps[p]?.getD undef = .pointer (some ⟨g, 0, none⟩) := by simpa using hp
  simp [results, h, hp', asAddr, run_loadVar_row w g t ty cs fr d hg hu hd hi]
end
set_option maxRecDepth 100000 in
set_option maxHeartbeats 4000000 in
theorem rtake_calls (y : DL) (t s : Int) (A4 A5 : Option Addr) (c4 c5 : Nat) (w : World) (h4 : kW.C w A4 y.waits.length y.waits) (h5 : (Kd.int .i64).C w A5 y.round.length y.round) (hc4 : y.waits.length ≤ c4) (hc5 : y.round.length ≤ c5) (hl4 : y.waits.length ≤ 1000) (hl5 : y.round.length ≤ 1000) :
    Calls Try.prog 104 #[.agg #[.bool y.held, .int .i64 y.owner, .int .i64 y.socket, .int .i64 y.passes, .slice A4 y.waits.length c4, .slice A5 y.round.length c5], .int .i64 t, .int .i64 s] w
      (RTakePost w y (rTake y t s).1 (rTake y t s).2.1 (rTake y t s).2.2 (.slice A4 y.waits.length c4) (.slice A5 y.round.length c5)) := by
  obtain ⟨held, owner, socket, passes, ws, rd⟩ := y
  dsimp only at h4 h5 hc4 hc5 hl4 hl5 ⊢
  have H4 := Lib.hid h4
  have H5 := Lib.hid h5
  have HPost : Hid (∀ z b er v4 v5 w', rTake ⟨held, owner, socket, passes, ws, rd⟩ t s = (z, b, er) → NewW w w' (.slice A4 ws.length c4) v4 ws z.waits → NewI w w' (.slice A5 rd.length c5) v5 rd z.round → Below w.heap.size w w' → RTakePost w ⟨held, owner, socket, passes, ws, rd⟩ (rTake ⟨held, owner, socket, passes, ws, rd⟩ t s).1 (rTake ⟨held, owner, socket, passes, ws, rd⟩ t s).2.1 (rTake ⟨held, owner, socket, passes, ws, rd⟩ t s).2.2 (.slice A4 ws.length c4) (.slice A5 rd.length c5) (.returned (.tuple #[.agg (rC z v4 v5), .bool b, .int .i64 er])) w') := Lib.hid (by
    intro z b er v4 v5 w' he q1 q2 q3
    rw [he]
    exact ⟨v4, v5, rfl, q1, q2, q3⟩)
  obtain ⟨n4, hn4⟩ : ∃ n4, ws.length = n4 := ⟨_, rfl⟩
  obtain ⟨n5, hn5⟩ : ∃ n5, rd.length = n5 := ⟨_, rfl⟩
  have HN4 := Lib.hid hn4
  have HN5 := Lib.hid hn5
  rw [hn4] at hc4 hl4
  rw [hn5] at hc5 hl5
  rw [hn4, hn5] at HPost ⊢
  clear h4 h5 hn4 hn5
  obtain ⟨Q, hQ⟩ : ∃ Q, RTakePost w ⟨held, owner, socket, passes, ws, rd⟩ (rTake ⟨held, owner, socket, passes, ws, rd⟩ t s).1 (rTake ⟨held, owner, socket, passes, ws, rd⟩ t s).2.1 (rTake ⟨held, owner, socket, passes, ws, rd⟩ t s).2.2 (.slice A4 n4 c4) (.slice A5 n5 c5) = Q := ⟨_, rfl⟩
  rw [hQ] at HPost ⊢
  clear hQ
  go_enter Try.func104, Try.ntmps104
  go_upto_region 1 with (fail)
  obtain ⟨W, hW⟩ : ∃ W, W = (w.alloc (.cells (rC ⟨held, owner, socket, passes, ws, rd⟩ (.slice A4 n4 c4) (.slice A5 n5 c5)) 156)).alloc (.cells (rC dl0 (.slice none 0 0) (.slice none 0 0)) 156) := ⟨_, rfl⟩
  have hrt : RT w W ⟨held, owner, socket, passes, ws, rd⟩ (.slice A4 n4 c4) (.slice A5 n5 c5) := by rw [hW]; exact RT.start _ _ _ _
  refine id (?_ : _)
  rw [show ((w.alloc (.cells #[.bool held, .int .i64 owner, .int .i64 socket, .int .i64 passes, .slice A4 n4 c4, .slice A5 n5 c5] 156)).alloc (.cells #[.bool false, .int .i64 0, .int .i64 0, .int .i64 0, .slice none 0 0, .slice none 0 0] 156)) = W from hW.symm]
  have HRT := Lib.hid hrt
  obtain ⟨c0, c1, c2, c3, c4', c5'⟩ := hrt.cells
  obtain ⟨r0, r1, r2, r3, r4, r5⟩ := hrt.res
  have z0 := hrt.frz 0
  have z1 := hrt.frz 1
  have z2 := hrt.frz 2
  have z3 := hrt.frz 3
  have z4 := hrt.frz 4
  have z5 := hrt.frz 5
  clear hW hrt
  by_cases hneg : t < 0 ∨ s < 0
  · have hp := HPost.out ⟨held, owner, socket, passes, ws, rd⟩ false 1 (.slice A4 n4 c4) (.slice A5 n5 c5)
    have he : rTake ⟨held, owner, socket, passes, ws, rd⟩ t s = (⟨held, owner, socket, passes, ws, rd⟩, false, 1) := by unfold rTake; rw [if_pos hneg]
    have HP := Lib.hid (fun w' => hp w' he (.inl ⟨rfl, rfl⟩) (.inl ⟨rfl, rfl⟩))
    clear hp he HPost
    have hcase : decide (t < 0) = true ∨ (decide (t < 0) = false ∧ decide (s < 0) = true) := by
      by_cases q : t < 0
      · exact .inl (decide_eq_true q)
      · exact .inr ⟨decide_eq_false q, decide_eq_true (hneg.resolve_left q)⟩
    clear hneg
    rcases hcase with q | ⟨q, q2⟩
    · go_wp2
      refine bodyPost_ret (results_cell3 rfl _ _ (w.heap.size + 1) 156 #[_, _, _, _, _, _] (0, 0) _ rfl (HRT.out.out _ _ _ _ _ _).1 Try.underlying156 rfl (by kernel_rfl)) rfl ?_
      exact HP.out _ (HRT.out.out _ _ _ _ _ _).2
    · go_wp2
      refine bodyPost_ret (results_cell3 rfl _ _ (w.heap.size + 1) 156 #[_, _, _, _, _, _] (0, 0) _ rfl (HRT.out.out _ _ _ _ _ _).1 Try.underlying156 rfl (by kernel_rfl)) rfl ?_
      exact HP.out _ (HRT.out.out _ _ _ _ _ _).2
  · have hn1 : decide (t < 0) = false := decide_eq_false (fun e => hneg (.inl e))
    have hn2 : decide (s < 0) = false := decide_eq_false (fun e => hneg (.inr e))
    by_cases how : held = true ∧ owner = t
    · obtain ⟨rfl, rfl⟩ := how
      have hot : (owner == owner) = true := by simp
      have he : rTake ⟨true, owner, socket, passes, ws, rd⟩ owner s = (⟨true, owner, socket, passes, ws, rd⟩, false, 8) := by unfold rTake; rw [if_neg hneg, if_pos ⟨rfl, rfl⟩]
      have hp := HPost.out ⟨true, owner, socket, passes, ws, rd⟩ false 8 (.slice A4 n4 c4) (.slice A5 n5 c5)
      have HP := Lib.hid (fun w' => hp w' he (.inl ⟨rfl, rfl⟩) (.inl ⟨rfl, rfl⟩))
      clear hp he HPost hneg
      go_wp2
      refine bodyPost_ret (results_cell3 rfl _ _ (w.heap.size + 1) 156 #[_, _, _, _, _, _] (0, 0) _ rfl (HRT.out.out _ _ _ _ _ _).1 Try.underlying156 rfl (by kernel_rfl)) rfl ?_
      exact HP.out _ (HRT.out.out _ _ _ _ _ _).2
    · have HHOW := Lib.hid how
      cases held with
      | false =>
        go_wp2
        go_loopg [31] n4 (fun gg v31 wr => ∃ j : Nat, j ≤ n4 ∧ n4 - j ≤ gg ∧ v31 = .int .i64 j ∧ Aside0 (∀ i, i < j → (wg ws i).1 ≠ t) ∧ Aside0 (RT w wr ⟨false, owner, socket, passes, ws, rd⟩ (.slice A4 n4 c4) (.slice A5 n5 c5)))
        case atStart => exact ⟨0, Nat.zero_le _, by omega, rfl, ⟨fun i hi => absurd hi (Nat.not_lt_zero i)⟩, ⟨HRT.out⟩⟩
        case round =>
          obtain ⟨j, hj, hg, rfl, HNo, HR⟩ := hrel
          obtain ⟨d0, d1, d2, d3, d4', d5'⟩ := HR.out.cells
          obtain ⟨r0, r1, r2, r3, r4, r5⟩ := HR.out.res
          have z0 := HR.out.frz 0
          have z1 := HR.out.frz 1
          have z2 := HR.out.frz 2
          have z3 := HR.out.frz 3
          have z4 := HR.out.frz 4
          have z5 := HR.out.frz 5
          by_cases hlt : j < n4
          · have hltz : (j : Int) < (n4 : Int) := by omega
            obtain ⟨q, rfl, e0, e1⟩ := cw_at H4.out HN4.out HR.out.1 hlt
            obtain ⟨u, hu⟩ : ∃ u, (wg ws j).2 = u := ⟨_, rfl⟩
            obtain ⟨u1, hu1⟩ : ∃ u1, (wg ws j).1 = u1 := ⟨_, rfl⟩
            rw [hu] at e1
            rw [hu1] at e0
            have HU := Lib.hid hu1
            have HRb := Lib.hid (HR.out.behind ((Below.refl wr.heap.size wr).alloc (Nat.le_refl _) (.cells #[.int .i64 u1, .int .i64 u] 95)))
            clear hu hu1
            by_cases hut : u1 = t
            · have hb : (u1 == t) = true := by simp [hut]
              have he : rTake ⟨false, owner, socket, passes, ws, rd⟩ t s = (⟨false, owner, socket, passes, ws, rd⟩, false, 9) := rtake_twice hneg (fun e => Bool.noConfusion e.1) (by rw [HN4.out]; exact hlt) (HU.out.trans hut)
              have hp := HPost.out ⟨false, owner, socket, passes, ws, rd⟩ false 9 (.slice (some q) n4 c4) (.slice A5 n5 c5)
              have HP := Lib.hid (fun w' => hp w' he (.inl ⟨rfl, rfl⟩) (.inl ⟨rfl, rfl⟩))
              clear hp he hut
              go_upto_region 8 with (fail)
              obtain ⟨W2, hW2⟩ : ∃ W2, wr.alloc (.cells #[.int .i64 u1, .int .i64 u] 95) = W2 := ⟨_, rfl⟩
              have b0 : W2.cell? ⟨wr.heap.size, 0, none⟩ = some (.int .i64 u1) := by rw [← hW2]; simp [go_sem]
              rw [hW2] at HRb ⊢
              obtain ⟨d0, d1, d2, d3, d4', d5'⟩ := HRb.out.cells
              obtain ⟨r0, r1, r2, r3, r4, r5⟩ := HRb.out.res
              have z0 := HRb.out.frz 0
              have z1 := HRb.out.frz 1
              have z2 := HRb.out.frz 2
              have z3 := HRb.out.frz 3
              have z4 := HRb.out.frz 4
              have z5 := HRb.out.frz 5
              clear hW2
              go_wp2
              refine bodyPost_ret (results_cell3 rfl _ _ (w.heap.size + 1) 156 #[_, _, _, _, _, _] (0, 0) _ rfl (HRb.out.out _ _ _ _ _ _).1 Try.underlying156 rfl (by kernel_rfl)) rfl ?_
              exact HP.out _ (HRb.out.out _ _ _ _ _ _).2
            · have hb : (u1 == t) = false := by simp [hut]
              have hno2 : ∀ i, i < j + 1 → (wg ws i).1 ≠ t := fun i hi => by
                rcases Nat.lt_or_ge i j with h | h
                · exact HNo.out i h
                · rw [show i = j by omega, HU.out]; exact hut
              have HNo2 := Lib.hid hno2
              clear hut hno2
              go_wp2
              go_roundg (n4 - (j + 1))
              case measure => omega
              case rel => exact ⟨j + 1, by omega, by omega, by go_num, ⟨HNo2.out⟩, ⟨HRb.out⟩⟩
          · have hltz : ¬ (j : Int) < (n4 : Int) := by omega
            have hjn : j = n4 := by omega
            have hany : ws.any (fun w => decide (w.1 = t)) = false := any_none (fun i hi => HNo.out i (by rw [hjn, ← HN4.out]; exact hi))
            have HAny := Lib.hid hany
            clear hjn hany
            have he : rTake ⟨false, owner, socket, passes, ws, rd⟩ t s = (⟨true, t, s, 0, [], []⟩, true, 0) := by
              unfold rTake
              rw [if_neg hneg, if_neg (fun e => by cases e.1), if_neg (by rw [HAny.out]; simp), if_pos rfl]
            have hp := HPost.out ⟨true, t, s, 0, [], []⟩ true 0 (.slice none 0 0) (.slice none 0 0)
            have HP := Lib.hid (fun w' => hp w' he (.inr (Kd.R_nil _ _ _ _ _)) (.inr (Kd.R_nil _ _ _ _ _)))
            clear hp he
            go_wp2
            refine bodyPost_ret (results_cell3 rfl _ _ (w.heap.size + 1) 156 #[_, _, _, _, _, _] (0, 0) _ rfl (HR.out.out _ _ _ _ _ _).1 Try.underlying156 rfl (by kernel_rfl)) rfl ?_
            exact HP.out _ (HR.out.out _ _ _ _ _ _).2
      | true =>
        have hot : (owner == t) = false := by
          have : owner ≠ t := fun e => how ⟨rfl, e⟩
          simpa using this
        have HNE : Hid (owner ≠ t) := Lib.hid (fun e => how ⟨rfl, e⟩)
        clear how
        go_wp2
        go_loopg [31] n4 (fun gg v31 wr => ∃ j : Nat, j ≤ n4 ∧ n4 - j ≤ gg ∧ v31 = .int .i64 j ∧ Aside0 (∀ i, i < j → (wg ws i).1 ≠ t) ∧ Aside0 (RT w wr ⟨true, owner, socket, passes, ws, rd⟩ (.slice A4 n4 c4) (.slice A5 n5 c5)))
        case atStart => exact ⟨0, Nat.zero_le _, by omega, rfl, ⟨fun i hi => absurd hi (Nat.not_lt_zero i)⟩, ⟨HRT.out⟩⟩
        case round =>
          obtain ⟨j, hj, hg, rfl, HNo, HR⟩ := hrel
          obtain ⟨d0, d1, d2, d3, d4', d5'⟩ := HR.out.cells
          obtain ⟨r0, r1, r2, r3, r4, r5⟩ := HR.out.res
          have z0 := HR.out.frz 0
          have z1 := HR.out.frz 1
          have z2 := HR.out.frz 2
          have z3 := HR.out.frz 3
          have z4 := HR.out.frz 4
          have z5 := HR.out.frz 5
          by_cases hlt : j < n4
          · have hltz : (j : Int) < (n4 : Int) := by omega
            obtain ⟨q, rfl, e0, e1⟩ := cw_at H4.out HN4.out HR.out.1 hlt
            obtain ⟨u, hu⟩ : ∃ u, (wg ws j).2 = u := ⟨_, rfl⟩
            obtain ⟨u1, hu1⟩ : ∃ u1, (wg ws j).1 = u1 := ⟨_, rfl⟩
            rw [hu] at e1
            rw [hu1] at e0
            have HU := Lib.hid hu1
            have HRb := Lib.hid (HR.out.behind ((Below.refl wr.heap.size wr).alloc (Nat.le_refl _) (.cells #[.int .i64 u1, .int .i64 u] 95)))
            clear hu hu1
            by_cases hut : u1 = t
            · have hb : (u1 == t) = true := by simp [hut]
              have he : rTake ⟨true, owner, socket, passes, ws, rd⟩ t s = (⟨true, owner, socket, passes, ws, rd⟩, false, 9) := rtake_twice hneg (fun e => HNE.out e.2) (by rw [HN4.out]; exact hlt) (HU.out.trans hut)
              have hp := HPost.out ⟨true, owner, socket, passes, ws, rd⟩ false 9 (.slice (some q) n4 c4) (.slice A5 n5 c5)
              have HP := Lib.hid (fun w' => hp w' he (.inl ⟨rfl, rfl⟩) (.inl ⟨rfl, rfl⟩))
              clear hp he hut
              go_upto_region 8 with (fail)
              obtain ⟨W2, hW2⟩ : ∃ W2, wr.alloc (.cells #[.int .i64 u1, .int .i64 u] 95) = W2 := ⟨_, rfl⟩
              have b0 : W2.cell? ⟨wr.heap.size, 0, none⟩ = some (.int .i64 u1) := by rw [← hW2]; simp [go_sem]
              rw [hW2] at HRb ⊢
              obtain ⟨d0, d1, d2, d3, d4', d5'⟩ := HRb.out.cells
              obtain ⟨r0, r1, r2, r3, r4, r5⟩ := HRb.out.res
              have z0 := HRb.out.frz 0
              have z1 := HRb.out.frz 1
              have z2 := HRb.out.frz 2
              have z3 := HRb.out.frz 3
              have z4 := HRb.out.frz 4
              have z5 := HRb.out.frz 5
              clear hW2
              go_wp2
              refine bodyPost_ret (results_cell3 rfl _ _ (w.heap.size + 1) 156 #[_, _, _, _, _, _] (0, 0) _ rfl (HRb.out.out _ _ _ _ _ _).1 Try.underlying156 rfl (by kernel_rfl)) rfl ?_
              exact HP.out _ (HRb.out.out _ _ _ _ _ _).2
            · have hb : (u1 == t) = false := by simp [hut]
              have hno2 : ∀ i, i < j + 1 → (wg ws i).1 ≠ t := fun i hi => by
                rcases Nat.lt_or_ge i j with h | h
                · exact HNo.out i h
                · rw [show i = j by omega, HU.out]; exact hut
              have HNo2 := Lib.hid hno2
              clear hut hno2
              go_wp2
              go_roundg (n4 - (j + 1))
              case measure => omega
              case rel => exact ⟨j + 1, by omega, by omega, by go_num, ⟨HNo2.out⟩, ⟨HRb.out⟩⟩
          · have hltz : ¬ (j : Int) < (n4 : Int) := by omega
            have hjn : j = n4 := by omega
            have hany : ws.any (fun w => decide (w.1 = t)) = false := any_none (fun i hi => HNo.out i (by rw [hjn, ← HN4.out]; exact hi))
            have HAny := Lib.hid hany
            clear hjn hany
            go_upto_region 14 with (fail)
            have h2 := HR.out.two
            obtain ⟨Y, hY⟩ : ∃ Y, wr.heap.size = Y := ⟨_, rfl⟩
            obtain ⟨V, hV⟩ : ∃ V, wr.alloc (.cells (rC ⟨true, owner, socket, passes, ws, rd⟩ (.slice A4 n4 c4) (.slice A5 n5 c5)) 156) = V := ⟨_, rfl⟩
            rw [hV, hY] at h2
            have HV := Lib.hid h2
            rw [hY, show (wr.alloc (.cells #[.bool true, .int .i64 owner, .int .i64 socket, .int .i64 passes, .slice A4 n4 c4, .slice A5 n5 c5] 156)) = V from hV]
            obtain ⟨_, _, _, _, g4, g5⟩ := h2.1.cells
            obtain ⟨y0, y1, y2, y3, y4, y5⟩ := h2.cells
            have x4 := h2.frz 4
            obtain ⟨_, _, _, _, ga4, _⟩ := (h2.behind ((Below.refl V.heap.size V).alloc (Nat.le_refl _) (.cells #[] 95))).1.cells
            have hsub := h2.1.1.size
            have HSub := Lib.hid hsub
            have HC4 := Lib.hid (Kd.C_below H4.out h2.1.1)
            have HL1 : Hid ((([] : List Wt).length + n4) * 16 ≤ 140737488355328) := Lib.hid (by simp only [List.length_nil]; omega)
            have HL2 : Hid ((ws.length + 1) * 16 ≤ 140737488355328) := Lib.hid (by rw [HN4.out]; omega)
            clear h2 hV hY hsub c0 c1 c2 c3 c4' c5' d0 d1 d2 d3 d4' d5' r0 r1 r2 r3 r4 r5 z0 z1 z2 z3 z4 z5
            rw [HN4.out] at HC4
            go_upto_region 15 with (first
              | (at_builtin; refine Kd.R_append kW (w0 := V) V.heap.size rfl (.tmp 51) (.tmp 55) 88 95 (.agg #[.int .i64 0, .int .i64 0]) 16 rfl Try.underlying88 infoW rfl (by decide) (by decide) (.slice A1 m1 k1) ws (t, s) [.int .i64 t, .int .i64 s] (fun _ => True) (fun _ => False) rfl rfl (kW_mk _ _ _ (t, s)) (fun _ q => q.elim) (fun _ _ => trivial) HR1.out HB1.out HB1.out.size HL2.out ?_; intro v2 w2 hR2 hB2 hg2 hat2; obtain ⟨A2, k2_, e2_⟩ := Kd.R_slice hR2; subst e2_; obtain ⟨m2, hm2_⟩ : ∃ m2, (ws ++ [(t, s)]).length = m2 := ⟨_, rfl⟩; rw [hm2_] at hR2 ⊢; have HR2 := Lib.hid hR2; have HB2 := Lib.hid hB2; have HV2 := Lib.hid (HV.out.behind hB2); have y4 := HV2.out.cells.2.2.2.2.1; have x4 := HV2.out.frz 4; clear hR2 hB2 hg2 hat2 hm2_)
              | (at_builtin; refine Kd.R_append_rows kW (w0 := V) (Rr := kW.K V) V.heap.size rfl (.tmp 48) (.tmp 50) 88 95 (.agg #[.int .i64 0, .int .i64 0]) 16 rfl Try.underlying88 infoW rfl (by decide) (by decide) (.slice (some ⟨V.heap.size, 0, none⟩) 0 0) [] ws A4 n4 c4 (fun _ => True) (fun _ => False) rfl rfl (R_new kW _ _) (Kd.C_below HC4.out (bel_alloc (bel_refl _) _)) (fun _ _ q => kW_KM q) (fun _ q => q.elim) (fun _ _ => trivial) (bel_alloc (bel_refl _) _) (by simp [go_sem]) HL1.out ?_; intro v1 w1 hR1 hB1 hg1 hat1; rw [List.nil_append] at hR1; obtain ⟨A1, k1, e1_⟩ := Kd.R_slice hR1; subst e1_; obtain ⟨m1, hm1_⟩ : ∃ m1, ws.length = m1 := ⟨_, rfl⟩; rw [hm1_] at hR1 ⊢; have HR1 := Lib.hid hR1; have HB1 := Lib.hid hB1; clear hR1 hB1 hg1 hat1 hm1_)
              | fail)
            have HV3 := Lib.hid (HV2.out.put 4 (.slice A2 m2 k2_) (z4 := .slice A2 m2 k2_) (z5 := .slice A5 n5 c5) rfl)
            have HR3 := Lib.hid (HV2.out.row HR2.out (by decide) 4 (.slice A2 m2 k2_))
            obtain ⟨V3, hV3⟩ : ∃ V3, w2.setCell ⟨Y, 4, none⟩ (.slice A2 m2 k2_) = V3 := ⟨_, rfl⟩
            rw [hV3] at HV3 HR3 ⊢
            clear hV3 x4 y4
            obtain ⟨_, _, _, _, _, g5⟩ := HV3.out.1.cells
            obtain ⟨kh, hkh⟩ := (PCoa.has_f s rd (by rw [HN5.out]; omega)).rounds
            have hh := PCoa.pinfoldref14_has.calls kh A5 c5 rd s (decide (s ∈ rd)) V3 (Kd.C_below H5.out HV3.out.1.1) (by rw [HN5.out]; exact hc5) hkh
            rw [HN5.out] at hh
            have HHas := Lib.hid hh
            have HB3 : Hid (w.heap.size ≤ V.heap.size) := HSub
            clear hh hkh y0 y1 y2 y3 y5 g4 ga4
            by_cases hin : s ∈ rd
            · rw [decide_eq_true hin] at HHas
              have he : rTake ⟨true, owner, socket, passes, ws, rd⟩ t s = (⟨true, owner, socket, passes, ws ++ [(t, s)], rd⟩, false, 0) := by
                unfold rTake
                rw [if_neg hneg, if_neg (fun e => HNE.out e.2), if_neg (by rw [HAny.out]; simp), if_neg (by simp)]
                simp only [if_pos hin]
              have hp := HPost.out ⟨true, owner, socket, passes, ws ++ [(t, s)], rd⟩ false 0 (.slice A2 m2 k2_) (.slice A5 n5 c5)
              have HP := Lib.hid (fun w' q => hp w' he q (.inl ⟨rfl, rfl⟩))
              clear hp he HPost hin
              go_upto_if 62 with (first
                | (go_at_call 135; refine (HHas.out).mono ?_; rintro e w5 ⟨rfl, ⟨nd, rfl⟩⟩)
                | fail)
              obtain ⟨V5, hV5⟩ : ∃ V5, V3.drewN nd = V5 := ⟨_, rfl⟩
              have hb5 : Below V3.heap.size V3 V5 := hV5 ▸ bel_drewN (Below.refl _ _) nd
              have HV5 := Lib.hid (HV3.out.behind hb5)
              have HR5 := Lib.hid (Kd.R_below HR3.out hb5)
              rw [hV5]
              clear hV5 hb5 g5
              obtain ⟨y0, y1, y2, y3, y4, y5⟩ := HV5.out.cells
              obtain ⟨r0, r1, r2, r3, r4, r5⟩ := HV5.out.1.res
              have z0 := HV5.out.1.frz 0
              have z1 := HV5.out.1.frz 1
              have z2 := HV5.out.1.frz 2
              have z3 := HV5.out.1.frz 3
              have z4 := HV5.out.1.frz 4
              have z5 := HV5.out.1.frz 5
              go_wp2
              refine bodyPost_ret (results_cell3 rfl _ _ (w.heap.size + 1) 156 #[_, _, _, _, _, _] (0, 0) _ rfl (HV5.out.1.out _ _ _ _ _ _).1 Try.underlying156 rfl (by kernel_rfl)) rfl ?_
              exact HP.out _ (.inr (Kd.R_lower (HV5.out.1.row6 HR5.out (by decide) _ _ _ _ _ _) HB3.out)) (HV5.out.1.out _ _ _ _ _ _).2
            · rw [decide_eq_false hin] at HHas
              have he : rTake ⟨true, owner, socket, passes, ws, rd⟩ t s = (⟨true, owner, socket, passes, ws ++ [(t, s)], rd ++ [s]⟩, false, 0) := by
                unfold rTake
                rw [if_neg hneg, if_neg (fun e => HNE.out e.2), if_neg (by rw [HAny.out]; simp), if_neg (by simp)]
                simp only [if_neg hin]
              have hp := fun A9 m9 k9 => HPost.out ⟨true, owner, socket, passes, ws ++ [(t, s)], rd ++ [s]⟩ false 0 (.slice A2 m2 k2_) (.slice A9 m9 k9)
              have HP := Lib.hid (fun A9 m9 k9 w' q q2 => hp A9 m9 k9 w' he q q2)
              clear hp he HPost hin
              go_upto_region 16 with (first
                | (go_at_call 135; refine (HHas.out).mono ?_; rintro e w5 ⟨rfl, ⟨nd, rfl⟩⟩)
                | fail)
              obtain ⟨V5, hV5⟩ : ∃ V5, V3.drewN nd = V5 := ⟨_, rfl⟩
              have hb5 : Below V3.heap.size V3 V5 := hV5 ▸ bel_drewN (Below.refl _ _) nd
              have HV5 := Lib.hid (HV3.out.behind hb5)
              have HR5 := Lib.hid (Kd.R_below HR3.out hb5)
              rw [hV5]
              clear hV5 hb5 g5
              obtain ⟨_, _, _, _, _, ga5⟩ := (HV5.out.behind ((Below.refl V5.heap.size V5).alloc (Nat.le_refl _) (.cells #[] 3))).1.cells
              obtain ⟨_, _, _, _, _, g5⟩ := HV5.out.1.cells
              have HC5 := Lib.hid (Kd.C_below H5.out HV5.out.1.1)
              rw [HN5.out] at HC5
              have HB5 := Lib.hid HV5.out.1.1.size
              have HL3 : Hid ((([] : List Int).length + n5) * 8 ≤ 140737488355328) := Lib.hid (by simp only [List.length_nil]; omega)
              have HL4 : Hid ((rd.length + 1) * 8 ≤ 140737488355328) := Lib.hid (by rw [HN5.out]; omega)
              go_upto_region 17 with (first
                | (at_builtin; refine Kd.R_append (Kd.int .i64) (w0 := V5) V5.heap.size rfl (.tmp 66) (.tmp 68) 27 3 (.int .i64 0) 8 rfl Try.underlying27 infoInt rfl (by decide) (by decide) (.slice A6 m6 k6_) rd s [.int .i64 s] (fun _ => True) (fun _ => False) rfl rfl rfl (fun _ q => q.elim) (fun _ _ => trivial) HR6.out HB6.out HB6.out.size HL4.out ?_; intro v7 w7 hR7 hB7 hg7 hat7; obtain ⟨A7, k7_, e7_⟩ := Kd.R_slice hR7; subst e7_; obtain ⟨m7, hm7_⟩ : ∃ m7, (rd ++ [s]).length = m7 := ⟨_, rfl⟩; rw [hm7_] at hR7 ⊢; have HR7 := Lib.hid hR7; have HB7 := Lib.hid hB7; have HV7 := Lib.hid (HV5.out.behind hB7); have y5 := HV7.out.cells.2.2.2.2.2; have x5 := HV7.out.frz 5; clear hR7 hB7 hg7 hat7 hm7_)
                | (at_builtin; refine Kd.R_append_rows (Kd.int .i64) (w0 := V5) (Rr := (Kd.int .i64).K V5) V5.heap.size rfl (.tmp 63) (.tmp 65) 27 3 (.int .i64 0) 8 rfl Try.underlying27 infoInt rfl (by decide) (by decide) (.slice (some ⟨V5.heap.size, 0, none⟩) 0 0) [] rd A5 n5 c5 (fun _ => True) (fun _ => False) rfl rfl (R_new (Kd.int .i64) _ _) (Kd.C_below HC5.out (bel_alloc (bel_refl _) _)) (fun _ _ q => q) (fun _ q => q.elim) (fun _ _ => trivial) (bel_alloc (bel_refl _) _) (by simp [go_sem]) HL3.out ?_; intro v6 w6 hR6 hB6 hg6 hat6; rw [List.nil_append] at hR6; obtain ⟨A6, k6_, e6_⟩ := Kd.R_slice hR6; subst e6_; obtain ⟨m6, hm6_⟩ : ∃ m6, rd.length = m6 := ⟨_, rfl⟩; rw [hm6_] at hR6 ⊢; have HR6 := Lib.hid hR6; have HB6 := Lib.hid hB6; clear hR6 hB6 hg6 hat6 hm6_)
                | fail)
              have HV8 := Lib.hid (HV7.out.put 5 (.slice A7 m7 k7_) (z4 := .slice A2 m2 k2_) (z5 := .slice A7 m7 k7_) rfl)
              have HR8 := Lib.hid (HV7.out.row HR7.out (by decide) 5 (.slice A7 m7 k7_))
              have HRW8 := Lib.hid (HV7.out.row (Kd.R_below HR5.out HB7.out) (by decide) 5 (.slice A7 m7 k7_))
              obtain ⟨V8, hV8⟩ : ∃ V8, w7.setCell ⟨Y, 5, none⟩ (.slice A7 m7 k7_) = V8 := ⟨_, rfl⟩
              rw [hV8] at HV8 HR8 HRW8 ⊢
              clear hV8 x5 y5 g5 ga5
              obtain ⟨y0, y1, y2, y3, y4, y5⟩ := HV8.out.cells
              obtain ⟨r0, r1, r2, r3, r4, r5⟩ := HV8.out.1.res
              have z0 := HV8.out.1.frz 0
              have z1 := HV8.out.1.frz 1
              have z2 := HV8.out.1.frz 2
              have z3 := HV8.out.1.frz 3
              have z4 := HV8.out.1.frz 4
              have z5 := HV8.out.1.frz 5
              go_wp2
              refine bodyPost_ret (results_cell3 rfl _ _ (w.heap.size + 1) 156 #[_, _, _, _, _, _] (0, 0) _ rfl (HV8.out.1.out _ _ _ _ _ _).1 Try.underlying156 rfl (by kernel_rfl)) rfl ?_
              exact HP.out _ _ _ _ (.inr (Kd.R_lower (HV8.out.1.row6 HRW8.out (by decide) _ _ _ _ _ _) HB3.out)) (.inr (Kd.R_lower (HV8.out.1.row6 HR8.out (by decide) _ _ _ _ _ _) HB5.out)) (HV8.out.1.out _ _ _ _ _ _).2
end Go.Proofs.Ytgiimdoabkcoaaa.Co

/-
The document's Give, walked.
-/
namespace Go.Proofs.Ytgiimdoabkcoaaa.Co
set_option linter.unusedVariables false
set_option linter.unusedSimpArgs false
open Go.RowKit Go.Proofs.YtgiimdoabkcoaaaW.PrintWords Go.Proofs.YtgiimdoabkcoaaaW.PrintLast Go.Proofs.YtgiimdoabkcoaaaW.PrintMore
theorem results_cell4 {P : Program} {fn : Func} {p a b c : Tmp} {ty : TypeId} (h : fn.results = #[.cell p ty, .tmp a, .tmp b, .tmp c]) (tmps : Array Value) (w : World) (g : Nat) (t : TypeId) (cs : Array Value) (fr : Nat × Nat) (d : TypeDesc)
    (hp : tmps.getD p undef = .pointer (some ⟨g, 0, none⟩)) (hg : w.heap[g]? = some (.cells cs t fr))
    (hu : P.underlying ty = some d) (hd : (match d with | .struct _ | .array _ _ => true | _ => false) = true) (hi : (P.info? ty).map (·.size) = some cs.size) :
    (results fn tmps).run P w = .ok (.tuple #[.agg cs, tmps.getD a undef, tmps.getD b undef, tmps.getD c undef]) w := by
  have hp' : tmps[p]?.getD undef = .pointer (some ⟨g, 0, none⟩) := by simpa using hp
  simp [results, h, hp', asAddr, run_loadVar_row w g t ty cs fr d hg hu hd hi]
abbrev K95 : Kd PCoa.SW := PCoa.k95
/-- where the argument and the result lie, beside rows (P) that may change. -/
def RG (w0 w W : World) (P : Nat → Prop) (y : DL) (v4 v5 : Value) : Prop := Below w0.heap.size w0 W ∧ Kept w W P ∧ W.heap[w.heap.size]? = some (.cells (rC y v4 v5) 156 (0, 0)) ∧ W.heap[w.heap.size + 1]? = some (.cells (rC dl0 (.slice none 0 0) (.slice none 0 0)) 156 (0, 0))
section
variable {w0 w W W1 : World} {P : Nat → Prop} {y : DL} {v4 v5 : Value}
theorem RG.start (hB : Below w0.heap.size w0 w) (P : Nat → Prop) (y : DL) (v4 v5 : Value) : RG w0 w ((w.alloc (.cells (rC y v4 v5) 156)).alloc (.cells (rC dl0 (.slice none 0 0) (.slice none 0 0)) 156)) P y v4 v5 := by
  obtain ⟨h1, h2, h3⟩ := RT.start w y v4 v5
  exact ⟨Below_trans hB h1, Kept.of_below h1 P, h2, h3⟩
theorem RG.step (h : RG w0 w W P y v4 v5) (hP : ∀ k, P k → k < w.heap.size) (hb : Below w0.heap.size w0 W1) (hk : Kept W W1 P) : RG w0 w W1 P y v4 v5 := by
  obtain ⟨h1, h2, h3, h4⟩ := h
  have l3 := (Array.getElem?_eq_some_iff.1 h3).1
  have l4 := (Array.getElem?_eq_some_iff.1 h4).1
  exact ⟨hb, h2.then_ hk (fun k q => .inl q), (hk.2 _ l3 (fun q => absurd (hP _ q) (Nat.lt_irrefl _))).trans h3, (hk.2 _ l4 (fun q => absurd (hP _ q) (by omega))).trans h4⟩
theorem RG.behind (h : RG w0 w W P y v4 v5) (hP : ∀ k, P k → k < w.heap.size) (hb : Below W.heap.size W W1) : RG w0 w W1 P y v4 v5 :=
  h.step hP (Below_trans h.1 hb) (Kept.of_below hb P)
theorem RG.cells (h : RG w0 w W P y v4 v5) : W.cell? ⟨w.heap.size, 0, none⟩ = some (.bool y.held) ∧ W.cell? ⟨w.heap.size, 1, none⟩ = some (.int .i64 y.owner) ∧ W.cell? ⟨w.heap.size, 2, none⟩ = some (.int .i64 y.socket) ∧ W.cell? ⟨w.heap.size, 3, none⟩ = some (.int .i64 y.passes) ∧ W.cell? ⟨w.heap.size, 4, none⟩ = some v4 ∧ W.cell? ⟨w.heap.size, 5, none⟩ = some v5 :=
  ⟨cell_of_heap h.2.2.1 rfl, cell_of_heap h.2.2.1 rfl, cell_of_heap h.2.2.1 rfl, cell_of_heap h.2.2.1 rfl, cell_of_heap h.2.2.1 rfl, cell_of_heap h.2.2.1 rfl⟩
theorem RG.res (h : RG w0 w W P y v4 v5) : W.cell? ⟨w.heap.size + 1, 0, none⟩ = some (.bool false) ∧ W.cell? ⟨w.heap.size + 1, 1, none⟩ = some (.int .i64 0) ∧ W.cell? ⟨w.heap.size + 1, 2, none⟩ = some (.int .i64 0) ∧ W.cell? ⟨w.heap.size + 1, 3, none⟩ = some (.int .i64 0) ∧ W.cell? ⟨w.heap.size + 1, 4, none⟩ = some (.slice none 0 0) ∧ W.cell? ⟨w.heap.size + 1, 5, none⟩ = some (.slice none 0 0) :=
  ⟨cell_of_heap h.2.2.2 rfl, cell_of_heap h.2.2.2 rfl, cell_of_heap h.2.2.2 rfl, cell_of_heap h.2.2.2 rfl, cell_of_heap h.2.2.2 rfl, cell_of_heap h.2.2.2 rfl⟩
theorem RG.frz (h : RG w0 w W P y v4 v5) (j : Nat) : W.frozen? ⟨w.heap.size + 1, j, none⟩ = false := fz_of_heap h.2.2.2 j
theorem six_heap {g T : Nat} {cs : Array Value} (h : W.heap[g]? = some (.cells cs T (0, 0))) (hs : cs.size = 6) (u0 u1 u2 u3 u4 u5 : Value) :
    ((((((W.setCell ⟨g, 0, none⟩ u0).setCell ⟨g, 1, none⟩ u1).setCell ⟨g, 2, none⟩ u2).setCell ⟨g, 3, none⟩ u3).setCell ⟨g, 4, none⟩ u4).setCell ⟨g, 5, none⟩ u5).heap[g]? = some (.cells #[u0, u1, u2, u3, u4, u5] T (0, 0)) := by
  obtain ⟨l⟩ := cs
  match l, hs with
  | [a0, a1, a2, a3, a4, a5], _ =>
    refine blk_put (cs := #[u0, u1, u2, u3, u4, a5]) ?_ 5 _ rfl
    refine blk_put (cs := #[u0, u1, u2, u3, a4, a5]) ?_ 4 _ rfl
    refine blk_put (cs := #[u0, u1, u2, a3, a4, a5]) ?_ 3 _ rfl
    refine blk_put (cs := #[u0, u1, a2, a3, a4, a5]) ?_ 2 _ rfl
    refine blk_put (cs := #[u0, a1, a2, a3, a4, a5]) ?_ 1 _ rfl
    refine blk_put (cs := #[a0, a1, a2, a3, a4, a5]) ?_ 0 _ rfl
    exact h
theorem RG.out (h : RG w0 w W P y v4 v5) (hw : w0.heap.size ≤ w.heap.size) (u0 u1 u2 u3 u4 u5 : Value) :
    ((((((W.setCell ⟨w.heap.size + 1, 0, none⟩ u0).setCell ⟨w.heap.size + 1, 1, none⟩ u1).setCell ⟨w.heap.size + 1, 2, none⟩ u2).setCell ⟨w.heap.size + 1, 3, none⟩ u3).setCell ⟨w.heap.size + 1, 4, none⟩ u4).setCell ⟨w.heap.size + 1, 5, none⟩ u5).heap[w.heap.size + 1]? = some (.cells #[u0, u1, u2, u3, u4, u5] 156 (0, 0)) ∧
    Below w0.heap.size w0 ((((((W.setCell ⟨w.heap.size + 1, 0, none⟩ u0).setCell ⟨w.heap.size + 1, 1, none⟩ u1).setCell ⟨w.heap.size + 1, 2, none⟩ u2).setCell ⟨w.heap.size + 1, 3, none⟩ u3).setCell ⟨w.heap.size + 1, 4, none⟩ u4).setCell ⟨w.heap.size + 1, 5, none⟩ u5) ∧
    Kept w ((((((W.setCell ⟨w.heap.size + 1, 0, none⟩ u0).setCell ⟨w.heap.size + 1, 1, none⟩ u1).setCell ⟨w.heap.size + 1, 2, none⟩ u2).setCell ⟨w.heap.size + 1, 3, none⟩ u3).setCell ⟨w.heap.size + 1, 4, none⟩ u4).setCell ⟨w.heap.size + 1, 5, none⟩ u5) P := by
  have hle : w0.heap.size ≤ w.heap.size + 1 := Nat.le_succ_of_le hw
  have hge : w.heap.size ≤ w.heap.size + 1 := Nat.le_succ _
  refine ⟨six_heap h.2.2.2 rfl _ _ _ _ _ _, ?_, ?_⟩
  · refine below_set ?_ hle
    refine below_set ?_ hle
    refine below_set ?_ hle
    refine below_set ?_ hle
    refine below_set ?_ hle
    refine below_set ?_ hle
    exact h.1
  · refine Kept.setCell ?_ (.inr hge) _
    refine Kept.setCell ?_ (.inr hge) _
    refine Kept.setCell ?_ (.inr hge) _
    refine Kept.setCell ?_ (.inr hge) _
    refine Kept.setCell ?_ (.inr hge) _
    refine Kept.setCell ?_ (.inr hge) _
    exact h.2.1
theorem RG.row6 {α : Type} {d : Kd α} {e base : Nat} {v : Value} {xs : List α} {ok : Nat → Prop} (h : RG w0 w W P y v4 v5) (hR : d.R e W base ok v xs) (ht : ∀ q, q ∈ e :: d.E → q ≠ 156) (u0 u1 u2 u3 u4 u5 : Value) :
    d.R e ((((((W.setCell ⟨w.heap.size + 1, 0, none⟩ u0).setCell ⟨w.heap.size + 1, 1, none⟩ u1).setCell ⟨w.heap.size + 1, 2, none⟩ u2).setCell ⟨w.heap.size + 1, 3, none⟩ u3).setCell ⟨w.heap.size + 1, 4, none⟩ u4).setCell ⟨w.heap.size + 1, 5, none⟩ u5) base ok v xs :=
  Kd.R_mono (Kd.R_far (p := ⟨w.heap.size + 1, 5, none⟩) (Kd.R_far (p := ⟨w.heap.size + 1, 4, none⟩) (Kd.R_far (p := ⟨w.heap.size + 1, 3, none⟩) (Kd.R_far (p := ⟨w.heap.size + 1, 2, none⟩) (Kd.R_far (p := ⟨w.heap.size + 1, 1, none⟩) (Kd.R_far (p := ⟨w.heap.size + 1, 0, none⟩) (Kd.R_types hR h.2.2.2 ht) (fun _ hk => hk.2) u0) (fun _ hk => hk.2) u1) (fun _ hk => hk.2) u2) (fun _ hk => hk.2) u3) (fun _ hk => hk.2) u4) (fun _ hk => hk.2) u5) (fun _ hk => hk.1)
end
section
variable {w0 w W : World} {P : Nat → Prop} {y : DL} {v4 v5 : Value} {Y j : Nat}
theorem RG.other (h : RG w0 w W P y v4 v5) (hw : w0.heap.size ≤ w.heap.size) (hY : w.heap.size + 1 < Y) (u : Value) : RG w0 w (W.setCell ⟨Y, j, none⟩ u) P y v4 v5 := by
  obtain ⟨h1, h2, h3, h4⟩ := h
  exact ⟨below_set h1 (by omega), Kept.setCell h2 (.inr (by show w.heap.size ≤ Y; omega)) _, (Below.heap_setCell W ⟨Y, j, none⟩ u _ (by show w.heap.size ≠ Y; omega)).trans h3, (Below.heap_setCell W ⟨Y, j, none⟩ u _ (by show w.heap.size + 1 ≠ Y; omega)).trans h4⟩
theorem RG.lt (h : RG w0 w W P y v4 v5) : w.heap.size + 1 < W.heap.size := (Array.getElem?_eq_some_iff.1 h.2.2.2).1
theorem row_other {α : Type} {d : Kd α} {e base : Nat} {v : Value} {xs : List α} {ok : Nat → Prop} {cs : Array Value} {T : Nat} (hR : d.R e W base ok v xs) (hb : W.heap[Y]? = some (.cells cs T (0, 0))) (ht : ∀ q, q ∈ e :: d.E → q ≠ T) (u : Value) : d.R e (W.setCell ⟨Y, j, none⟩ u) base ok v xs :=
  Kd.R_mono (Kd.R_far (p := ⟨Y, j, none⟩) (Kd.R_types hR hb ht) (fun _ hk => hk.2) u) (fun _ hk => hk.1)
end
section
variable {w0 w W : World} {P : Nat → Prop} {y : DL} {v4 v5 : Value}
theorem RG.outD (h : RG w0 w W P y v4 v5) (hw : w0.heap.size ≤ w.heap.size) (u0 u1 u2 u3 u4 u5 : Value) :
    (((((((W.setCell ⟨w.heap.size + 1, 0, none⟩ u0).setCell ⟨w.heap.size + 1, 1, none⟩ u1).setCell ⟨w.heap.size + 1, 2, none⟩ u2).setCell ⟨w.heap.size + 1, 3, none⟩ u3).setCell ⟨w.heap.size + 1, 4, none⟩ u4).setCell ⟨w.heap.size + 1, 5, none⟩ u5).drew).heap[w.heap.size + 1]? = some (.cells #[u0, u1, u2, u3, u4, u5] 156 (0, 0)) ∧ Below w0.heap.size w0 (((((((W.setCell ⟨w.heap.size + 1, 0, none⟩ u0).setCell ⟨w.heap.size + 1, 1, none⟩ u1).setCell ⟨w.heap.size + 1, 2, none⟩ u2).setCell ⟨w.heap.size + 1, 3, none⟩ u3).setCell ⟨w.heap.size + 1, 4, none⟩ u4).setCell ⟨w.heap.size + 1, 5, none⟩ u5).drew) ∧ Kept w (((((((W.setCell ⟨w.heap.size + 1, 0, none⟩ u0).setCell ⟨w.heap.size + 1, 1, none⟩ u1).setCell ⟨w.heap.size + 1, 2, none⟩ u2).setCell ⟨w.heap.size + 1, 3, none⟩ u3).setCell ⟨w.heap.size + 1, 4, none⟩ u4).setCell ⟨w.heap.size + 1, 5, none⟩ u5).drew) P := by
  have hh := h.out hw u0 u1 u2 u3 u4 u5
  generalize ((((((W.setCell ⟨w.heap.size + 1, 0, none⟩ u0).setCell ⟨w.heap.size + 1, 1, none⟩ u1).setCell ⟨w.heap.size + 1, 2, none⟩ u2).setCell ⟨w.heap.size + 1, 3, none⟩ u3).setCell ⟨w.heap.size + 1, 4, none⟩ u4).setCell ⟨w.heap.size + 1, 5, none⟩ u5) = X at hh ⊢
  exact ⟨blk_drew hh.1, bel_drew hh.2.1, Kept.drew hh.2.2⟩
theorem RG.row6D {α : Type} {d : Kd α} {e base : Nat} {v : Value} {xs : List α} {ok : Nat → Prop} (h : RG w0 w W P y v4 v5) (hR : d.R e W base ok v xs) (ht : ∀ q, q ∈ e :: d.E → q ≠ 156) (u0 u1 u2 u3 u4 u5 : Value) :
    d.R e (((((((W.setCell ⟨w.heap.size + 1, 0, none⟩ u0).setCell ⟨w.heap.size + 1, 1, none⟩ u1).setCell ⟨w.heap.size + 1, 2, none⟩ u2).setCell ⟨w.heap.size + 1, 3, none⟩ u3).setCell ⟨w.heap.size + 1, 4, none⟩ u4).setCell ⟨w.heap.size + 1, 5, none⟩ u5).drew) base ok v xs := by
  have hh := h.row6 hR ht u0 u1 u2 u3 u4 u5
  generalize ((((((W.setCell ⟨w.heap.size + 1, 0, none⟩ u0).setCell ⟨w.heap.size + 1, 1, none⟩ u1).setCell ⟨w.heap.size + 1, 2, none⟩ u2).setCell ⟨w.heap.size + 1, 3, none⟩ u3).setCell ⟨w.heap.size + 1, 4, none⟩ u4).setCell ⟨w.heap.size + 1, 5, none⟩ u5) = X at hh ⊢
  exact Kd.R_drew hh
end
/-- told, from wherever the rows still lie. -/
theorem told_ready (y : DL) (s : Int) {w0 w : World} {P : Nat → Prop} {A4 : Option Addr} {c4 : Nat} {v5 : Value} (h4 : ∀ W_, Kept w W_ P → K95.C W_ A4 (y.waits.map PCoa.ofW).length (y.waits.map PCoa.ofW)) (hc4 : y.waits.length ≤ c4) (hl4 : y.waits.length ≤ 1000) (hl5 : y.round.length ≤ 1000) :
    ∀ W : World, Below w0.heap.size w0 W → Kept w W P → (Kd.int .i64).R 3 W w0.heap.size P v5 y.round →
      Calls Try.prog 136 #[.agg #[.bool y.held, .int .i64 y.owner, .int .i64 y.socket, .int .i64 y.passes, .slice A4 y.waits.length c4, v5], .int .i64 s] W fun e w' => ∃ B4 k4 B5 k5, e = .returned (.agg #[.bool y.held, .int .i64 (rTold y s).owner, .int .i64 y.socket, .int .i64 y.passes, .slice B4 (rTold y s).waits.length k4, .slice B5 (rTold y s).round.length k5]) ∧ K95.R 95 w' w0.heap.size (fun k => P k ∨ W.heap.size ≤ k) (.slice B4 (rTold y s).waits.length k4) ((rTold y s).waits.map PCoa.ofW) ∧ (Kd.int .i64).R 3 w' w0.heap.size (fun k => P k ∨ W.heap.size ≤ k) (.slice B5 (rTold y s).round.length k5) (rTold y s).round ∧ Below w0.heap.size w0 w' ∧ Kept W w' P := by
  intro W hB hK h5
  obtain ⟨k, hk⟩ := (PCoa.told_f y s (by omega) (by omega)).rounds
  have h := PCoa.pinfoldref14_told.calls k y.held y.owner y.socket y.passes A4 c4 (y.waits.map PCoa.ofW) P v5 y.round s _ _ _ _ _ _ w0 W hB (fun W_ hW => h4 W_ (hK.then_ hW (fun k q => .inl q))) (by rw [List.length_map]; exact hc4) h5 hk
  rw [List.length_map] at h
  refine h.mono ?_
  rintro e w' ⟨v4, v6, rfl, q1, q2, q3, q4⟩
  obtain ⟨B4, k4, rfl⟩ := Kd.R_slice q1
  obtain ⟨B5, k5, rfl⟩ := Kd.R_slice q2
  rw [List.length_map] at q1 ⊢
  exact ⟨B4, k4, B5, k5, rfl, q1, q2, q3, q4⟩
def OldNew (w0 w w' : World) (P : Nat → Prop) (v0 v : Value) (l0 l : List Wt) : Prop := (v = v0 ∧ l = l0) ∨ K95.R 95 w' w0.heap.size (fun k => P k ∨ w.heap.size ≤ k) v (l.map PCoa.ofW)
def RGivePost (w0 w : World) (P : Nat → Prop) (y z : DL) (nx : Int) (b : Bool) (er : Int) (u4 : Value) (e : Ending) (w' : World) : Prop :=
  ∃ v4 v5, e = .returned (.tuple #[.agg (rC z v4 v5), .int .i64 nx, .bool b, .int .i64 er]) ∧ OldNew w0 w w' P u4 v4 y.waits z.waits ∧ (Kd.int .i64).R 3 w' w0.heap.size (fun k => P k ∨ w.heap.size ≤ k) v5 z.round ∧ Below w0.heap.size w0 w' ∧ Kept w w' P
theorem told_round_le (y : DL) (s : Int) : (rTold y s).round.length ≤ y.round.length := by
  unfold rTold
  dsimp only
  split
  · exact List.length_filter_le _ _
  · exact Nat.le_refl _
theorem R_deep {α : Type} {d : Kd α} {e : Nat} {w0 w V W1 : World} {P : Nat → Prop} {v : Value} {xs : List α} (h : d.R e W1 V.heap.size (fun _ => True) v xs) (h0 : w0.heap.size ≤ V.heap.size) (h1 : w.heap.size ≤ V.heap.size) : d.R e W1 w0.heap.size (fun k => P k ∨ w.heap.size ≤ k) v xs :=
  Kd.R_lower (Kd.R_mono (Kd.R_bound h) (fun k hk => .inr (Nat.le_trans h1 hk.2.1))) h0
theorem take_filter_le (l : List Int) (s : Int) (j n : Nat) (hl : l.length ≤ n) : ((l.take j).filter (ne s)).length ≤ n := by
  refine Nat.le_trans (List.length_filter_le _ _) ?_
  rw [List.length_take]
  omega
set_option maxRecDepth 100000 in
set_option maxHeartbeats 4000000 in
theorem rgive_calls (w0 w : World) (hB : Below w0.heap.size w0 w) (y : DL) (P : Nat → Prop) (hP : ∀ k, P k → k < w.heap.size) (t : Int) (A4 A5 : Option Addr) (c4 c5 : Nat) (h4 : ∀ W_, Kept w W_ P → K95.C W_ A4 (y.waits.map PCoa.ofW).length (y.waits.map PCoa.ofW)) (hc4 : y.waits.length ≤ c4)
    (h5 : (Kd.int .i64).R 3 w w0.heap.size P (.slice A5 y.round.length c5) y.round) (hl4 : y.waits.length ≤ 1000) (hl5 : y.round.length ≤ 1000) (hw : y.waits = [] ∨ y.round ≠ []) (hp0 : 0 ≤ y.passes ∧ y.passes ≤ 1000000) :
    Calls Try.prog 105 #[.agg #[.bool y.held, .int .i64 y.owner, .int .i64 y.socket, .int .i64 y.passes, .slice A4 y.waits.length c4, .slice A5 y.round.length c5], .int .i64 t] w
      (RGivePost w0 w P y (rGive y t).1 (rGive y t).2.1 (rGive y t).2.2.1 (rGive y t).2.2.2 (.slice A4 y.waits.length c4)) := by
  obtain ⟨held, owner, socket, passes, ws, rd⟩ := y
  dsimp only at h4 h5 hc4 hl4 hl5 hw hp0 ⊢
  have H4 := Lib.hid h4
  have H5 := Lib.hid h5
  have HP0 := Lib.hid hP
  have HBw := Lib.hid hB
  have HSz := Lib.hid hB.size
  have HW := Lib.hid hw
  have HPs := Lib.hid hp0
  have HPost : Hid (∀ z nx b er v4 v5 w', rGive ⟨held, owner, socket, passes, ws, rd⟩ t = (z, nx, b, er) → OldNew w0 w w' P (.slice A4 ws.length c4) v4 ws z.waits → (Kd.int .i64).R 3 w' w0.heap.size (fun k => P k ∨ w.heap.size ≤ k) v5 z.round → Below w0.heap.size w0 w' → Kept w w' P → RGivePost w0 w P ⟨held, owner, socket, passes, ws, rd⟩ (rGive ⟨held, owner, socket, passes, ws, rd⟩ t).1 (rGive ⟨held, owner, socket, passes, ws, rd⟩ t).2.1 (rGive ⟨held, owner, socket, passes, ws, rd⟩ t).2.2.1 (rGive ⟨held, owner, socket, passes, ws, rd⟩ t).2.2.2 (.slice A4 ws.length c4) (.returned (.tuple #[.agg (rC z v4 v5), .int .i64 nx, .bool b, .int .i64 er])) w') := Lib.hid (by
    intro z nx b er v4 v5 w' he q1 q2 q3 q4
    rw [he]
    exact ⟨v4, v5, rfl, q1, q2, q3, q4⟩)
  obtain ⟨n4, hn4⟩ : ∃ n4, ws.length = n4 := ⟨_, rfl⟩
  obtain ⟨n5, hn5⟩ : ∃ n5, rd.length = n5 := ⟨_, rfl⟩
  have HN4 := Lib.hid hn4
  have HN5 := Lib.hid hn5
  rw [hn4] at hc4 hl4
  rw [hn5] at hl5 H5
  rw [hn4] at HPost
  rw [hn4, hn5]
  clear h4 h5 hn4 hn5 hP hB hw hp0
  obtain ⟨Q, hQ⟩ : ∃ Q, RGivePost w0 w P ⟨held, owner, socket, passes, ws, rd⟩ (rGive ⟨held, owner, socket, passes, ws, rd⟩ t).1 (rGive ⟨held, owner, socket, passes, ws, rd⟩ t).2.1 (rGive ⟨held, owner, socket, passes, ws, rd⟩ t).2.2.1 (rGive ⟨held, owner, socket, passes, ws, rd⟩ t).2.2.2 (.slice A4 n4 c4) = Q := ⟨_, rfl⟩
  rw [hQ] at HPost ⊢
  clear hQ
  go_enter Try.func105, Try.ntmps105
  go_upto_region 1 with (fail)
  obtain ⟨W, hW⟩ : ∃ W, W = (w.alloc (.cells (rC ⟨held, owner, socket, passes, ws, rd⟩ (.slice A4 n4 c4) (.slice A5 n5 c5)) 156)).alloc (.cells (rC dl0 (.slice none 0 0) (.slice none 0 0)) 156) := ⟨_, rfl⟩
  have hrt : RG w0 w W P ⟨held, owner, socket, passes, ws, rd⟩ (.slice A4 n4 c4) (.slice A5 n5 c5) := by rw [hW]; exact RG.start HBw.out _ _ _ _
  have hbw : Below w.heap.size w W := by rw [hW]; exact bel_alloc (bel_alloc (bel_refl _) _) _
  rw [show ((w.alloc (.cells #[.bool held, .int .i64 owner, .int .i64 socket, .int .i64 passes, .slice A4 n4 c4, .slice A5 n5 c5] 156)).alloc (.cells #[.bool false, .int .i64 0, .int .i64 0, .int .i64 0, .slice none 0 0, .slice none 0 0] 156)) = W from hW.symm]
  have HRT := Lib.hid hrt
  have HR5 := Lib.hid (Kd.R_below H5.out hbw)
  obtain ⟨c0, c1, c2, c3, c4', c5'⟩ := HRT.out.cells
  obtain ⟨r0, r1, r2, r3, r4, r5⟩ := HRT.out.res
  have z0 := HRT.out.frz 0
  have z1 := HRT.out.frz 1
  have z2 := HRT.out.frz 2
  have z3 := HRT.out.frz 3
  have z4 := HRT.out.frz 4
  have z5 := HRT.out.frz 5
  clear hW hrt hbw
  by_cases hno : held = false ∨ owner ≠ t
  · have he : rGive ⟨held, owner, socket, passes, ws, rd⟩ t = (⟨held, owner, socket, passes, ws, rd⟩, 0, false, 8) := by unfold rGive; rw [if_pos hno]
    have hp := HPost.out ⟨held, owner, socket, passes, ws, rd⟩ 0 false 8 (.slice A4 n4 c4) (.slice A5 n5 c5)
    have HP := Lib.hid (fun w' => hp w' he (.inl ⟨rfl, rfl⟩))
    clear hp he HPost
    have hcase : held = false ∨ (held = true ∧ (owner != t) = true) := by
      cases held with
      | false => exact .inl rfl
      | true => exact .inr ⟨rfl, by simpa using hno.resolve_left (by simp)⟩
    clear hno
    rcases hcase with rfl | ⟨rfl, hot⟩
    · go_wp2
      refine bodyPost_ret (results_cell4 rfl _ _ (w.heap.size + 1) 156 #[_, _, _, _, _, _] (0, 0) _ rfl (HRT.out.out HSz.out _ _ _ _ _ _).1 Try.underlying156 rfl (by kernel_rfl)) rfl ?_
      exact HP.out _ (Kd.R_mono (HRT.out.row6 HR5.out (by decide) _ _ _ _ _ _) (fun k hk => .inl hk)) (HRT.out.out HSz.out _ _ _ _ _ _).2.1 (HRT.out.out HSz.out _ _ _ _ _ _).2.2
    · go_wp2
      refine bodyPost_ret (results_cell4 rfl _ _ (w.heap.size + 1) 156 #[_, _, _, _, _, _] (0, 0) _ rfl (HRT.out.out HSz.out _ _ _ _ _ _).1 Try.underlying156 rfl (by kernel_rfl)) rfl ?_
      exact HP.out _ (Kd.R_mono (HRT.out.row6 HR5.out (by decide) _ _ _ _ _ _) (fun k hk => .inl hk)) (HRT.out.out HSz.out _ _ _ _ _ _).2.1 (HRT.out.out HSz.out _ _ _ _ _ _).2.2
  · obtain ⟨rfl, rfl⟩ : held = true ∧ owner = t := by
      cases held with
      | false => exact absurd (.inl rfl) hno
      | true => exact ⟨rfl, Classical.byContradiction (fun e => hno (.inr e))⟩
    have hot : (owner != owner) = false := by simp
    by_cases hn0 : ws = []
    · have he : rGive ⟨true, owner, socket, passes, ws, rd⟩ owner = (dl0, 0, false, 0) := by unfold rGive; rw [if_neg hno, if_pos hn0]
      have hp := HPost.out dl0 0 false 0 (.slice none 0 0) (.slice none 0 0)
      have HP := Lib.hid (fun w' => hp w' he (.inr (Kd.R_nil _ _ _ _ _)) (Kd.R_nil _ _ _ _ _))
      have hz : ((n4 : Int) == 0) = true := by rw [← HN4.out, hn0]; rfl
      clear hp he HPost hno hn0
      go_wp2
      refine bodyPost_ret (results_cell4 rfl _ _ (w.heap.size + 1) 156 #[_, _, _, _, _, _] (0, 0) _ rfl (HRT.out.out HSz.out _ _ _ _ _ _).1 Try.underlying156 rfl (by kernel_rfl)) rfl ?_
      exact HP.out _ (HRT.out.out HSz.out _ _ _ _ _ _).2.1 (HRT.out.out HSz.out _ _ _ _ _ _).2.2
    · have hz : ((n4 : Int) == 0) = false := by
        have : n4 ≠ 0 := fun e => hn0 (List.eq_nil_of_length_eq_zero (by rw [HN4.out]; exact e))
        simp; omega
      have hh5 := Kd.R_reads' HR5.out
      have hc5 := hh5.2.1
      obtain ⟨kh, hkh⟩ := (PCoa.has_f socket rd (by rw [HN5.out]; omega)).rounds
      have hh := PCoa.pinfoldref14_has.calls kh A5 c5 rd socket (decide (socket ∈ rd)) W hh5.2.2 (by rw [HN5.out]; exact hc5) hkh
      rw [HN5.out] at hh
      have HHas := Lib.hid hh
      clear hh hkh hh5
      by_cases hst : socket ∈ rd ∧ (passes < 3 ∨ rd.length = 1)
      · have he : rGive ⟨true, owner, socket, passes, ws, rd⟩ owner = (rStay ⟨true, owner, socket, passes, ws, rd⟩, (rStay ⟨true, owner, socket, passes, ws, rd⟩).owner, true, 0) := by unfold rGive; rw [if_neg hno, if_neg hn0, if_pos hst]
        have HP := Lib.hid (fun v4 v5 w' => HPost.out _ _ _ _ v4 v5 w' he)
        rw [decide_eq_true hst.1] at HHas
        have hcase : decide (passes < 3) = true ∨ (decide (passes < 3) = false ∧ ((n5 : Int) == 1) = true) := by
          by_cases q : passes < 3
          · exact .inl (decide_eq_true q)
          · exact .inr ⟨decide_eq_false q, by have := hst.2.resolve_left q; rw [HN5.out] at this; rw [this]; rfl⟩
        have htold := told_ready ⟨true, owner, socket, passes, ws, rd⟩ socket (w0 := w0) (w := w) (P := P) (A4 := A4) (c4 := c4) (v5 := .slice A5 n5 c5) H4.out (by rw [HN4.out]; exact hc4) (by rw [HN4.out]; exact hl4) (by rw [HN5.out]; exact hl5)
        dsimp only at htold
        rw [HN4.out] at htold
        have HTold := Lib.hid htold
        clear he HPost hno hn0 hst htold
        rcases hcase with q | ⟨q, q2⟩
        all_goals
          go_upto_if 46 with (first
            | (go_at_call 135; refine (HHas.out).mono ?_; rintro e w5 ⟨rfl, ⟨nd, rfl⟩⟩)
            | fail)
          obtain ⟨V, hV⟩ : ∃ V, W.drewN nd = V := ⟨_, rfl⟩
          have hbv : Below W.heap.size W V := hV ▸ bel_drewN (Below.refl _ _) nd
          have HV := Lib.hid (HRT.out.behind HP0.out hbv)
          have HRV := Lib.hid (Kd.R_below HR5.out hbv)
          rw [hV]
          clear hV hbv q c0 c1 c2 c3 c4' c5' r0 r1 r2 r3 r4 r5 z0 z1 z2 z3 z4 z5
          obtain ⟨c0, c1, c2, c3, c4', c5'⟩ := HV.out.cells
          go_upto_region 8 with (first
            | (go_at_call 136; refine (HTold.out V HV.out.1 HV.out.2.1 HRV.out).mono ?_; rintro e w6 ⟨B4, k4, B5, k5, rfl, q1, q2, q3, q4⟩; have HQ1 := Lib.hid q1; have HQ2 := Lib.hid q2; have HV6 := Lib.hid (HV.out.step HP0.out q3 q4); clear q1 q2 q3 q4)
            | fail)
          obtain ⟨z, hzz⟩ : ∃ z, rTold ⟨true, owner, socket, passes, ws, rd⟩ socket = z := ⟨_, rfl⟩
          have hrs : rStay ⟨true, owner, socket, passes, ws, rd⟩ = ⟨true, z.owner, socket, passes + 1, z.waits, z.round⟩ := by rw [← hzz]; rfl
          rw [hrs] at HP
          rw [hzz] at HQ1 HQ2 ⊢
          obtain ⟨Y, hY⟩ : ∃ Y, w6.heap.size = Y := ⟨_, rfl⟩
          obtain ⟨V7, hV7⟩ : ∃ V7, w6.alloc (.cells #[.bool true, .int .i64 z.owner, .int .i64 socket, .int .i64 passes, .slice B4 z.waits.length k4, .slice B5 z.round.length k5] 156) = V7 := ⟨_, rfl⟩
          have hb7 : Below w6.heap.size w6 V7 := hV7 ▸ (Below.refl w6.heap.size w6).alloc (Nat.le_refl _) _
          have hY7 : V7.heap[Y]? = some (.cells #[.bool true, .int .i64 z.owner, .int .i64 socket, .int .i64 passes, .slice B4 z.waits.length k4, .slice B5 z.round.length k5] 156 (0, 0)) := by rw [← hY, ← hV7]; exact (MapKept.heap_alloc w6 _).1
          have hYlt : w.heap.size + 1 < Y := by rw [← hY]; exact HV6.out.lt
          have HV7 := Lib.hid (HV6.out.behind HP0.out hb7)
          have HQ17 := Lib.hid (Kd.R_below HQ1.out hb7)
          have HQ27 := Lib.hid (Kd.R_below HQ2.out hb7)
          rw [hY, hV7]
          have y3 : V7.cell? ⟨Y, 3, none⟩ = some (.int .i64 passes) := cell_of_heap hY7 rfl
          have x3 : V7.frozen? ⟨Y, 3, none⟩ = false := fz_of_heap hY7 3
          have hpn := (pass_num HPs.out.1 HPs.out.2).1
          have HYL := Lib.hid hYlt
          have HY7 := Lib.hid hY7
          clear hzz hrs hY hV7 hb7 hY7 hYlt
          go_upto_region 9 with (fail)
          have HV9 := Lib.hid (HV7.out.other HSz.out HYL.out (j := 3) (.int .i64 (passes + 1)))
          have HQ19 := Lib.hid (row_other (j := 3) HQ17.out HY7.out (by decide) (.int .i64 (passes + 1)))
          have HQ29 := Lib.hid (row_other (j := 3) HQ27.out HY7.out (by decide) (.int .i64 (passes + 1)))
          have HY9 : Hid ((V7.setCell ⟨Y, 3, none⟩ (.int .i64 (passes + 1))).heap[Y]? = some (.cells #[.bool true, .int .i64 z.owner, .int .i64 socket, .int .i64 (passes + 1), .slice B4 z.waits.length k4, .slice B5 z.round.length k5] 156 (0, 0))) := Lib.hid (blk_put HY7.out 3 _ rfl)
          obtain ⟨V9, hV9⟩ : ∃ V9, V7.setCell ⟨Y, 3, none⟩ (.int .i64 (passes + 1)) = V9 := ⟨_, rfl⟩
          rw [hV9] at HV9 HQ19 HQ29 HY9 ⊢
          clear hV9 y3 x3 c0 c1 c2 c3 c4' c5'
          have y0 : V9.cell? ⟨Y, 0, none⟩ = some (.bool true) := cell_of_heap HY9.out rfl
          have y1 : V9.cell? ⟨Y, 1, none⟩ = some (.int .i64 z.owner) := cell_of_heap HY9.out rfl
          have y2 : V9.cell? ⟨Y, 2, none⟩ = some (.int .i64 socket) := cell_of_heap HY9.out rfl
          have y3 : V9.cell? ⟨Y, 3, none⟩ = some (.int .i64 (passes + 1)) := cell_of_heap HY9.out rfl
          have y4 : V9.cell? ⟨Y, 4, none⟩ = some (.slice B4 z.waits.length k4) := cell_of_heap HY9.out rfl
          have y5 : V9.cell? ⟨Y, 5, none⟩ = some (.slice B5 z.round.length k5) := cell_of_heap HY9.out rfl
          obtain ⟨r0, r1, r2, r3, r4, r5⟩ := HV9.out.res
          have z0 := HV9.out.frz 0
          have z1 := HV9.out.frz 1
          have z2 := HV9.out.frz 2
          have z3 := HV9.out.frz 3
          have z4 := HV9.out.frz 4
          have z5 := HV9.out.frz 5
          have hne1 : w.heap.size + 1 ≠ Y := Nat.ne_of_lt HYL.out
          have hne2 : Y ≠ w.heap.size + 1 := Ne.symm hne1
          have hmono : ∀ k, (P k ∨ V.heap.size ≤ k) → (P k ∨ w.heap.size ≤ k) := fun k q => q.imp id (Nat.le_trans HV.out.2.1.1)
          have HM := Lib.hid hmono
          clear hmono
          go_region
          all_goals go_wp2
          all_goals refine bodyPost_ret (results_cell4 rfl _ _ (w.heap.size + 1) 156 #[_, _, _, _, _, _] (0, 0) _ rfl (HV9.out.outD HSz.out _ _ _ _ _ _).1 Try.underlying156 rfl (by kernel_rfl)) rfl ?_
          all_goals exact HP.out _ _ _ (.inr (Kd.R_mono (HV9.out.row6D HQ19.out (by decide) _ _ _ _ _ _) HM.out)) (Kd.R_mono (HV9.out.row6D HQ29.out (by decide) _ _ _ _ _ _) HM.out) (HV9.out.outD HSz.out _ _ _ _ _ _).2.1 (HV9.out.outD HSz.out _ _ _ _ _ _).2.2
      · have hrd : rd ≠ [] := HW.out.resolve_left hn0
        have hn5p : 0 < n5 := by rw [← HN5.out]; exact List.length_pos_iff.2 hrd
        have he : rGive ⟨true, owner, socket, passes, ws, rd⟩ owner = (rAway ⟨true, owner, socket, passes, ws, rd⟩, (rAway ⟨true, owner, socket, passes, ws, rd⟩).owner, true, 0) := by unfold rGive; rw [if_neg hno, if_neg hn0, if_neg hst]
        have HP := Lib.hid (fun v4 v5 w' => HPost.out _ _ _ _ v4 v5 w' he)
        have htold := told_ready ⟨true, owner, socket, passes, ws, rd⟩ (toS ⟨true, owner, socket, passes, ws, rd⟩) (w0 := w0) (w := w) (P := P) (A4 := A4) (c4 := c4) (v5 := .slice A5 n5 c5) H4.out (by rw [HN4.out]; exact hc4) (by rw [HN4.out]; exact hl4) (by rw [HN5.out]; exact hl5)
        dsimp only at htold
        rw [HN4.out] at htold
        have HTold := Lib.hid htold
        obtain ⟨ad, e0, hx0⟩ := Kd.at_int (Kd.R_reads' HR5.out).2.2 0 (by omega) (by rw [HN5.out]; omega)
        subst e0
        clear he HPost hno hn0 htold hrd
        by_cases hin : socket ∈ rd
        · have hps : ¬ passes < 3 := fun e => hst ⟨hin, .inl e⟩
          have hl1 : rd.length ≠ 1 := fun e => hst ⟨hin, .inr e⟩
          have b1 : decide (passes < 3) = false := decide_eq_false hps
          have b2 : ((n5 : Int) == 1) = false := by rw [HN5.out] at hl1; simp; omega
          rw [decide_eq_true hin] at HHas
          have hn52 : 1 < n5 := by rw [HN5.out] at hl1; omega
          obtain ⟨ad', e1, hx1⟩ := Kd.at_int (Kd.R_reads' HR5.out).2.2 1 (by omega) (by rw [HN5.out]; omega)
          injection e1 with e1
          subst e1
          have hxa : W.cell? ad = some (.int .i64 (lg rd 0)) := hx0
          have had : ad.add 1 = ⟨ad.block, ad.off + 1, none⟩ := by unfold Addr.add; rw [if_neg (by omega)]
          have hxb : W.cell? ⟨ad.block, ad.off + 1, none⟩ = some (.int .i64 (lg rd 1)) := by rw [← had]; exact hx1
          have hra : rAway ⟨true, owner, socket, passes, ws, rd⟩ = ⟨true, (rTold ⟨true, owner, socket, passes, ws, rd⟩ (toS ⟨true, owner, socket, passes, ws, rd⟩)).owner, toS ⟨true, owner, socket, passes, ws, rd⟩, 0, (rTold ⟨true, owner, socket, passes, ws, rd⟩ (toS ⟨true, owner, socket, passes, ws, rd⟩)).waits, (rTold ⟨true, owner, socket, passes, ws, rd⟩ (toS ⟨true, owner, socket, passes, ws, rd⟩)).round.filter (ne socket) ++ [socket]⟩ := by
            unfold rAway
            simp only [if_pos hin]
          rw [hra] at HP
          obtain ⟨s0, hs0⟩ : ∃ s0, lg rd 0 = s0 := ⟨_, rfl⟩
          obtain ⟨s1, hs1⟩ : ∃ s1, lg rd 1 = s1 := ⟨_, rfl⟩
          have htz : ∃ tz, toS ⟨true, owner, socket, passes, ws, rd⟩ = tz ∧ ((s0 == socket) = true ∧ tz = s1 ∨ (s0 == socket) = false ∧ tz = s0) := by
            refine ⟨_, rfl, ?_⟩
            unfold toS
            show ((s0 == socket) = true ∧ (if lg rd 0 = socket then lg rd 1 else lg rd 0) = s1) ∨ ((s0 == socket) = false ∧ (if lg rd 0 = socket then lg rd 1 else lg rd 0) = s0)
            rw [hs0, hs1]
            by_cases q : s0 = socket
            · exact .inl ⟨by simp [q], if_pos q⟩
            · exact .inr ⟨by simp [q], if_neg q⟩
          rw [hs0] at hxa
          rw [hs1] at hxb
          obtain ⟨tz, ht1, hcase⟩ := htz
          rw [ht1] at HTold HP
          have hzl : (rTold ⟨true, owner, socket, passes, ws, rd⟩ tz).round.length ≤ 1000 := Nat.le_trans (told_round_le _ _) (by show rd.length ≤ 1000; rw [HN5.out]; exact hl5)
          obtain ⟨z, hzz⟩ : ∃ z, rTold ⟨true, owner, socket, passes, ws, rd⟩ tz = z := ⟨_, rfl⟩
          rw [hzz] at HTold HP hzl
          have hi0 := eq_true (show (0 : Int) < (n5 : Int) by omega)
          have hi1 := eq_true (show (1 : Int) < (n5 : Int) by omega)
          clear hst hps hl1 hin hx0 hx1 hra hs0 hs1 ht1 hzz had
          go_upto_region 10 with (first
            | (go_at_call 135; refine (HHas.out).mono ?_; rintro e w5 ⟨rfl, ⟨nd, rfl⟩⟩)
            | fail)
          obtain ⟨V, hV⟩ : ∃ V, W.drewN nd = V := ⟨_, rfl⟩
          have hbv : Below W.heap.size W V := hV ▸ bel_drewN (Below.refl _ _) nd
          have HV := Lib.hid (HRT.out.behind HP0.out hbv)
          have HRV := Lib.hid (Kd.R_below HR5.out hbv)
          have hxv := bel_cell hbv hxa
          have hxw := bel_cell hbv hxb
          rw [hV]
          clear hV hbv c0 c1 c2 c3 c4' c5' r0 r1 r2 r3 r4 r5 z0 z1 z2 z3 z4 z5 hxa hxb
          obtain ⟨c0, c1, c2, c3, c4', c5'⟩ := HV.out.cells
          rcases hcase with ⟨b3, rfl⟩ | ⟨b3, rfl⟩
          all_goals
            go_upto_region 14 with (first
              | (go_at_call 136; refine (HTold.out V HV.out.1 HV.out.2.1 HRV.out).mono ?_; rintro e w6 ⟨B4, k4, B5, k5, rfl, q1, q2, q3, q4⟩; have HQ1 := Lib.hid q1; have HQ2 := Lib.hid q2; have HV6 := Lib.hid (HV.out.step HP0.out q3 q4); clear q1 q2 q3 q4)
              | fail)
            obtain ⟨Y, hY⟩ : ∃ Y, w6.heap.size = Y := ⟨_, rfl⟩
            obtain ⟨V7, hV7⟩ : ∃ V7, w6.alloc (.cells #[.bool true, .int .i64 z.owner, .int .i64 socket, .int .i64 passes, .slice B4 z.waits.length k4, .slice B5 z.round.length k5] 156) = V7 := ⟨_, rfl⟩
            have hb7 : Below w6.heap.size w6 V7 := hV7 ▸ (Below.refl w6.heap.size w6).alloc (Nat.le_refl _) _
            have hY7 : V7.heap[Y]? = some (.cells #[.bool true, .int .i64 z.owner, .int .i64 socket, .int .i64 passes, .slice B4 z.waits.length k4, .slice B5 z.round.length k5] 156 (0, 0)) := by rw [← hY, ← hV7]; exact (MapKept.heap_alloc w6 _).1
            have hYlt : w.heap.size + 1 < Y := by rw [← hY]; exact HV6.out.lt
            have HV7 := Lib.hid (HV6.out.behind HP0.out hb7)
            have HQ17 := Lib.hid (Kd.R_below HQ1.out hb7)
            have HQ27 := Lib.hid (Kd.R_below HQ2.out hb7)
            rw [hY, hV7]
            have y2 : V7.cell? ⟨Y, 2, none⟩ = some (.int .i64 socket) := cell_of_heap hY7 rfl
            have x2 : V7.frozen? ⟨Y, 2, none⟩ = false := fz_of_heap hY7 2
            have y3 : V7.cell? ⟨Y, 3, none⟩ = some (.int .i64 passes) := cell_of_heap hY7 rfl
            have x3 : V7.frozen? ⟨Y, 3, none⟩ = false := fz_of_heap hY7 3
            have HYL := Lib.hid hYlt
            have HY7 := Lib.hid hY7
            clear hY hV7 hb7 hY7 hYlt
            go_upto_region 17 with (fail)
            have HV8 := Lib.hid (HV7.out.other HSz.out HYL.out (j := 2) (.int .i64 tz))
            have HQ18 := Lib.hid (row_other (j := 2) HQ17.out HY7.out (by decide) (.int .i64 tz))
            have HQ28 := Lib.hid (row_other (j := 2) HQ27.out HY7.out (by decide) (.int .i64 tz))
            have HY8 : Hid ((V7.setCell ⟨Y, 2, none⟩ (.int .i64 tz)).heap[Y]? = some (.cells #[.bool true, .int .i64 z.owner, .int .i64 tz, .int .i64 passes, .slice B4 z.waits.length k4, .slice B5 z.round.length k5] 156 (0, 0))) := Lib.hid (blk_put HY7.out 2 _ rfl)
            have HV9 := Lib.hid (HV8.out.other HSz.out HYL.out (j := 3) (.int .i64 0))
            have HQ19 := Lib.hid (row_other (j := 3) HQ18.out HY8.out (by decide) (.int .i64 0))
            have HQ29 := Lib.hid (row_other (j := 3) HQ28.out HY8.out (by decide) (.int .i64 0))
            have HY9 : Hid (((V7.setCell ⟨Y, 2, none⟩ (.int .i64 tz)).setCell ⟨Y, 3, none⟩ (.int .i64 0)).heap[Y]? = some (.cells #[.bool true, .int .i64 z.owner, .int .i64 tz, .int .i64 0, .slice B4 z.waits.length k4, .slice B5 z.round.length k5] 156 (0, 0))) := Lib.hid (blk_put HY8.out 3 _ rfl)
            obtain ⟨V9, hV9⟩ : ∃ V9, (V7.setCell ⟨Y, 2, none⟩ (.int .i64 tz)).setCell ⟨Y, 3, none⟩ (.int .i64 0) = V9 := ⟨_, rfl⟩
            rw [hV9] at HV9 HQ19 HQ29 HY9 ⊢
            clear hV9 HV8 HQ18 HQ28 HY8 y2 x2 y3 x3 c0 c1 c2 c3 c4' c5'
            have nz : ∃ n, z.round.length = n := ⟨_, rfl⟩
            obtain ⟨n9, hn9⟩ := nz
            have HN9 := Lib.hid hn9
            rw [hn9] at HQ29 HY9 hzl ⊢
            clear hn9
            obtain ⟨_, _, d2, _, _, _⟩ := HV9.out.cells
            have y5 : V9.cell? ⟨Y, 5, none⟩ = some (.slice B5 n9 k5) := cell_of_heap HY9.out rfl
            go_wp2
            go_loopg [12, 14, 80] n9 (fun gg v12 v14 v80 wr => ∃ (j : Nat) (A : Option Addr) (n c : Nat), j ≤ n9 ∧ n9 - j ≤ gg ∧ v80 = .int .i64 j ∧ v12 = .slice A n c ∧ Aside0 (Below V9.heap.size V9 wr) ∧ Aside0 ((Kd.int .i64).R 3 wr V9.heap.size (fun _ => True) (.slice A n c) ((z.round.take j).filter (ne socket))))
            case atStart => exact ⟨0, none, 0, 0, Nat.zero_le _, by omega, rfl, rfl, ⟨Below.refl _ _⟩, ⟨Kd.R_nil _ _ _ _ _⟩⟩
            case round =>
              obtain ⟨j, A9, m9, k9, hj, hg, rfl, rfl, HB9, HR9⟩ := hrel
              by_cases hlt : j < n9
              · have hltz : (j : Int) < (n9 : Int) := by omega
                have hjl : j < z.round.length := by rw [HN9.out]; exact hlt
                obtain ⟨bd, e9, hx9⟩ := Kd.at_int (Kd.R_reads' HQ29.out).2.2 (j : Int) (Int.natCast_nonneg j) (Int.ofNat_lt.2 hjl)
                subst e9
                have hx8 : V9.cell? (bd.add j) = some (.int .i64 (lg z.round j)) := hx9
                have hxr := bel_cell HB9.out hx8
                obtain ⟨_, _, d2, _, _, _⟩ := (HV9.out.behind HP0.out HB9.out).cells
                have hfl : (z.round.take (j + 1)).filter (ne socket) = (z.round.take j).filter (ne socket) ++ (if lg z.round j = socket then [] else [lg z.round j]) := by
                  rw [List.take_succ_eq_append_getElem hjl, List.filter_append, lg_at hjl]
                  by_cases q : z.round[j] = socket <;> simp [ne, q]
                obtain ⟨u, hu⟩ : ∃ u, lg z.round j = u := ⟨_, rfl⟩
                rw [hu] at hxr hfl
                clear hx9 hx8 hu hjl
                by_cases hus : u = socket
                · have hb : (u != socket) = false := by simp [hus]
                  rw [if_pos hus, List.append_nil] at hfl
                  have HF := Lib.hid hfl
                  clear hfl hus
                  go_wp2
                  go_roundg (n9 - (j + 1))
                  case measure => omega
                  case rel => exact ⟨j + 1, A9, m9, k9, Nat.succ_le_of_lt hlt, Nat.le_refl _, (by go_num), rfl, ⟨HB9.out⟩, ⟨by rw [HF.out]; exact HR9.out⟩⟩
                · have hb : (u != socket) = true := by simp [hus]
                  rw [if_neg hus] at hfl
                  have HF := Lib.hid hfl
                  clear hfl hus
                  have HL4 : Hid ((((z.round.take j).filter (ne socket)).length + 1) * 8 ≤ 140737488355328) := Lib.hid (by have := take_filter_le z.round socket j n9 (Nat.le_of_eq HN9.out); omega)
                  go_wp2_with (first
                    | (at_builtin; refine Kd.R_append (Kd.int .i64) (w0 := V9) V9.heap.size rfl (.tmp 88) (.tmp 90) 27 3 (.int .i64 0) 8 rfl Try.underlying27 infoInt rfl (by decide) (by decide) (.slice A9 m9 k9) ((z.round.take j).filter (ne socket)) u [.int .i64 u] (fun _ => True) (fun _ => False) rfl rfl rfl (fun _ q => q.elim) (fun _ _ => trivial) HR9.out HB9.out HB9.out.size HL4.out ?_; intro v7 w7 hR7 hB7 hg7 hat7; rw [← HF.out] at hR7; obtain ⟨A7, k7_, e7_⟩ := Kd.R_slice hR7; subst e7_; have HR7 := Lib.hid hR7; have HB7 := Lib.hid hB7; clear hR7 hB7 hg7 hat7)
                    | fail)
                  go_roundg (n9 - (j + 1))
                  case measure => omega
                  case rel => exact ⟨j + 1, A7, _, k7_, Nat.succ_le_of_lt hlt, Nat.le_refl _, (by go_num), rfl, ⟨HB7.out⟩, ⟨HR7.out⟩⟩
              · have hltz : ¬ (j : Int) < (n9 : Int) := by omega
                have hjn : j = n9 := by omega
                have hall : z.round.take j = z.round := List.take_of_length_le (by rw [HN9.out, hjn]; exact Nat.le_refl _)
                rw [hall] at HR9
                have HL4 : Hid (((z.round.filter (ne socket)).length + 1) * 8 ≤ 140737488355328) := Lib.hid (by have := take_filter_le z.round socket z.round.length n9 (Nat.le_of_eq HN9.out); rw [List.take_length] at this; omega)
                have HVr := Lib.hid (HV9.out.behind HP0.out HB9.out)
                have HYr := Lib.hid (show wr.heap[Y]? = _ from (HB9.out.block Y (Array.getElem?_eq_some_iff.1 HY9.out).1).trans HY9.out)
                obtain ⟨_, _, d2, _, _, _⟩ := HVr.out.cells
                clear hjn hall
                go_upto_region 25 with (first
                  | (at_builtin; refine Kd.R_append (Kd.int .i64) (w0 := V9) V9.heap.size rfl (.tmp 93) (.tmp 96) 27 3 (.int .i64 0) 8 rfl Try.underlying27 infoInt rfl (by decide) (by decide) (.slice A9 m9 k9) (z.round.filter (ne socket)) socket [.int .i64 socket] (fun _ => True) (fun _ => False) rfl rfl rfl (fun _ q => q.elim) (fun _ _ => trivial) HR9.out HB9.out HB9.out.size HL4.out ?_; intro v7 w7 hR7 hB7 hg7 hat7; obtain ⟨A7, k7_, e7_⟩ := Kd.R_slice hR7; subst e7_; obtain ⟨m7, hm7_⟩ : ∃ m7, (z.round.filter (ne socket) ++ [socket]).length = m7 := ⟨_, rfl⟩; rw [hm7_] at hR7 ⊢; have HR7 := Lib.hid hR7; have HB7 := Lib.hid hB7; have HVw := Lib.hid (HV9.out.behind HP0.out hB7); have HYw := Lib.hid (show w7.heap[Y]? = _ from (hB7.block Y (Array.getElem?_eq_some_iff.1 HY9.out).1).trans HY9.out); have x5 : w7.frozen? ⟨Y, 5, none⟩ = false := fz_of_heap HYw.out 5; have y5w : w7.cell? ⟨Y, 5, none⟩ = some (.slice B5 n9 k5) := cell_of_heap HYw.out rfl; clear hR7 hB7 hg7 hat7 hm7_)
                  | fail)
                have HVe := Lib.hid (HVw.out.other HSz.out HYL.out (j := 5) (.slice A7 m7 k7_))
                have HQ1e := Lib.hid (row_other (j := 5) (Kd.R_below HQ19.out HB7.out) HYw.out (by decide) (.slice A7 m7 k7_))
                have HQ2e := Lib.hid (row_other (j := 5) HR7.out HYw.out (by decide) (.slice A7 m7 k7_))
                have HYe : Hid ((w7.setCell ⟨Y, 5, none⟩ (.slice A7 m7 k7_)).heap[Y]? = some (.cells #[.bool true, .int .i64 z.owner, .int .i64 tz, .int .i64 0, .slice B4 z.waits.length k4, .slice A7 m7 k7_] 156 (0, 0))) := Lib.hid (blk_put HYw.out 5 _ rfl)
                have HS9 := Lib.hid (show w0.heap.size ≤ V9.heap.size from HV9.out.1.size)
                have HW9 := Lib.hid (show w.heap.size ≤ V9.heap.size from HV9.out.2.1.1)
                obtain ⟨Ve, hVe⟩ : ∃ Ve, w7.setCell ⟨Y, 5, none⟩ (.slice A7 m7 k7_) = Ve := ⟨_, rfl⟩
                rw [hVe] at HVe HQ1e HQ2e HYe ⊢
                clear hVe x5 y5 y5w d2
                have y0 : Ve.cell? ⟨Y, 0, none⟩ = some (.bool true) := cell_of_heap HYe.out rfl
                have y1 : Ve.cell? ⟨Y, 1, none⟩ = some (.int .i64 z.owner) := cell_of_heap HYe.out rfl
                have y2 : Ve.cell? ⟨Y, 2, none⟩ = some (.int .i64 tz) := cell_of_heap HYe.out rfl
                have y3 : Ve.cell? ⟨Y, 3, none⟩ = some (.int .i64 0) := cell_of_heap HYe.out rfl
                have y4 : Ve.cell? ⟨Y, 4, none⟩ = some (.slice B4 z.waits.length k4) := cell_of_heap HYe.out rfl
                have y5 : Ve.cell? ⟨Y, 5, none⟩ = some (.slice A7 m7 k7_) := cell_of_heap HYe.out rfl
                obtain ⟨r0, r1, r2, r3, r4, r5⟩ := HVe.out.res
                have z0 := HVe.out.frz 0
                have z1 := HVe.out.frz 1
                have z2 := HVe.out.frz 2
                have z3 := HVe.out.frz 3
                have z4 := HVe.out.frz 4
                have z5 := HVe.out.frz 5
                have hne1 : w.heap.size + 1 ≠ Y := Nat.ne_of_lt HYL.out
                have hne2 : Y ≠ w.heap.size + 1 := Ne.symm hne1
                have hmono : ∀ k, (P k ∨ V.heap.size ≤ k) → (P k ∨ w.heap.size ≤ k) := fun k q => q.imp id (Nat.le_trans HV.out.2.1.1)
                have HM := Lib.hid hmono
                clear hmono
                go_region
                all_goals go_wp2
                all_goals refine bodyPost_ret (results_cell4 rfl _ _ (w.heap.size + 1) 156 #[_, _, _, _, _, _] (0, 0) _ rfl (HVe.out.outD HSz.out _ _ _ _ _ _).1 Try.underlying156 rfl (by kernel_rfl)) rfl ?_
                all_goals exact HP.out _ _ _ (.inr (Kd.R_mono (HVe.out.row6D HQ1e.out (by decide) _ _ _ _ _ _) HM.out)) (R_deep (HVe.out.row6D HQ2e.out (by decide) _ _ _ _ _ _) HS9.out HW9.out) (HVe.out.outD HSz.out _ _ _ _ _ _).2.1 (HVe.out.outD HSz.out _ _ _ _ _ _).2.2
        · rw [decide_eq_false hin] at HHas
          have hne0 : lg rd 0 ≠ socket := fun e => hin (by rw [← e, lg_at (by rw [HN5.out]; exact hn5p)]; exact List.getElem_mem _)
          have hto : toS ⟨true, owner, socket, passes, ws, rd⟩ = lg rd 0 := if_neg hne0
          have b3 : (lg rd 0 == socket) = false := by simpa using hne0
          rw [hto] at HTold
          have hx : W.cell? ad = some (.int .i64 (lg rd 0)) := hx0
          have hra : rAway ⟨true, owner, socket, passes, ws, rd⟩ = ⟨true, (rTold ⟨true, owner, socket, passes, ws, rd⟩ (lg rd 0)).owner, lg rd 0, 0, (rTold ⟨true, owner, socket, passes, ws, rd⟩ (lg rd 0)).waits, (rTold ⟨true, owner, socket, passes, ws, rd⟩ (lg rd 0)).round⟩ := by
            unfold rAway
            rw [hto]
            simp only [if_neg hin]
          rw [hra] at HP
          obtain ⟨tz, hto2⟩ : ∃ tz, lg rd 0 = tz := ⟨_, rfl⟩
          rw [hto2] at HTold HP b3 hx
          obtain ⟨z, hzz⟩ : ∃ z, rTold ⟨true, owner, socket, passes, ws, rd⟩ tz = z := ⟨_, rfl⟩
          rw [hzz] at HTold HP
          have hi0 := eq_true (show (0 : Int) < (n5 : Int) by omega)
          clear hst hne0 hto hra hto2 hzz hin hx0
          go_upto_region 10 with (first
            | (go_at_call 135; refine (HHas.out).mono ?_; rintro e w5 ⟨rfl, ⟨nd, rfl⟩⟩)
            | fail)
          obtain ⟨V, hV⟩ : ∃ V, W.drewN nd = V := ⟨_, rfl⟩
          have hbv : Below W.heap.size W V := hV ▸ bel_drewN (Below.refl _ _) nd
          have HV := Lib.hid (HRT.out.behind HP0.out hbv)
          have HRV := Lib.hid (Kd.R_below HR5.out hbv)
          have hxv := bel_cell hbv hx
          rw [hV]
          clear hV hbv c0 c1 c2 c3 c4' c5' r0 r1 r2 r3 r4 r5 z0 z1 z2 z3 z4 z5 hx
          obtain ⟨c0, c1, c2, c3, c4', c5'⟩ := HV.out.cells
          go_upto_region 14 with (first
            | (go_at_call 136; refine (HTold.out V HV.out.1 HV.out.2.1 HRV.out).mono ?_; rintro e w6 ⟨B4, k4, B5, k5, rfl, q1, q2, q3, q4⟩; have HQ1 := Lib.hid q1; have HQ2 := Lib.hid q2; have HV6 := Lib.hid (HV.out.step HP0.out q3 q4); clear q1 q2 q3 q4)
            | fail)
          obtain ⟨Y, hY⟩ : ∃ Y, w6.heap.size = Y := ⟨_, rfl⟩
          obtain ⟨V7, hV7⟩ : ∃ V7, w6.alloc (.cells #[.bool true, .int .i64 z.owner, .int .i64 socket, .int .i64 passes, .slice B4 z.waits.length k4, .slice B5 z.round.length k5] 156) = V7 := ⟨_, rfl⟩
          have hb7 : Below w6.heap.size w6 V7 := hV7 ▸ (Below.refl w6.heap.size w6).alloc (Nat.le_refl _) _
          have hY7 : V7.heap[Y]? = some (.cells #[.bool true, .int .i64 z.owner, .int .i64 socket, .int .i64 passes, .slice B4 z.waits.length k4, .slice B5 z.round.length k5] 156 (0, 0)) := by rw [← hY, ← hV7]; exact (MapKept.heap_alloc w6 _).1
          have hYlt : w.heap.size + 1 < Y := by rw [← hY]; exact HV6.out.lt
          have HV7 := Lib.hid (HV6.out.behind HP0.out hb7)
          have HQ17 := Lib.hid (Kd.R_below HQ1.out hb7)
          have HQ27 := Lib.hid (Kd.R_below HQ2.out hb7)
          rw [hY, hV7]
          have y2 : V7.cell? ⟨Y, 2, none⟩ = some (.int .i64 socket) := cell_of_heap hY7 rfl
          have x2 : V7.frozen? ⟨Y, 2, none⟩ = false := fz_of_heap hY7 2
          have y3 : V7.cell? ⟨Y, 3, none⟩ = some (.int .i64 passes) := cell_of_heap hY7 rfl
          have x3 : V7.frozen? ⟨Y, 3, none⟩ = false := fz_of_heap hY7 3
          have HYL := Lib.hid hYlt
          have HY7 := Lib.hid hY7
          clear hY hV7 hb7 hY7 hYlt
          go_upto_region 25 with (fail)
          have HV8 := Lib.hid (HV7.out.other HSz.out HYL.out (j := 2) (.int .i64 tz))
          have HQ18 := Lib.hid (row_other (j := 2) HQ17.out HY7.out (by decide) (.int .i64 tz))
          have HQ28 := Lib.hid (row_other (j := 2) HQ27.out HY7.out (by decide) (.int .i64 tz))
          have HY8 : Hid ((V7.setCell ⟨Y, 2, none⟩ (.int .i64 tz)).heap[Y]? = some (.cells #[.bool true, .int .i64 z.owner, .int .i64 tz, .int .i64 passes, .slice B4 z.waits.length k4, .slice B5 z.round.length k5] 156 (0, 0))) := Lib.hid (blk_put HY7.out 2 _ rfl)
          have HV9 := Lib.hid (HV8.out.other HSz.out HYL.out (j := 3) (.int .i64 0))
          have HQ19 := Lib.hid (row_other (j := 3) HQ18.out HY8.out (by decide) (.int .i64 0))
          have HQ29 := Lib.hid (row_other (j := 3) HQ28.out HY8.out (by decide) (.int .i64 0))
          have HY9 : Hid (((V7.setCell ⟨Y, 2, none⟩ (.int .i64 tz)).setCell ⟨Y, 3, none⟩ (.int .i64 0)).heap[Y]? = some (.cells #[.bool true, .int .i64 z.owner, .int .i64 tz, .int .i64 0, .slice B4 z.waits.length k4, .slice B5 z.round.length k5] 156 (0, 0))) := Lib.hid (blk_put HY8.out 3 _ rfl)
          obtain ⟨V9, hV9⟩ : ∃ V9, (V7.setCell ⟨Y, 2, none⟩ (.int .i64 tz)).setCell ⟨Y, 3, none⟩ (.int .i64 0) = V9 := ⟨_, rfl⟩
          rw [hV9] at HV9 HQ19 HQ29 HY9 ⊢
          clear hV9 HV8 HQ18 HQ28 HY8 y2 x2 y3 x3 c0 c1 c2 c3 c4' c5'
          have y0 : V9.cell? ⟨Y, 0, none⟩ = some (.bool true) := cell_of_heap HY9.out rfl
          have y1 : V9.cell? ⟨Y, 1, none⟩ = some (.int .i64 z.owner) := cell_of_heap HY9.out rfl
          have y2 : V9.cell? ⟨Y, 2, none⟩ = some (.int .i64 tz) := cell_of_heap HY9.out rfl
          have y3 : V9.cell? ⟨Y, 3, none⟩ = some (.int .i64 0) := cell_of_heap HY9.out rfl
          have y4 : V9.cell? ⟨Y, 4, none⟩ = some (.slice B4 z.waits.length k4) := cell_of_heap HY9.out rfl
          have y5 : V9.cell? ⟨Y, 5, none⟩ = some (.slice B5 z.round.length k5) := cell_of_heap HY9.out rfl
          obtain ⟨r0, r1, r2, r3, r4, r5⟩ := HV9.out.res
          have z0 := HV9.out.frz 0
          have z1 := HV9.out.frz 1
          have z2 := HV9.out.frz 2
          have z3 := HV9.out.frz 3
          have z4 := HV9.out.frz 4
          have z5 := HV9.out.frz 5
          have hne1 : w.heap.size + 1 ≠ Y := Nat.ne_of_lt HYL.out
          have hne2 : Y ≠ w.heap.size + 1 := Ne.symm hne1
          have hmono : ∀ k, (P k ∨ V.heap.size ≤ k) → (P k ∨ w.heap.size ≤ k) := fun k q => q.imp id (Nat.le_trans HV.out.2.1.1)
          have HM := Lib.hid hmono
          clear hmono
          go_region
          all_goals go_wp2
          all_goals refine bodyPost_ret (results_cell4 rfl _ _ (w.heap.size + 1) 156 #[_, _, _, _, _, _] (0, 0) _ rfl (HV9.out.outD HSz.out _ _ _ _ _ _).1 Try.underlying156 rfl (by kernel_rfl)) rfl ?_
          all_goals exact HP.out _ _ _ (.inr (Kd.R_mono (HV9.out.row6D HQ19.out (by decide) _ _ _ _ _ _) HM.out)) (Kd.R_mono (HV9.out.row6D HQ29.out (by decide) _ _ _ _ _ _) HM.out) (HV9.out.outD HSz.out _ _ _ _ _ _).2.1 (HV9.out.outD HSz.out _ _ _ _ _ _).2.2
end Go.Proofs.Ytgiimdoabkcoaaa.Co
