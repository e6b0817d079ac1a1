/-
One lock under way: its cells and rows, while it changes; then all the locks again.
-/
import Derived.Test.YtgiimdoabkcoaaaCoDel
namespace Go.Proofs.Ytgiimdoabkcoaaa.Co
set_option linter.unusedVariables false
set_option linter.unusedSimpArgs false
open Go.RowKit Go.Proofs.YtgiimdoabkcoaaaW.PrintWords Go.Proofs.YtgiimdoabkcoaaaW.PrintLast Go.Proofs.YtgiimdoabkcoaaaW.PrintMore
/-- lock i (at w0 its blocks were oki, the locks' cells cur0): its cells say x and v now. -/
structure LkC (w0 : World) (lb i : Nat) (cur0 : Array Value) (oki : Nat → Prop) (w : World) (x : LS) (v : Value) : Prop where
  cells : ∃ cur, w.heap[lb]? = some (.cells cur 152 (0, 0)) ∧ cur.size = cur0.size ∧ (∀ j, j < i * 5 ∨ i * 5 + 5 ≤ j → cur[j]? = cur0[j]?) ∧ ∀ j, j < 5 → cur[i * 5 + j]? = (cLock x v)[j]?
  fr : Fr (fun k => k = lb ∨ oki k) w0 w
  lbl : lb < w0.heap.size
  szl : i * 5 + 5 ≤ cur0.size
  nlb : ¬ oki lb
/-- it is x, its rows at v. -/
structure Lk (w0 : World) (lb i : Nat) (cur0 : Array Value) (oki : Nat → Prop) (w : World) (x : LS) (v : Value) : Prop where
  cc : LkC w0 lb i cur0 oki w x v
  rows : SRow w (fun k => oki k ∨ w0.heap.size ≤ k) v x.round
section
variable {w0 w w1 : World} {lb i h : Nat} {cur0 : Array Value} {oki F : Nat → Prop} {x x' : LS} {v v' : Value} {xs : List LS}
theorem LocksAt.lk (L : LocksAt w F h lb xs) (i : Nat) (hi : i < xs.length) :
    ∃ (oki : Nat → Prop) (cur0 : Array Value) (v : Value), Lk w lb i cur0 oki w (xs.getD i ls0) v ∧ (∀ k, oki k → F k ∧ k ≠ lb ∧ k ≠ h ∧ k < w.heap.size) ∧ ∀ w1 x v, Lk w lb i cur0 oki w1 x v → LocksAt w1 (fun k => F k ∨ w.heap.size ≤ k) h lb (xs.set i x) ∧ Fr F w w1 := by
  obtain ⟨oki, v, cur, h1, h2, h3, h4, h5, h6⟩ := L.at i hi
  refine ⟨oki, cur, v, ⟨⟨⟨cur, h1, rfl, fun _ _ => rfl, h3⟩, Fr.refl _ _, L.lt, h2, fun q => (h5 lb q).2.1 rfl⟩, Kd.S_mono h4 (fun _ q => .inl q)⟩, h5, fun w1 x v1 K => ?_⟩
  obtain ⟨cur1, k1, k2, k3, k4⟩ := K.cc.cells
  refine ⟨h6 w1 x v1 _ cur1 k1 k2 k3 k4 (fun k hk hn ho => K.cc.fr.block k hk (fun q => q.elim hn ho)) K.rows (fun _ q => q), K.cc.fr.mono (fun k _ q => ?_)⟩
  rcases q with rfl | q
  · exact L.flb
  · exact (h5 k q).1
theorem LkC.ne (K : LkC w0 lb i cur0 oki w x v) {k : Nat} (hk : oki k ∨ w0.heap.size ≤ k) : k ≠ lb := by
  rintro rfl
  rcases hk with hk | hk
  · exact K.nlb hk
  · exact absurd K.lbl (Nat.not_lt.2 hk)
theorem LkC.fz (K : LkC w0 lb i cur0 oki w x v) (j : Nat) : w.frozen? ⟨lb, j, none⟩ = false := by
  obtain ⟨cur1, k1, _⟩ := K.cells
  exact fz_of_heap k1 j
theorem LkC.c (K : LkC w0 lb i cur0 oki w x v) : w.cell? ⟨lb, i * 5, none⟩ = some (.bool x.held) ∧ w.cell? ⟨lb, i * 5 + 1, none⟩ = some (.int .i64 x.owner) ∧ w.cell? ⟨lb, i * 5 + 2, none⟩ = some (.int .i64 x.socket) ∧ w.cell? ⟨lb, i * 5 + 3, none⟩ = some (.int .i64 x.passes) ∧ w.cell? ⟨lb, i * 5 + 4, none⟩ = some v := by
  obtain ⟨cur1, k1, _, _, k4⟩ := K.cells
  exact ⟨cell_of_heap k1 (k4 0 (by omega)), cell_of_heap k1 (k4 1 (by omega)), cell_of_heap k1 (k4 2 (by omega)), cell_of_heap k1 (k4 3 (by omega)), cell_of_heap k1 (k4 4 (by omega))⟩
theorem LkC.upd (K : LkC w0 lb i cur0 oki w x v) (j : Nat) (hj : j < 5) (u : Value) (hx : cLock x' v' = (cLock x v).set j u) : LkC w0 lb i cur0 oki (w.setCell ⟨lb, i * 5 + j, none⟩ u) x' v' := by
  obtain ⟨cur1, k1, k2, k3, k4⟩ := K.cells
  obtain ⟨s1, s2⟩ := set_hd k1 (i * 5 + j) u
  have hsz := K.szl
  refine ⟨⟨_, s1, by rw [Array.size_setIfInBounds, k2], fun m hm => ?_, fun m hm => ?_⟩, K.fr.trans s2 (fun k _ q => .inl q), K.lbl, K.szl, K.nlb⟩
  · rw [Array.getElem?_setIfInBounds_ne (by omega), k3 m hm]
  · rw [Array.getElem?_setIfInBounds, hx, List.getElem?_set]
    have hl : (cLock x v).length = 5 := rfl
    by_cases e : j = m
    · subst e
      rw [if_pos rfl, if_pos rfl, if_pos (by rw [k2]; omega), if_pos (by rw [hl]; omega)]
    · rw [if_neg (by omega), if_neg e, k4 m hm]
/-- what the lock leads to changes, or more is made. -/
theorem LkC.mid (K : LkC w0 lb i cur0 oki w x v) (hF : Fr (fun k => oki k ∨ w0.heap.size ≤ k) w w1) : LkC w0 lb i cur0 oki w1 x v := by
  obtain ⟨cur1, k1, k2, k3, k4⟩ := K.cells
  exact ⟨⟨cur1, hF.heap k1 (fun q => K.ne q rfl), k2, k3, k4⟩, K.fr.trans hF (fun k hk q => q.elim .inr (fun q => absurd hk (Nat.not_lt.2 q))), K.lbl, K.szl, K.nlb⟩
theorem LkC.grown (K : LkC w0 lb i cur0 oki w x v) {row : Option Nat} (hg : w.grownBy w1 row) (hr : ∀ k, row = some k → oki k ∨ w0.heap.size ≤ k) : LkC w0 lb i cur0 oki w1 x v := K.mid (Fr.of_grown hg hr)
theorem LkC.behind (K : LkC w0 lb i cur0 oki w x v) (hb : Below w.heap.size w w1) : LkC w0 lb i cur0 oki w1 x v := K.mid (Fr.of_below _ hb)
theorem Lk.behind (K : Lk w0 lb i cur0 oki w x v) (hb : Below w.heap.size w w1) : Lk w0 lb i cur0 oki w1 x v := ⟨K.cc.behind hb, Kd.S_below K.rows hb⟩
theorem Lk.set (K : Lk w0 lb i cur0 oki w x v) (j : Nat) (hj : j < 5) (u : Value) (hx : cLock x' v = (cLock x v).set j u) (hr : x'.round = x.round) : Lk w0 lb i cur0 oki (w.setCell ⟨lb, i * 5 + j, none⟩ u) x' v :=
  ⟨K.cc.upd j hj u hx, by rw [hr]; exact Kd.S_step K.rows (fun k hk _ => Below.heap_setCell w _ u k (K.cc.ne hk))⟩
theorem LkC.setR (K : LkC w0 lb i cur0 oki w x v) {r : List Rw} (hS : SRow w (fun k => oki k ∨ w0.heap.size ≤ k) v' r) : Lk w0 lb i cur0 oki (w.setCell ⟨lb, i * 5 + 4, none⟩ v') { x with round := r } v' :=
  ⟨K.upd 4 (by omega) v' rfl, Kd.S_step hS (fun k hk _ => Below.heap_setCell w _ v' k (K.ne hk))⟩
theorem LkC.with (K : LkC w0 lb i cur0 oki w x v) {r : List Rw} (hS : SRow w (fun k => oki k ∨ w0.heap.size ≤ k) v r) : Lk w0 lb i cur0 oki w { x with round := r } v :=
  ⟨⟨K.cells, K.fr, K.lbl, K.szl, K.nlb⟩, hS⟩
end
/-- a row of a lock, its tasks at tv; what becomes of all rows when they change. -/
theorem row_task {w : World} {ok : Nat → Prop} {rb n cap : Nat} {r : List Rw} (hS : SRow w ok (.slice (some ⟨rb, 0, none⟩) n cap) r) (k : Nat) (hk : k < n) :
    ok rb ∧ rb < w.heap.size ∧ ∃ (ok2 : Nat → Prop) (tv : Value), w.cell? ⟨rb, k * 2, none⟩ = some (.int .i64 (rg r k).1) ∧ w.cell? ⟨rb, k * 2 + 1, none⟩ = some tv ∧ (∀ j, w.frozen? ⟨rb, j, none⟩ = false) ∧ Kd.R (Kd.int .i64) 3 w 0 ok2 tv (rg r k).2 ∧ (∀ b, ok2 b → ok b ∧ b ≠ rb ∧ b < w.heap.size) ∧
      ∀ (w1 : World) (tv1 : Value) (ts1 : List Int), Fr (fun b => ok2 b) w w1 → Kd.R (Kd.int .i64) 3 w1 0 (fun b => ok2 b ∨ w.heap.size ≤ b) tv1 ts1 →
        SRow (w1.setCell ⟨rb, k * 2 + 1, none⟩ tv1) (fun b => ok b ∨ w.heap.size ≤ b) (.slice (some ⟨rb, 0, none⟩) n cap) (r.set k ((rg r k).1, ts1)) ∧ Fr (fun b => b = rb ∨ ok2 b) w (w1.setCell ⟨rb, k * 2 + 1, none⟩ tv1) ∧
        w1.cell? ⟨rb, k * 2, none⟩ = some (.int .i64 (rg r k).1) ∧ w1.cell? ⟨rb, k * 2 + 1, none⟩ = some tv ∧ (∀ j, w1.frozen? ⟨rb, j, none⟩ = false) := by
  obtain ⟨hn, hok, ok2, c, cur, hcl, hM, hh, hle, hcur, hoki, hre⟩ := S_rebuild (0, []) hS k hk
  obtain ⟨tv, rfl, hR⟩ := kRow_open hM
  have hlt : rb < w.heap.size := (Array.getElem?_eq_some_iff.1 hh).1
  have h2 : kRow.sz = 2 := rfl
  rw [h2] at hle hcur hre
  refine ⟨hok, hlt, ok2, tv, cell_of_heap hh (hcur 0 (by omega)), cell_of_heap hh (hcur 1 (by omega)), fz_of_heap hh, hR, hoki, fun w1 tv1 ts1 hF hR1 => ?_⟩
  have hh1 : w1.heap[rb]? = some (.cells cur 154 (0, 0)) := hF.heap hh (fun q => (hoki rb q).2.1 rfl)
  obtain ⟨s1, s2⟩ := set_hd hh1 (k * 2 + 1) tv1
  refine ⟨?_, (hF.mono (fun _ _ q => .inr q)).trans s2 (fun b _ q => .inl q), cell_of_heap hh1 (hcur 0 (by omega)), cell_of_heap hh1 (hcur 1 (by omega)), fz_of_heap hh1⟩
  refine hre _ ((rg r k).1, ts1) [.int .i64 (rg r k).1, tv1] (fun b => ok2 b ∨ w.heap.size ≤ b) _ s1 (by rw [Array.size_setIfInBounds]) (fun j hj => by rw [Array.getElem?_setIfInBounds_ne (by omega)]) (fun j hj => ?_) rfl (fun b hb hn2 ho => ?_) (kRow_mk (p := ((rg r k).1, ts1)) ?_) (fun _ q => q)
  · rcases (show j = 0 ∨ j = 1 by omega) with rfl | rfl
    · rw [Array.getElem?_setIfInBounds_ne (by omega), hcur 0 (by omega)]; rfl
    · rw [Array.getElem?_setIfInBounds_self_of_lt (by omega)]; rfl
  · exact (s2.block b (Nat.lt_of_lt_of_le hb hF.size) hn2).trans (hF.block b hb ho)
  · refine Kd.R_step hR1 (fun b hb _ => s2.block b (by assumption) ?_)
    rintro rfl
    rcases hb with hb | hb
    · exact (hoki _ hb).2.1 rfl
    · omega
end Go.Proofs.Ytgiimdoabkcoaaa.Co
