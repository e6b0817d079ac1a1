/-
One lock beside two rows of the caller's: who waits, and how long each may.
-/
import Derived.Test.YtgiimdoabkcoaaaCoTieP
import Derived.Test.YtgiimdoabkcoaaaCoCX
import Derived.Test.YtgiimdoabkcoaaaCoOps
namespace Go.Proofs.Ytgiimdoabkcoaaa.Co
set_option linter.unusedVariables false
set_option linter.unusedSimpArgs false
open Go.RowKit Go.Proofs.YtgiimdoabkcoaaaW.PrintWords Go.Proofs.YtgiimdoabkcoaaaW.PrintLast Go.Proofs.YtgiimdoabkcoaaaW.PrintMore
def kW : Kd Wt := Kd.pair (Kd.int .i64) (Kd.int .i64)
theorem kW_open {w : World} {base : Nat} {ok : Nat → Prop} {p : Wt} {cs : List Value} (h : kW.M w base ok p cs) : cs = [.int .i64 p.1, .int .i64 p.2] := by
  obtain ⟨_, _, rfl, rfl, rfl⟩ := h
  rfl
theorem kW_mk (w : World) (base : Nat) (ok : Nat → Prop) (p : Wt) : kW.M w base ok p [.int .i64 p.1, .int .i64 p.2] := ⟨[.int .i64 p.1], [.int .i64 p.2], rfl, rfl, rfl⟩
theorem infoW : (Try.prog.info? 95).map (fun i => (i.zero, i.size, i.bytes)) = some (some (.agg #[.int .i64 0, .int .i64 0]), 2, 16) := by kernel_rfl
abbrev RW (w : World) (base : Nat) (ok : Nat → Prop) (v : Value) (ws : List Wt) : Prop := Kd.R kW 95 w base ok v ws
abbrev RL (w : World) (base : Nat) (ok : Nat → Prop) (v : Value) (lf : List Int) : Prop := Kd.R (Kd.int .i64) 3 w base ok v lf
/-- the lock, who waits (at v4), how long (at v5). -/
def OS (w0 w : World) (h lb : Nat) (x : LS) (ws : List Wt) (lf : List Int) (v4 v5 : Value) : Prop := ∃ X, CX w0 w X h lb x ∧ RW w w0.heap.size X v4 ws ∧ RL w w0.heap.size X v5 lf
section
variable {w0 w w1 : World} {h lb : Nat} {x : LS} {ws ws1 : List Wt} {lf lf1 : List Int} {v4 v5 v1 : Value} {base : Nat} {ok : Nat → Prop} {A : Option Addr} {n c j : Nat}
theorem OS.bel (o : OS w0 w h lb x ws lf v4 v5) : Below w0.heap.size w0 w := by obtain ⟨X, c, _⟩ := o; exact c.bel
theorem OS.c1 (o : OS w0 w h lb x ws lf v4 v5) : C1 w0 w h lb x := by obtain ⟨X, c, _⟩ := o; exact c.c1
theorem OS.behind (o : OS w0 w h lb x ws lf v4 v5) (hb : Below w.heap.size w w1) : OS w0 w1 h lb x ws lf v4 v5 := by
  obtain ⟨X, c, r1, r2⟩ := o
  exact ⟨X, c.behind hb, Kd.R_below r1 hb, Kd.R_below r2 hb⟩
theorem OS.start (c : C1 w0 w h lb x) : OS w0 w h lb x [] [] (.slice none 0 0) (.slice none 0 0) := ⟨_, CX.of_c1 c, Kd.R_nil _ _ _ _ _, Kd.R_nil _ _ _ _ _⟩
theorem OS.take (o : OS w0 w h lb x ws lf v4 v5) (hs : Sm 1000000 x) (t s : Int) :
    Calls Try.prog 48 #[.pointer (some ⟨h, 0, none⟩), .int .i64 0, .int .i64 t, .int .i64 s] w fun e w' => e = .returned (tkV (takeP x t s).2.1 (takeP x t s).2.2) ∧ OS w0 w' h lb (takeP x t s).1 ws lf v4 v5 := by
  obtain ⟨X, c, r1, r2⟩ := o
  refine (take_cx c hs t s).mono ?_
  rintro e w' ⟨rfl, c', f⟩
  exact ⟨rfl, X, c', Kd.R_step r1 (fun k hk hlt => f.block k hlt (fun q => q.2 hk)), Kd.R_step r2 (fun k hk hlt => f.block k hlt (fun q => q.2 hk))⟩
theorem OS.give (o : OS w0 w h lb x ws lf v4 v5) (hs : Sm 1000000 x) (hok : Ok x) (hp : x.passes ≤ 1000000) (t : Int) :
    Calls Try.prog 50 #[.pointer (some ⟨h, 0, none⟩), .int .i64 0, .int .i64 t] w fun e w' => e = .returned (gvV (giveP x t).2.1 (giveP x t).2.2.1 (giveP x t).2.2.2) ∧ OS w0 w' h lb (giveP x t).1 ws lf v4 v5 := by
  obtain ⟨X, c, r1, r2⟩ := o
  refine (give_cx c hs hok hp t).mono ?_
  rintro e w' ⟨rfl, c', f⟩
  exact ⟨rfl, X, c', Kd.R_step r1 (fun k hk hlt => f.block k hlt (fun q => q.2 hk)), Kd.R_step r2 (fun k hk hlt => f.block k hlt (fun q => q.2 hk))⟩
theorem own_ne (r1 : RW w base ok v4 ws) {ok2 : Nat → Prop} (r2 : RL w base ok2 v5 lf) : RL w base (fun k => ok2 k ∧ v4.ownBlock ≠ some k) v5 lf := by
  cases hv : v4.ownBlock with
  | none => exact Kd.R_mono r2 (fun k hk => ⟨hk, by simp⟩)
  | some g =>
    obtain ⟨cells, hc⟩ := Kd.R_typed r1 g hv
    exact Kd.R_mono (Kd.R_types r2 hc (by intro q hq; simp [Kd.int, Kd.scalar] at hq; subst hq; decide)) (fun k hk => ⟨hk.1, fun e => hk.2 (by injection e with e; exact e.symm)⟩)
theorem own_ne2 (r1 : RL w base ok v5 lf) {ok2 : Nat → Prop} (r2 : RW w base ok2 v4 ws) : RW w base (fun k => ok2 k ∧ v5.ownBlock ≠ some k) v4 ws := by
  cases hv : v5.ownBlock with
  | none => exact Kd.R_mono r2 (fun k hk => ⟨hk, by simp⟩)
  | some g =>
    obtain ⟨cells, hc⟩ := Kd.R_typed r1 g hv
    exact Kd.R_mono (Kd.R_types r2 hc (by intro q hq; simp [kW, Kd.pair, Kd.int, Kd.scalar] at hq; subst hq; decide)) (fun k hk => ⟨hk.1, fun e => hk.2 (by injection e with e; exact e.symm)⟩)
/-- who waits changes. -/
theorem OS.putW (o : OS w0 w h lb x ws lf v4 v5) : ∃ X : Nat → Prop, RW w w0.heap.size X v4 ws ∧ ∀ w1 v1 ws1, RW w1 w0.heap.size (fun k => X k ∨ w.heap.size ≤ k) v1 ws1 → Fr (fun k => v4.ownBlock = some k) w w1 → OS w0 w1 h lb x ws1 lf v1 v5 := by
  obtain ⟨X, c, r1, r2⟩ := o
  refine ⟨X, r1, fun w1 v1 ws1 hR hF => ⟨fun k => X k ∨ (w.heap.size ≤ k ∧ k < w1.heap.size), c.other (hF.mono (fun k _ q => r1.1 k q)) (fun k q => q), Kd.R_mono (Kd.R_bound hR) (fun k hk => ?_), ?_⟩⟩
  · exact hk.1.elim .inl (fun q => .inr ⟨q, hk.2.2.1⟩)
  · exact Kd.R_mono (Kd.R_step (own_ne r1 r2) (fun k hk hlt => hF.block k hlt hk.2)) (fun k hk => .inl hk.1)
/-- how long each may wait changes. -/
theorem OS.putL (o : OS w0 w h lb x ws lf v4 v5) : ∃ X : Nat → Prop, RL w w0.heap.size X v5 lf ∧ ∀ w1 v1 lf1, RL w1 w0.heap.size (fun k => X k ∨ w.heap.size ≤ k) v1 lf1 → Fr (fun k => v5.ownBlock = some k) w w1 → OS w0 w1 h lb x ws lf1 v4 v1 := by
  obtain ⟨X, c, r1, r2⟩ := o
  refine ⟨X, r2, fun w1 v1 lf1 hR hF => ⟨fun k => X k ∨ (w.heap.size ≤ k ∧ k < w1.heap.size), c.other (hF.mono (fun k _ q => r2.1 k q)) (fun k q => q), ?_, Kd.R_mono (Kd.R_bound hR) (fun k hk => ?_)⟩⟩
  · exact Kd.R_mono (Kd.R_step (own_ne2 r2 r1) (fun k hk hlt => hF.block k hlt hk.2)) (fun k hk => .inl hk.1)
  · exact hk.1.elim .inl (fun q => .inr ⟨q, hk.2.2.1⟩)
theorem OS.newW (o : OS w0 w h lb x ws lf v4 v5) (hR : RW w1 w.heap.size (fun _ => True) v1 ws1) (hB : Below w.heap.size w w1) : OS w0 w1 h lb x ws1 lf v1 v5 := by
  have hsz := o.bel.size
  obtain ⟨X, _, hp⟩ := o.putW
  exact hp w1 v1 ws1 (Kd.R_lower (Kd.R_mono (Kd.R_bound hR) (fun k hk => .inr hk.2.1)) hsz) (Fr.of_below _ hB)
theorem OS.newL (o : OS w0 w h lb x ws lf v4 v5) (hR : RL w1 w.heap.size (fun _ => True) v1 lf1) (hB : Below w.heap.size w w1) : OS w0 w1 h lb x ws lf1 v4 v1 := by
  have hsz := o.bel.size
  obtain ⟨X, _, hp⟩ := o.putL
  exact hp w1 v1 lf1 (Kd.R_lower (Kd.R_mono (Kd.R_bound hR) (fun k hk => .inr hk.2.1)) hsz) (Fr.of_below _ hB)
theorem R_empty {α : Type} (d : Kd α) {e b : Nat} {w : World} (hb : w.heap[b]? = some (.cells #[] e (0, 0))) (hbase : base ≤ b) (hok : ok b) : d.R e w base ok (.slice (some ⟨b, 0, none⟩) 0 0) [] := by
  refine ⟨fun k hk => ?_, [], ⟨by simp, .inr ⟨b, 0, #[], rfl, hbase, hb, Nat.le_refl _, Nat.zero_le _, by simp, by simp⟩⟩, Reps.none _ _⟩
  injection hk with hk
  subst hk
  exact hok
theorem OS.atW (o : OS w0 w h lb x ws lf (.slice A n c) v5) : n = ws.length ∧ n ≤ c ∧ kW.C w A ws.length ws := by
  obtain ⟨X, _, r, _⟩ := o
  exact Kd.R_reads' r
theorem OS.atL (o : OS w0 w h lb x ws lf v4 (.slice A n c)) : n = lf.length ∧ n ≤ c ∧ (Kd.int .i64).C w A lf.length lf := by
  obtain ⟨X, _, _, r⟩ := o
  exact Kd.R_reads' r
theorem kW_KM {p : Wt} {cs : List Value} (h : kW.K w p cs) : kW.M w1 base ok p cs := by
  obtain ⟨_, _, rfl, rfl, rfl⟩ := h
  exact kW_mk _ _ _ _
/-- the two cuts about a place. -/
theorem cuts {α : Type} {d : Kd α} {xs : List α} {k : Nat} (h : n = xs.length ∧ n ≤ c ∧ d.C w A xs.length xs) (hk : k < n) (hb : n ≤ 100) :
    ∃ k1 : Nat, d.C w A k (xs.take k) ∧ d.C w (if c = k1 then A else A.map (fun x => x.add (k1 * d.sz))) (n - k1) (xs.drop k1) ∧ (k ≤ c) = True ∧ (k1 ≤ c) = True ∧ (n ≤ c) = True ∧ (k1 ≤ n) = True ∧ IntKind.i64.wrap ((k : Int) + 1) = (k1 : Int) ∧ ((0 : Int) ≤ (k1 : Int) ∧ (k1 : Int) ≤ (n : Int)) = True ∧ (([] : List α).length + k) * 16 ≤ 140737488355328 ∧ ((xs.take k).length + (n - k1)) * 16 ≤ 140737488355328 ∧ (([] : List α).length + k) * 8 ≤ 140737488355328 ∧ ((xs.take k).length + (n - k1)) * 8 ≤ 140737488355328 ∧ xs.take k ++ xs.drop k1 = xs.eraseIdx k := by
  refine ⟨k + 1, ?_⟩
  obtain ⟨h1, h2, h3⟩ := h
  have l1 : (xs.take k).length = k := by rw [List.length_take]; omega
  have l2 : (xs.drop (k + 1)).length = n - (k + 1) := by rw [List.length_drop, h1]
  have c1 := Kd.C_take h3 (m := k) (by omega)
  have c2 := Kd.C_drop h3 (m := k + 1) (c := c) (by omega) (by omega)
  rw [l1] at c1
  rw [l2] at c2
  have l3 : ([] : List α).length = 0 := rfl
  refine ⟨c1, c2, eq_true (by omega), eq_true (by omega), eq_true h2, eq_true (by omega), ?_, eq_true (by omega), by omega, by omega, by omega, by omega, (List.eraseIdx_eq_take_drop_succ xs k).symm⟩
  refine (pass_num (p := (k : Int)) (by omega) (by omega)).2.trans ?_
  push_cast
  rfl
theorem R_fresh {α : Type} (d : Kd α) (e : Nat) (w : World) : d.R e (w.alloc (.cells #[] e)).drew w.heap.size (fun _ => True) (.slice (some ⟨w.heap.size, 0, none⟩) 0 0) [] :=
  R_empty d (MapKept.heap_alloc w (.cells #[] e)).1 (Nat.le_refl _) trivial
/-- the rows as they are while each is counted down. -/
def lfm (lf : List Int) (j : Nat) : List Int := less (lf.take j) ++ lf.drop j
theorem lfm_len : (lfm lf j).length = lf.length := by
  unfold lfm less
  rw [List.length_append, List.length_map, List.length_take, List.length_drop]
  omega
theorem lfm_at (h : j < lf.length) : lg (lfm lf j) j = lg lf j := by
  unfold lg lfm less
  rw [List.getD_eq_getElem?_getD, List.getD_eq_getElem?_getD, List.getElem?_append_right (by simp; omega), List.getElem?_drop]
  have : j + (j - (List.map (fun x => x - 1) (List.take j lf)).length) = j := by simp; omega
  rw [this]
theorem lfm_set (h : j < lf.length) : (lfm lf j).set j (lg lf j - 1) = lfm lf (j + 1) := by
  unfold lfm less
  have hl : (List.map (fun x => x - 1) (List.take j lf)).length = j := by simp; omega
  rw [List.set_append, if_neg (by omega), hl, Nat.sub_self, List.drop_eq_getElem_cons h, List.set_cons_zero, List.take_succ_eq_append_getElem h, List.map_append, lg_at h]
  simp
theorem lfm_all : lfm lf lf.length = less lf := by unfold lfm; rw [List.take_length, List.drop_length, List.append_nil]
theorem lfm_zero : lfm lf 0 = lf := rfl
/-- at which place a task waits: the last one so far. -/
def atF (ws : List Wt) (nx : Int) : Nat → Int
  | 0 => -1
  | j + 1 => if (wg ws j).1 = nx then (j : Int) else atF ws nx j
theorem atF_eq (hn : (ws.map (·.1)).Nodup) {k : Nat} (hk : k < ws.length) : ∀ j, j ≤ ws.length → atF ws (wg ws k).1 j = if k < j then (k : Int) else -1
  | 0, _ => by simp [atF]
  | j + 1, hj => by
    have ih := atF_eq hn hk j (by omega)
    unfold atF
    by_cases e : (wg ws j).1 = (wg ws k).1
    · have hjk : j = k := nodup_inj hn (i := j) (j := k) (by rw [List.length_map]; omega) (by rw [List.length_map]; omega) (by
        rw [wg_at (by omega), wg_at hk] at e
        simpa using e)
      rw [if_pos e, if_pos (by omega), hjk]
    · have hjk : j ≠ k := fun q => e (by rw [q])
      rw [if_neg e, ih]
      by_cases h1 : k < j
      · rw [if_pos h1, if_pos (by omega)]
      · rw [if_neg h1, if_neg (by omega)]
theorem w_at (r : RW w base ok (.slice A n c) ws) (hj : j < n) : n = ws.length ∧ ∃ q, A = some ⟨q, 0, none⟩ ∧ q < w.heap.size ∧ w.cell? ⟨q, j * 2, none⟩ = some (.int .i64 (wg ws j).1) ∧ w.cell? ⟨q, j * 2 + 1, none⟩ = some (.int .i64 (wg ws j).2) := by
  have hn := (Kd.R_reads' r).1
  obtain ⟨q, cap, hq, _, hql, _⟩ := Kd.R_form r (by omega)
  injection hq with hq1 hq2 hq3
  subst hq1
  obtain ⟨cc, hcl, hM, hcc, _⟩ := Kd.R_elem r (0, 0) (j : Int) (by omega) (by omega)
  rw [Int.toNat_natCast] at hM hcc
  obtain rfl := kW_open hM
  exact ⟨hn, q, rfl, hql, hcc 0 _ rfl, hcc 1 _ rfl⟩
theorem l_at (r : RL w base ok (.slice A n c) lf) (hj : j < n) : n = lf.length ∧ ∃ q, A = some ⟨q, 0, none⟩ ∧ q < w.heap.size ∧ w.cell? ⟨q, j, none⟩ = some (.int .i64 (lg lf j)) ∧ w.frozen? ⟨q, j, none⟩ = false := by
  have hn := (Kd.R_reads' r).1
  obtain ⟨q, cap, hq, _, hql, _⟩ := Kd.R_form r (by omega)
  injection hq with hq1 hq2 hq3
  subst hq1
  obtain ⟨cc, hcl, hM, hcc, hfz⟩ := Kd.R_elem r 0 (j : Int) (by omega) (by omega)
  have hM' : cc = [.int .i64 (lf.getD (j : Int).toNat 0)] := hM
  subst hM'
  have h1 : (j : Int).toNat * (Kd.int .i64).sz + 0 = j := by rw [Int.toNat_natCast]; exact Nat.mul_one j
  have e0 := hcc 0 _ rfl
  have z0 := hfz 0
  rw [h1] at e0 z0
  exact ⟨hn, q, rfl, hql, e0, z0⟩
end
end Go.Proofs.Ytgiimdoabkcoaaa.Co
