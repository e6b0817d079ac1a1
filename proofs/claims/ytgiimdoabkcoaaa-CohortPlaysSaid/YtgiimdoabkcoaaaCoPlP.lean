import Derived.Test.YtgiimdoabkcoaaaCoOrdM
import Derived.Test.YtgiimdoabkcoaaaCoRGive
import Derived.Test.YtgiimdoabkcoaaaCohortBudget
/-
Which locks a task has: the loop over all locks, walked.
-/
namespace Go.Proofs.Ytgiimdoabkcoaaa.Co
set_option linter.unusedVariables false
set_option linter.unusedSimpArgs false
open Go.RowKit Go.Proofs.YtgiimdoabkcoaaaW.PrintWords Go.Proofs.YtgiimdoabkcoaaaW.PrintLast Go.Proofs.YtgiimdoabkcoaaaW.PrintMore
def hasB (x : LS) (t : Int) : Bool := x.held && decide (x.owner = t)
def ownedP (xs : List LS) (t : Int) (k : Nat) : List Int := ((List.range k).filter (fun i => hasB (xs.getD i ls0) t)).map (fun i : Nat => (i : Int))
theorem ownedP_succ (xs : List LS) (t : Int) (k : Nat) : ownedP xs t (k + 1) = ownedP xs t k ++ (if hasB (xs.getD k ls0) t = true then [(k : Int)] else []) := by
  unfold ownedP
  rw [List.range_succ, List.filter_append, List.map_append]
  congr 1
  by_cases h : hasB (xs.getD k ls0) t = true
  · rw [if_pos h, List.filter_cons_of_pos (p := fun i : Nat => hasB (xs.getD i ls0) t) h]; rfl
  · rw [if_neg h, List.filter_cons_of_neg (p := fun i : Nat => hasB (xs.getD i ls0) t) h]; rfl
theorem ownedP_len (xs : List LS) (t : Int) (k : Nat) : (ownedP xs t k).length ≤ k := by
  unfold ownedP
  rw [List.length_map]
  exact Nat.le_trans (List.length_filter_le _ _) (by rw [List.length_range]; exact Nat.le_refl _)
section
variable {w : World} {F : Nat → Prop} {h lb : Nat} {xs : List LS}
theorem owner_at (L : LocksAt w F h lb xs) {i : Nat} (hi : i < xs.length) : Calls Try.prog 49 #[.pointer (some ⟨h, 0, none⟩), .int .i64 (i : Int)] w fun e w' => e = .returned (.tuple #[.int .i64 (if (xs.getD i ls0).held = true then (xs.getD i ls0).owner else 0), .bool (xs.getD i ls0).held]) ∧ w' = w := by
  refine (owner_any L (i : Int)).mono ?_
  rintro e w' ⟨rfl, rfl⟩
  rw [Int.toNat_natCast]
  refine ⟨?_, rfl⟩
  cases hh : (xs.getD i ls0).held
  · rw [if_neg (by simp)]; simp
  · rw [if_pos ⟨Int.natCast_nonneg _, Int.ofNat_lt.2 hi, rfl⟩]; simp
theorem owner_out (L : LocksAt w F h lb xs) {n : Int} (hn : ¬ (0 ≤ n ∧ n < (xs.length : Int))) : Calls Try.prog 49 #[.pointer (some ⟨h, 0, none⟩), .int .i64 n] w fun e w' => e = .returned (.tuple #[.int .i64 0, .bool false]) ∧ w' = w := by
  refine (owner_any L n).mono ?_
  rintro e w' ⟨rfl, rfl⟩
  rw [if_neg (fun q => hn ⟨q.1, q.2.1⟩)]
  exact ⟨rfl, rfl⟩
set_option maxRecDepth 100000 in
theorem owned_any (L : LocksAt w F h lb xs) (t : Int) (hl : xs.length ≤ 1000) :
    Calls Try.prog 57 #[.pointer (some ⟨h, 0, none⟩), .int .i64 t] w fun e w' => ∃ v, e = .returned v ∧ Kd.R (Kd.int .i64) 3 w' w.heap.size (fun _ => True) v (ownedP xs t xs.length) ∧ Below w.heap.size w w' := by
  have HL := Lib.hid L
  have hlen := len_any L
  obtain ⟨n, hn⟩ : ∃ n, xs.length = n := ⟨_, rfl⟩
  have HN := Lib.hid hn
  rw [hn] at hl hlen ⊢
  have HLen := Lib.hid hlen
  clear L hn hlen
  go_enter Try.func57, Try.ntmps57
  go_wp2_with (first | (go_at_call 56; refine (HLen.out).mono ?_; rintro e w1 ⟨rfl, hw9⟩; rw [hw9]; clear hw9) | fail)
  go_loopg [4, 5, 6, 7, 10] n (fun gg v4 _ _ _ v10 wr => ∃ (k : Nat) (A4 : Option Addr) (m4 c4 : Nat), k ≤ n ∧ n - k ≤ gg ∧ v10 = .int .i64 k ∧ v4 = .slice A4 m4 c4 ∧ Aside0 (Below w.heap.size w wr) ∧ Aside0 (Kd.R (Kd.int .i64) 3 wr w.heap.size (fun _ => True) (.slice A4 m4 c4) (ownedP xs t k)))
  case atStart => exact ⟨0, none, 0, 0, Nat.zero_le _, by omega, rfl, rfl, ⟨Below.refl _ w⟩, ⟨by simpa [ownedP] using Kd.R_nil _ _ _ _ _⟩⟩
  case round =>
    obtain ⟨k, A4, m4, e4, hk, hg, rfl, rfl, BW, HO⟩ := hrel
    by_cases hlt : k < n
    · have hltz : (k : Int) < (n : Int) := by omega
      have HOwn := Lib.hid (owner_at (HL.out.behind BW.out) (i := k) (by rw [HN.out]; exact hlt))
      have hsucc := ownedP_succ xs t k
      obtain ⟨x, hx⟩ : ∃ x, xs.getD k ls0 = x := ⟨_, rfl⟩
      rw [hx] at HOwn hsucc
      clear hx
      have hcase : (x.held = false ∧ hasB x t = false) ∨ (x.held = true ∧ (x.owner == t) = false ∧ hasB x t = false) ∨ (x.held = true ∧ (x.owner == t) = true ∧ hasB x t = true) := by
        unfold hasB
        cases x.held with
        | false => exact .inl ⟨rfl, rfl⟩
        | true =>
          by_cases q : x.owner = t
          · exact .inr (.inr ⟨rfl, by simp [q], by simp [q]⟩)
          · exact .inr (.inl ⟨rfl, by simp [q], by simp [q]⟩)
      have HL4 : Hid (((ownedP xs t k).length + 1) * 8 ≤ 140737488355328) := Lib.hid (by have := ownedP_len xs t k; omega)
      rcases hcase with ⟨hh, hb⟩ | ⟨hh, ho, hb⟩ | ⟨hh, ho, hb⟩
      · rw [hh] at HOwn
        rw [if_neg (by rw [hb]; decide), List.append_nil] at hsucc
        have HS := Lib.hid hsucc
        clear hsucc hh hb
        go_wp2_with (first | (go_at_call 49; refine (HOwn.out).mono ?_; rintro e w1 ⟨rfl, hw9⟩; rw [hw9]; clear hw9) | fail)
        go_roundg (n - (k + 1))
        case measure => omega
        case rel => exact ⟨k + 1, A4, m4, e4, by omega, by omega, by go_num, rfl, ⟨BW.out⟩, ⟨by rw [HS.out]; exact HO.out⟩⟩
      · rw [hh, if_pos rfl] at HOwn
        rw [if_neg (by rw [hb]; decide), List.append_nil] at hsucc
        have HS := Lib.hid hsucc
        clear hsucc hh hb
        go_wp2_with (first | (go_at_call 49; refine (HOwn.out).mono ?_; rintro e w1 ⟨rfl, hw9⟩; rw [hw9]; clear hw9) | fail)
        go_roundg (n - (k + 1))
        case measure => omega
        case rel => exact ⟨k + 1, A4, m4, e4, by omega, by omega, by go_num, rfl, ⟨BW.out⟩, ⟨by rw [HS.out]; exact HO.out⟩⟩
      · rw [hh, if_pos rfl] at HOwn
        rw [if_pos hb] at hsucc
        have HS := Lib.hid hsucc
        clear hsucc hh hb
        go_wp2_with (first
          | (go_at_call 49; refine (HOwn.out).mono ?_; rintro e w1 ⟨rfl, hw9⟩; rw [hw9]; clear hw9)
          | (at_builtin; refine Kd.R_append (Kd.int .i64) (w0 := w) w.heap.size rfl (.tmp 25) (.tmp 27) 27 3 (.int .i64 0) 8 rfl Try.underlying27 infoInt rfl (by decide) (by decide) (.slice A4 m4 e4) (ownedP xs t k) (k : Int) [.int .i64 (k : Int)] (fun _ => True) (fun _ => False) rfl rfl rfl (fun _ q => q.elim) (fun _ _ => trivial) HO.out BW.out BW.out.size HL4.out ?_; intro v7 w7 hR7 hB7 hg7 hat7; rw [← HS.out] at hR7; obtain ⟨A7, k7_, e7_⟩ := Kd.R_slice hR7; subst e7_; have HR7 := Lib.hid hR7; have HB7 := Lib.hid hB7; clear hR7 hB7 hg7 hat7)
          | fail)
        go_roundg (n - (k + 1))
        case measure => omega
        case rel => exact ⟨k + 1, A7, _, k7_, by omega, by omega, by go_num, rfl, ⟨HB7.out⟩, ⟨HR7.out⟩⟩
    · have hltz : ¬ (k : Int) < (n : Int) := by omega
      have : k = n := by omega
      subst this
      go_wp2
      go_ret
      exact ⟨_, rfl, HO.out, BW.out⟩
end
end Go.Proofs.Ytgiimdoabkcoaaa.Co

/-
The document's locks as they lie in memory, beside the locks themselves.
-/
namespace Go.Proofs.Ytgiimdoabkcoaaa.Co
set_option linter.unusedVariables false
set_option linter.unusedSimpArgs false
open Go.RowKit Go.Proofs.YtgiimdoabkcoaaaW.PrintWords Go.Proofs.YtgiimdoabkcoaaaW.PrintLast Go.Proofs.YtgiimdoabkcoaaaW.PrintMore
/-! rows of waiting tasks, in the two kinds -/
theorem R_map {α β : Type} {d : Kd β} {f : α → β} {e base : Nat} {w : World} {ok : Nat → Prop} {v : Value} {xs : List α} : d.R e w base ok v (xs.map f) ↔ (Kd.iso d f).R e w base ok v xs := by
  constructor
  · rintro ⟨h0, inner, ho, hr⟩
    rw [List.length_map] at ho
    refine ⟨h0, inner, ho, by have := hr.1; rw [List.length_map] at this; exact this, fun j p hj => ?_⟩
    exact hr.2 j (f p) (by rw [List.getElem?_map, hj]; rfl)
  · rintro ⟨h0, inner, ho, hr⟩
    refine ⟨h0, inner, by rw [List.length_map]; exact ho, by rw [List.length_map]; exact hr.1, fun j p hj => ?_⟩
    rw [List.getElem?_map] at hj
    obtain ⟨q, hq, rfl⟩ := Option.map_eq_some_iff.1 hj
    exact hr.2 j q hq
theorem R_ofW {e base : Nat} {w : World} {ok : Nat → Prop} {v : Value} {ws : List Wt} : K95.R e w base ok v (ws.map PCoa.ofW) ↔ kW.R e w base ok v ws := R_map
/-! one of the document's locks -/
def kDL : Kd DL := Kd.iso (Kd.pair Kd.bool (Kd.pair (Kd.int .i64) (Kd.pair (Kd.int .i64) (Kd.pair (Kd.int .i64) (Kd.pair (Kd.slice 95 kW) (Kd.slice 3 (Kd.int .i64))))))) (fun y : DL => (y.held, y.owner, y.socket, y.passes, y.waits, y.round))
def cD (y : DL) (v4 v5 : Value) : List Value := [.bool y.held, .int .i64 y.owner, .int .i64 y.socket, .int .i64 y.passes, v4, v5]
section
variable {w w1 W W1 : World} {base : Nat} {ok : Nat → Prop} {y : DL} {v4 v5 : Value} {cs : List Value}
theorem kDL_open (h : kDL.M w base ok y cs) : ∃ v4 v5, cs = cD y v4 v5 ∧ kW.R 95 w base ok v4 y.waits ∧ (Kd.int .i64).R 3 w base ok v5 y.round := by
  obtain ⟨_, _, rfl, rfl, ⟨_, _, rfl, rfl, ⟨_, _, rfl, rfl, ⟨_, _, rfl, rfl, ⟨_, _, rfl, ⟨v4, rfl, h4⟩, ⟨v5, rfl, h5⟩⟩⟩⟩⟩⟩ := h
  exact ⟨v4, v5, rfl, h4, h5⟩
theorem kDL_mk (h4 : kW.R 95 w base ok v4 y.waits) (h5 : (Kd.int .i64).R 3 w base ok v5 y.round) : kDL.M w base ok y (cD y v4 v5) :=
  ⟨[.bool y.held], [.int .i64 y.owner, .int .i64 y.socket, .int .i64 y.passes, v4, v5], rfl, rfl, ⟨[.int .i64 y.owner], [.int .i64 y.socket, .int .i64 y.passes, v4, v5], rfl, rfl, ⟨[.int .i64 y.socket], [.int .i64 y.passes, v4, v5], rfl, rfl, ⟨[.int .i64 y.passes], [v4, v5], rfl, rfl, ⟨[v4], [v5], rfl, ⟨v4, rfl, h4⟩, ⟨v5, rfl, h5⟩⟩⟩⟩⟩⟩
/-! six cells of a block are written -/
abbrev put6 (W : World) (b o : Nat) (u0 u1 u2 u3 u4 u5 : Value) : World := (((((W.setCell ⟨b, o, none⟩ u0).setCell ⟨b, o + 1, none⟩ u1).setCell ⟨b, o + 2, none⟩ u2).setCell ⟨b, o + 3, none⟩ u3).setCell ⟨b, o + 4, none⟩ u4).setCell ⟨b, o + 5, none⟩ u5
theorem put6_other {b o k : Nat} {u0 u1 u2 u3 u4 u5 : Value} (hk : k ≠ b) : (put6 W b o u0 u1 u2 u3 u4 u5).heap[k]? = W.heap[k]? := by
  unfold put6
  rw [Below.heap_setCell _ _ _ k hk, Below.heap_setCell _ _ _ k hk, Below.heap_setCell _ _ _ k hk, Below.heap_setCell _ _ _ k hk, Below.heap_setCell _ _ _ k hk, Below.heap_setCell _ _ _ k hk]
theorem put6_below {b o B : Nat} {u0 u1 u2 u3 u4 u5 : Value} (h : Below B w W) (hb : B ≤ b) : Below B w (put6 W b o u0 u1 u2 u3 u4 u5) := by
  unfold put6
  exact Below.setCell (Below.setCell (Below.setCell (Below.setCell (Below.setCell (Below.setCell h hb _) hb _) hb _) hb _) hb _) hb _
theorem put6_heap {b o T : Nat} {cur : Array Value} {u0 u1 u2 u3 u4 u5 : Value} (h : W.heap[b]? = some (.cells cur T (0, 0))) (hs : o + 6 ≤ cur.size) :
    ∃ cur1, (put6 W b o u0 u1 u2 u3 u4 u5).heap[b]? = some (.cells cur1 T (0, 0)) ∧ cur1.size = cur.size ∧ (∀ j, j < o ∨ o + 6 ≤ j → cur1[j]? = cur[j]?) ∧ ∀ j, j < 6 → cur1[o + j]? = [u0, u1, u2, u3, u4, u5][j]? := by
  refine ⟨(((((cur.setIfInBounds o u0).setIfInBounds (o + 1) u1).setIfInBounds (o + 2) u2).setIfInBounds (o + 3) u3).setIfInBounds (o + 4) u4).setIfInBounds (o + 5) u5, ?_, by simp, fun j hj => ?_, fun j hj => ?_⟩
  · exact blk_put (blk_put (blk_put (blk_put (blk_put (blk_put h _ _ rfl) _ _ rfl) _ _ rfl) _ _ rfl) _ _ rfl) _ _ rfl
  · simp only [Array.getElem?_setIfInBounds]
    rw [if_neg (by omega), if_neg (by omega), if_neg (by omega), if_neg (by omega), if_neg (by omega), if_neg (by omega)]
  · simp only [Array.getElem?_setIfInBounds, Array.size_setIfInBounds]
    match j, hj with
    | 0, _ => rw [if_neg (by omega), if_neg (by omega), if_neg (by omega), if_neg (by omega), if_neg (by omega), if_pos (by omega), if_pos (by omega)]; rfl
    | 1, _ => rw [if_neg (by omega), if_neg (by omega), if_neg (by omega), if_neg (by omega), if_pos (by omega), if_pos (by omega)]; rfl
    | 2, _ => rw [if_neg (by omega), if_neg (by omega), if_neg (by omega), if_pos (by omega), if_pos (by omega)]; rfl
    | 3, _ => rw [if_neg (by omega), if_neg (by omega), if_pos (by omega), if_pos (by omega)]; rfl
    | 4, _ => rw [if_neg (by omega), if_pos (by omega), if_pos (by omega)]; rfl
    | 5, _ => rw [if_pos (by omega), if_pos (by omega)]; rfl
end
/-- the locks (F) and the document's (G), made since w0. -/
def PS (w0 w : World) (h lb xb m cx : Nat) (xs : List LS) (ys : List DL) : Prop := ∃ F G, LocksAt w F h lb xs ∧ Kd.S kDL 156 w w0.heap.size G (.slice (some ⟨xb, 0, none⟩) m cx) ys ∧ (∀ k, F k → w0.heap.size ≤ k ∧ ¬ G k) ∧ (∀ k, G k → w0.heap.size ≤ k ∧ k < w.heap.size) ∧ Below w0.heap.size w0 w
section
variable {w0 w w1 : World} {h lb xb m cx : Nat} {xs : List LS} {ys : List DL}
theorem PS.bel (c : PS w0 w h lb xb m cx xs ys) : Below w0.heap.size w0 w := by obtain ⟨_, _, _, _, _, _, hb⟩ := c; exact hb
theorem PS.len (c : PS w0 w h lb xb m cx xs ys) : m = ys.length := by obtain ⟨_, _, _, s, _⟩ := c; exact (Kd.S_reads' s).1
theorem PS.locks (c : PS w0 w h lb xb m cx xs ys) : ∃ F, LocksAt w F h lb xs := by obtain ⟨F, _, L, _⟩ := c; exact ⟨F, L⟩
theorem PS.behind (c : PS w0 w h lb xb m cx xs ys) (hb : Below w.heap.size w w1) : PS w0 w1 h lb xb m cx xs ys := by
  obtain ⟨F, G, L, s, hF, hG, h0⟩ := c
  exact ⟨F, G, L.behind hb, Kd.S_below s hb, hF, fun k q => ⟨(hG k q).1, Nat.lt_of_lt_of_le (hG k q).2 hb.size⟩, h0.trans (hb.mono h0.size)⟩
theorem PS.next {F G : Nat → Prop} {xs1 : List LS} (s : Kd.S kDL 156 w w0.heap.size G (.slice (some ⟨xb, 0, none⟩) m cx) ys) (hF : ∀ k, F k → w0.heap.size ≤ k ∧ ¬ G k) (hG : ∀ k, G k → w0.heap.size ≤ k ∧ k < w.heap.size) (h0 : Below w0.heap.size w0 w)
    (L : LocksAt w1 (fun k => F k ∨ w.heap.size ≤ k) h lb xs1) (hr : Fr F w w1) : PS w0 w1 h lb xb m cx xs1 ys :=
  ⟨_, G, L, Kd.S_step s (fun k q hk => hr.block k hk (fun f => (hF k f).2 q)), fun k q => q.elim (hF k) (fun q => ⟨Nat.le_trans h0.size q, fun r => absurd (hG k r).2 (Nat.not_lt.2 q)⟩), fun k q => ⟨(hG k q).1, Nat.lt_of_lt_of_le (hG k q).2 hr.size⟩, h0.trans (hr.to_below h0.size (fun k q => (hF k q).1))⟩
theorem take_ps (c : PS w0 w h lb xb m cx xs ys) {i : Nat} (hi : i < xs.length) (hs : Sm 1000000 (xs.getD i ls0)) (t s : Int) :
    Calls Try.prog 48 #[.pointer (some ⟨h, 0, none⟩), .int .i64 (i : Int), .int .i64 t, .int .i64 s] w fun e w' => e = .returned (tkV (takeP (xs.getD i ls0) t s).2.1 (takeP (xs.getD i ls0) t s).2.2) ∧ PS w0 w' h lb xb m cx (xs.set i (takeP (xs.getD i ls0) t s).1) ys := by
  obtain ⟨F, G, L, s1, hF, hG, h0⟩ := c
  refine (take_some L hi hs t s).mono ?_
  rintro e w' ⟨rfl, l1, f1⟩
  exact ⟨rfl, PS.next s1 hF hG h0 l1 f1⟩
theorem give_ps (c : PS w0 w h lb xb m cx xs ys) {i : Nat} (hi : i < xs.length) (hs : Sm 1000000 (xs.getD i ls0)) (hok : Ok (xs.getD i ls0)) (hp : (xs.getD i ls0).passes ≤ 1000000) (t : Int) :
    Calls Try.prog 50 #[.pointer (some ⟨h, 0, none⟩), .int .i64 (i : Int), .int .i64 t] w fun e w' => e = .returned (gvV (giveP (xs.getD i ls0) t).2.1 (giveP (xs.getD i ls0) t).2.2.1 (giveP (xs.getD i ls0) t).2.2.2) ∧ PS w0 w' h lb xb m cx (xs.set i (giveP (xs.getD i ls0) t).1) ys := by
  obtain ⟨F, G, L, s1, hF, hG, h0⟩ := c
  refine (give_some L hi hs hok hp t).mono ?_
  rintro e w' ⟨rfl, l1, f1⟩
  exact ⟨rfl, PS.next s1 hF hG h0 l1 f1⟩
/-- one of the document's locks, as it lies; and what becomes of all when it is put back. -/
theorem PS.at (c : PS w0 w h lb xb m cx xs ys) {i : Nat} (hi : i < m) :
    ∃ (oki : Nat → Prop) (v4 v5 : Value), (∀ j, j < 6 → w.cell? ⟨xb, i * 6 + j, none⟩ = (cD (ys.getD i dl0) v4 v5)[j]?) ∧ (∀ j, w.frozen? ⟨xb, j, none⟩ = false) ∧ xb < w.heap.size ∧ (∃ cur, w.heap[xb]? = some (.cells cur 156 (0, 0))) ∧ (∀ k, oki k → k ≠ xb) ∧ kW.R 95 w w0.heap.size oki v4 (ys.getD i dl0).waits ∧ (Kd.int .i64).R 3 w w0.heap.size oki v5 (ys.getD i dl0).round ∧
      ∀ (W1 : World) (P okp : Nat → Prop) (y' : DL) (u4 u5 : Value), Kept w W1 P → Below w0.heap.size w0 W1 → (∀ k, P k → oki k) → kW.R 95 W1 w0.heap.size okp u4 y'.waits → (Kd.int .i64).R 3 W1 w0.heap.size okp u5 y'.round → (∀ k, okp k → oki k ∨ w.heap.size ≤ k) →
        (∀ j, j < 6 → W1.cell? ⟨xb, i * 6 + j, none⟩ = (cD (ys.getD i dl0) v4 v5)[j]?) ∧ (∀ j, W1.frozen? ⟨xb, j, none⟩ = false) ∧
        PS w0 (put6 W1 xb (i * 6) (.bool y'.held) (.int .i64 y'.owner) (.int .i64 y'.socket) (.int .i64 y'.passes) u4 u5) h lb xb m cx xs (ys.set i y') := by
  obtain ⟨F, G, L, s, hF, hG, h0⟩ := c
  obtain ⟨hn, hok, oki, cc, cur, hcl, hM, hh, hle, hcur, hoki, hre⟩ := S_rebuild dl0 s i hi
  obtain ⟨v4, v5, rfl, h4, h5⟩ := kDL_open hM
  have hxb : xb < w.heap.size := (Array.getElem?_eq_some_iff.1 hh).1
  have hsz : kDL.sz = 6 := rfl
  rw [hsz] at hle hcur
  refine ⟨oki, v4, v5, fun j hj => ?_, fun j => fz_of_heap hh j, hxb, ⟨cur, hh⟩, fun k q => (hoki k q).2.1, h4, h5, ?_⟩
  · rw [blk_cell hh, hcur j hj]
  intro W1 P okp y' u4 u5 hK hB hP h4' h5' hokp
  have hnx : ¬ P xb := fun q => (hoki xb (hP xb q)).2.1 rfl
  have hh1 : W1.heap[xb]? = some (.cells cur 156 (0, 0)) := (hK.2 xb hxb hnx).trans hh
  refine ⟨fun j hj => by rw [blk_cell hh1, hcur j hj], fun j => fz_of_heap hh1 j, ?_⟩
  have hPG : ∀ k, P k → G k := fun k q => (hoki k (hP k q)).1
  obtain ⟨cur1, g1, g2, g3, g4⟩ := put6_heap (o := i * 6) (u0 := .bool y'.held) (u1 := .int .i64 y'.owner) (u2 := .int .i64 y'.socket) (u3 := .int .i64 y'.passes) (u4 := u4) (u5 := u5) hh1 hle
  have hfar : ∀ k, k ≠ xb → (put6 W1 xb (i * 6) (.bool y'.held) (.int .i64 y'.owner) (.int .i64 y'.socket) (.int .i64 y'.passes) u4 u5).heap[k]? = W1.heap[k]? := fun k hk => put6_other hk
  have hneP : ∀ k, okp k → k ≠ xb := fun k q => (hokp k q).elim (fun r => (hoki k r).2.1) (fun r e => by omega)
  have hS := hre _ y' (cD y' u4 u5) okp cur1 g1 g2 g3 g4 rfl (fun k hk hne hn => (hfar k hne).trans (hK.2 k hk (fun q => hn (hP k q))))
    (kDL_mk (Kd.R_move h4' (fun k q => hfar k (hneP k q))) (Kd.R_move h5' (fun k q => hfar k (hneP k q)))) hokp
  have hbl : Below w0.heap.size w0 (put6 W1 xb (i * 6) (.bool y'.held) (.int .i64 y'.owner) (.int .i64 y'.socket) (.int .i64 y'.passes) u4 u5) := put6_below hB (hG xb hok).1
  have hsize : w.heap.size ≤ (put6 W1 xb (i * 6) (.bool y'.held) (.int .i64 y'.owner) (.int .i64 y'.socket) (.int .i64 y'.passes) u4 u5).heap.size := by
    simp only [put6, World.setCell]; simpa using hK.1
  refine ⟨_, fun k => (G k ∨ w.heap.size ≤ k) ∧ k < (put6 W1 xb (i * 6) (.bool y'.held) (.int .i64 y'.owner) (.int .i64 y'.socket) (.int .i64 y'.passes) u4 u5).heap.size, L.bound.kept (G := fun k => G k) ⟨?_, ?_, ?_, hsize, fun k hk hn => ?_⟩ (fun k q => (hF k q.1).2), Kd.S_mono (Kd.S_bound hS) (fun k q => ⟨q.1, q.2.2.1⟩), fun k q => ⟨(hF k q.1).1, fun r => ?_⟩, fun k q => ⟨q.1.elim (fun r => (hG k r).1) (fun r => Nat.le_trans h0.size r), q.2⟩, hbl⟩
  · exact hbl.os.trans h0.os.symm
  · exact hbl.tape.trans h0.tape.symm
  · exact hbl.output.trans h0.output.symm
  · exact (hfar k (fun e => hn (by rw [e]; exact hok))).trans (hK.2 k hk (fun q => hn (hPG k q)))
  · exact r.1.elim (hF k q.1).2 (fun r => absurd q.2 (Nat.not_lt.2 r))
end
end Go.Proofs.Ytgiimdoabkcoaaa.Co

/-
All locks and the document's, plain: what holds of each pair, and stays.
-/
namespace Go.Proofs.Ytgiimdoabkcoaaa.Co
set_option linter.unusedVariables false
set_option linter.unusedSimpArgs false
open Go.RowKit Go.Proofs.YtgiimdoabkcoaaaW.PrintWords Go.Proofs.YtgiimdoabkcoaaaW.PrintLast Go.Proofs.YtgiimdoabkcoaaaW.PrintMore
structure PI (n : Nat) (x : LS) (y : DL) : Prop where
  tie : Tie x y
  ok : Ok x
  sm : Sm n x
  ps : x.passes ≤ (n : Int)
  wl : y.waits.length ≤ n
theorem dropF_len : ∀ (ws : List Wt) (s : Int), (dropF ws s).length ≤ ws.length
  | [], _ => Nat.le_refl _
  | w :: l, s => by
    unfold dropF
    split
    · exact Nat.le_succ _
    · exact Nat.succ_le_succ (dropF_len l s)
theorem rTake_wl (y : DL) (t s : Int) : (rTake y t s).1.waits.length ≤ y.waits.length + 1 := by
  unfold rTake
  split
  · exact Nat.le_succ _
  · split
    · exact Nat.le_succ _
    · split
      · exact Nat.le_succ _
      · split
        · exact Nat.zero_le _
        · simp
theorem rGive_wl (y : DL) (t : Int) : (rGive y t).1.waits.length ≤ y.waits.length := by
  unfold rGive
  split
  · exact Nat.le_refl _
  · split
    · exact Nat.zero_le _
    · split
      · exact dropF_len _ _
      · exact dropF_len _ _
section
variable {n : Nat} {x : LS} {y : DL} {t s : Int}
theorem pi0 : PI 0 ls0 dl0 := ⟨tie0, ⟨by simp [ls0], by simp [ls0], by simp [ls0], by simp [ls0]⟩, ⟨by simp [ls0], by simp [ls0]⟩, by simp [ls0], Nat.le_refl _⟩
theorem PI.more (h : PI n x y) : PI (n + 1) x y := ⟨h.tie, h.ok, h.sm.more (Nat.le_succ _), by have := h.ps; omega, Nat.le_succ_of_le h.wl⟩
theorem PI.take (h : PI n x y) : PI (n + 1) (takeP x t s).1 (rTake y t s).1 ∧ (takeP x t s).2 = (rTake y t s).2 :=
  ⟨⟨(h.tie.take h.ok).1, take_ok h.ok, take_sm h.sm, take_pass (by have := h.ps; omega), Nat.le_trans (rTake_wl y t s) (Nat.succ_le_succ h.wl)⟩, (h.tie.take h.ok).2⟩
theorem PI.give (h : PI n x y) : PI (n + 1) (giveP x t).1 (rGive y t).1 ∧ (giveP x t).2 = (rGive y t).2 :=
  ⟨⟨(h.tie.give h.ok).1, give_ok h.ok, (give_sm h.ok h.sm).more (Nat.le_succ _), give_pass h.ok h.ps, Nat.le_trans (rGive_wl y t) (Nat.le_succ_of_le h.wl)⟩, (h.tie.give h.ok).2⟩
theorem PI.rl (h : PI n x y) : y.round.length ≤ n := by
  rw [← h.tie.tr.sk, List.length_map]
  exact h.sm.1
theorem PI.wr (h : PI n x y) : y.waits = [] ∨ y.round ≠ [] := by
  have hnil := h.tie.tr.nil h.ok.full
  by_cases q : y.waits = []
  · exact .inl q
  · refine .inr (fun e => q (hnil.1 ?_))
    have := h.tie.tr.sk
    rw [e] at this
    exact List.map_eq_nil_iff.1 this
end
def PIs (n m : Nat) (xs : List LS) (ys : List DL) : Prop := xs.length = m ∧ ys.length = m ∧ ∀ i, i < m → PI n (xs.getD i ls0) (ys.getD i dl0)
section
variable {n m : Nat} {xs : List LS} {ys : List DL}
theorem getD_set2 {α : Type} (l : List α) (i j : Nat) (a d : α) (hi : i < l.length) : (l.set i a).getD j d = if i = j then a else l.getD j d := by
  simp only [List.getD_eq_getElem?_getD, List.getElem?_set]
  by_cases h : i = j
  · subst h; simp [hi]
  · simp [h]
theorem PIs.more (h : PIs n m xs ys) : PIs (n + 1) m xs ys := ⟨h.1, h.2.1, fun i hi => (h.2.2 i hi).more⟩
theorem PIs.set (h : PIs n m xs ys) {i : Nat} (hi : i < m) {x : LS} {y : DL} (hp : PI (n + 1) x y) : PIs (n + 1) m (xs.set i x) (ys.set i y) := by
  refine ⟨by rw [List.length_set]; exact h.1, by rw [List.length_set]; exact h.2.1, fun j hj => ?_⟩
  rw [getD_set2 _ _ _ _ _ (by rw [h.1]; exact hi), getD_set2 _ _ _ _ _ (by rw [h.2.1]; exact hi)]
  by_cases e : i = j
  · rw [if_pos e, if_pos e]; exact hp
  · rw [if_neg e, if_neg e]; exact (h.2.2 j hj).more
theorem PIs.start (m : Nat) : PIs 0 m (List.replicate m ls0) (List.replicate m dl0) := by
  refine ⟨List.length_replicate, List.length_replicate, fun i hi => ?_⟩
  have h1 : (List.replicate m ls0).getD i ls0 = ls0 := by simp [List.getD_eq_getElem?_getD, List.getElem?_replicate, hi]
  have h2 : (List.replicate m dl0).getD i dl0 = dl0 := by simp [List.getD_eq_getElem?_getD, List.getElem?_replicate, hi]
  rw [h1, h2]
  exact pi0
end
end Go.Proofs.Ytgiimdoabkcoaaa.Co
