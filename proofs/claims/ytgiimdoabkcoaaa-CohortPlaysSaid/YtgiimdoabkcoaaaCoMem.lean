/-
How the locks lie in memory: rows in rows, no two of which lead to one block; what becomes of all when one of them changes.
-/
import Derived.Test.YtgiimdoabkcoaaaCoSpec
import Derived.Test.YtgiimdoabkcoaaaFr
import Derived.Test.YtgiimdoabkcoaaaWApart
import Derived.Test.YtgiimdoabkcoaaaWMore
import Derived.WalkKit
namespace Go.Proofs.Ytgiimdoabkcoaaa.Co
set_option linter.unusedVariables false
set_option linter.unusedSimpArgs false
open Go.RowKit Go.Proofs.YtgiimdoabkcoaaaW.PrintWords Go.Proofs.YtgiimdoabkcoaaaW.PrintLast Go.Proofs.YtgiimdoabkcoaaaW.PrintMore
/-- a row in a cell, whose elements lead to no block in common. -/
def sliceS {α : Type} (e : Nat) (d : Kd α) : Kd (List α) where
  sz := 1
  E := e :: d.E
  K := fun w xs cs => ∃ A c, cs = [.slice A xs.length c] ∧ xs.length ≤ c ∧ d.C w A xs.length xs
  M := fun w base ok xs cs => ∃ v, cs = [v] ∧ Kd.S d e w base ok v xs
  K_len := by
    rintro w x cs ⟨A, c, rfl, _⟩
    rfl
  K_one := by
    rintro w x cs ⟨A, c, rfl, _⟩ u hu
    rw [List.mem_singleton.1 hu]
    rfl
  K_below := by
    rintro w w1 x cs hb ⟨A, c, rfl, hl, hr⟩
    exact ⟨A, c, rfl, hl, Kd.C_below hr hb⟩
  K_of_M := by
    rintro w base ok x cs ⟨v, rfl, h⟩
    obtain ⟨A, c, rfl, hl, hr⟩ := Kd.S_reads h
    exact ⟨A, c, rfl, hl, hr⟩
  M_mono := by
    rintro w base ok ok' x cs hok ⟨v, rfl, h⟩
    exact ⟨v, rfl, Kd.S_mono h hok⟩
  M_bound := by
    rintro w base ok x cs ⟨v, rfl, h⟩
    exact ⟨v, rfl, Kd.S_bound h⟩
  M_move := by
    rintro w w1 base ok x cs hm ⟨v, rfl, h⟩
    exact ⟨v, rfl, Kd.S_move h hm⟩
  M_lower := by
    rintro w base base' ok x cs hb ⟨v, rfl, h⟩
    exact ⟨v, rfl, Kd.S_lower h hb⟩
theorem seg_get (cur : Array Value) (N a s j : Nat) : (((cur.toList.take N).drop a).take s)[j]? = if j < s ∧ a + j < N then cur[a + j]? else none := by
  simp only [List.getElem?_take, List.getElem?_drop, Array.getElem?_toList]
  by_cases h1 : j < s
  · by_cases h2 : a + j < N
    · simp [h1, h2]
    · simp [h1, h2]
  · simp [h1]
open Classical in
/-- An element of a row, its cells and blocks; and: whatever was done to it (its cells, its blocks, new blocks), the row has the new element there. -/
theorem S_rebuild {α : Type} {d : Kd α} {e base g n cap : Nat} {w : World} {ok : Nat → Prop} {xs : List α} (z : α) (h : Kd.S d e w base ok (.slice (some ⟨g, 0, none⟩) n cap) xs) (i : Nat) (hi : i < n) :
    n = xs.length ∧ ok g ∧ ∃ (oki : Nat → Prop) (c : List Value) (cur : Array Value), c.length = d.sz ∧ d.M w base oki (xs.getD i z) c ∧ w.heap[g]? = some (.cells cur e (0, 0)) ∧ i * d.sz + d.sz ≤ cur.size ∧ (∀ j, j < d.sz → cur[i * d.sz + j]? = c[j]?) ∧ (∀ k, oki k → ok k ∧ k ≠ g ∧ k < w.heap.size) ∧
      ∀ (w1 : World) (x' : α) (c' : List Value) (okp : Nat → Prop) (cur1 : Array Value), w1.heap[g]? = some (.cells cur1 e (0, 0)) → cur1.size = cur.size → (∀ j, j < i * d.sz ∨ i * d.sz + d.sz ≤ j → cur1[j]? = cur[j]?) → (∀ j, j < d.sz → cur1[i * d.sz + j]? = c'[j]?) → c'.length = d.sz →
        (∀ k, k < w.heap.size → k ≠ g → ¬ oki k → w1.heap[k]? = w.heap[k]?) → d.M w1 base okp x' c' → (∀ k, okp k → oki k ∨ w.heap.size ≤ k) →
        Kd.S d e w1 base (fun k => ok k ∨ w.heap.size ≤ k) (.slice (some ⟨g, 0, none⟩) n cap) (xs.set i x') := by
  obtain ⟨f, hok0, inner, ⟨hlen, ho⟩, hr⟩ := h
  rw [List.length_zipIdx] at hlen ho
  have hszt : (Kd.tag f d).sz = d.sz := rfl
  rw [hszt] at hlen ho hr
  rcases ho with ⟨h1, _⟩ | ⟨g', cap', cur, h1, hbase, hh, hnc, hcm, hcs, hin⟩
  · cases h1
  · injection h1 with h1 h2 h3
    injection h1 with h1
    injection h1 with h1
    subst h1 h2 h3
    have hg : ok g := hok0 g rfl
    have hglt : g < w.heap.size := (Array.getElem?_eq_some_iff.1 hh).1
    have hseg : i * d.sz + d.sz ≤ xs.length * d.sz := by rw [← Nat.succ_mul]; exact Nat.mul_le_mul_right _ hi
    have hcapn : xs.length * d.sz ≤ cap * d.sz := Nat.mul_le_mul_right _ hnc
    have hM := hr.2 i _ (Kd.zip_at (List.getElem?_eq_getElem hi))
    have hne : ∀ k, some k ≠ (Value.slice (some ⟨g, 0, none⟩) xs.length cap).ownBlock → k ≠ g := fun k hk he => hk (by rw [he]; rfl)
    refine ⟨rfl, hg, fun k => ((ok k ∧ k ≠ g) ∧ f k = i) ∧ k < w.heap.size, (inner.drop (i * d.sz)).take d.sz, cur, ?_, ?_, hh, ?_, fun j hj => ?_, fun k hk => ⟨hk.1.1.1, hk.1.1.2, hk.2⟩, ?_⟩
    · rw [List.length_take, List.length_drop, hlen]; omega
    · rw [List.getD_eq_getElem?_getD, List.getElem?_eq_getElem hi]
      refine d.M_mono (fun k hk => ?_) (d.M_bound hM)
      exact ⟨⟨⟨hk.1.1.1, hne k hk.1.1.2⟩, hk.1.2⟩, hk.2.2.1⟩
    · omega
    · rw [← hin, seg_get, if_pos ⟨hj, by omega⟩]
    · intro w1 x' c' okp cur1 hh1 hs1 hout hseg1 hc' hfar hM' hokp
      have hcl1 : cur1.toList.length = cap * d.sz := by rw [← hcs, ← hs1]; exact Array.length_toList
      refine ⟨fun k => if ((ok k ∧ k ≠ g) ∧ f k = i) ∧ k < w.heap.size ∨ w.heap.size ≤ k then i else f k, fun k hk => ?_, cur1.toList.take (xs.length * d.sz), ⟨?_, .inr ⟨g, cap, cur1, ?_, hbase, hh1, ?_, hcm, ?_, ?_⟩⟩, ?_, ?_⟩
      · simp only [Value.ownBlock, Option.some.injEq] at hk
        subst hk
        exact .inl hg
      · rw [List.length_zipIdx, List.length_set, List.length_take, hcl1]
        show min (xs.length * d.sz) (cap * d.sz) = xs.length * d.sz
        omega
      · rw [List.length_zipIdx, List.length_set]
      · rw [List.length_zipIdx, List.length_set]; exact hnc
      · rw [hs1]; exact hcs
      · rw [List.length_zipIdx, List.length_set]; rfl
      · rw [List.length_zipIdx, List.length_set, List.length_take, hcl1]
        show min (xs.length * d.sz) (cap * d.sz) = xs.length * d.sz
        omega
      · intro m p hm
        rw [List.getElem?_zipIdx, Nat.zero_add] at hm
        obtain ⟨q, hq, rfl⟩ := Option.map_eq_some_iff.1 hm
        have hml : m < xs.length := by
          have := (List.getElem?_eq_some_iff.1 hq).1
          rwa [List.length_set] at this
        have hmseg : m * d.sz + d.sz ≤ xs.length * d.sz := by rw [← Nat.succ_mul]; exact Nat.mul_le_mul_right _ hml
        by_cases hmi : m = i
        · subst hmi
          rw [List.getElem?_set_self hml] at hq
          injection hq with hq
          subst hq
          have hc1 : ((cur1.toList.take (xs.length * d.sz)).drop (m * d.sz)).take d.sz = c' := by
            apply List.ext_getElem?
            intro j
            rw [seg_get]
            by_cases hj : j < d.sz
            · rw [if_pos ⟨hj, by omega⟩, hseg1 j hj]
            · rw [if_neg (fun hx => hj hx.1), List.getElem?_eq_none (by omega)]
          show d.M w1 base _ x' (((cur1.toList.take (xs.length * d.sz)).drop (m * d.sz)).take d.sz)
          rw [hc1]
          refine d.M_mono (fun k hk => ?_) hM'
          rcases hokp k hk with hk | hk
          · exact ⟨⟨.inl hk.1.1.1, fun he => hk.1.1.2 (by simpa [Value.ownBlock] using he)⟩, if_pos (.inl hk)⟩
          · exact ⟨⟨.inr hk, fun he => by have : k = g := by simpa [Value.ownBlock] using he
                                          omega⟩, if_pos (.inr hk)⟩
        · rw [List.getElem?_set_ne (Ne.symm hmi)] at hq
          have hold := hr.2 m (q, m) (Kd.zip_at hq)
          have hc1 : ((cur1.toList.take (xs.length * d.sz)).drop (m * d.sz)).take d.sz = (inner.drop (m * d.sz)).take d.sz := by
            rw [← hin]
            apply List.ext_getElem?
            intro j
            rw [seg_get, seg_get]
            by_cases hj : j < d.sz
            · rw [if_pos ⟨hj, by omega⟩, if_pos ⟨hj, by omega⟩]
              refine hout _ ?_
              rcases Nat.lt_or_gt_of_ne hmi with hx | hx
              · left
                have : m * d.sz + d.sz ≤ i * d.sz := by rw [← Nat.succ_mul]; exact Nat.mul_le_mul_right _ hx
                omega
              · right
                have : i * d.sz + d.sz ≤ m * d.sz := by rw [← Nat.succ_mul]; exact Nat.mul_le_mul_right _ hx
                omega
            · rw [if_neg (fun hx => hj hx.1), if_neg (fun hx => hj hx.1)]
          show d.M w1 base _ q (((cur1.toList.take (xs.length * d.sz)).drop (m * d.sz)).take d.sz)
          rw [hc1]
          have hb := d.M_bound hold
          refine d.M_mono (fun k hk => ?_) (d.M_move (w1 := w1) (fun k hk => ?_) hb)
          · obtain ⟨⟨⟨hk1, hk2⟩, hk3⟩, _, hk4, _⟩ := hk
            refine ⟨⟨.inl hk1, hk2⟩, ?_⟩
            refine Eq.trans (if_neg ?_) hk3
            rintro (hx | hx)
            · exact hmi (hk3.symm.trans hx.1.2)
            · omega
          · obtain ⟨⟨⟨hk1, hk2⟩, hk3⟩, _, hk4, _⟩ := hk
            exact hfar k hk4 (hne k hk2) (fun hx => hmi (hk3.symm.trans hx.1.2))
/-! the locks -/
def kRow : Kd Rw := Kd.pair (Kd.int .i64) (Kd.slice 3 (Kd.int .i64))
def kLock : Kd LS := Kd.iso (Kd.pair Kd.bool (Kd.pair (Kd.int .i64) (Kd.pair (Kd.int .i64) (Kd.pair (Kd.int .i64) (sliceS 154 kRow))))) (fun x : LS => (x.held, x.owner, x.socket, x.passes, x.round))
abbrev SRow (w : World) (ok : Nat → Prop) (v : Value) (r : List Rw) : Prop := Kd.S kRow 154 w 0 ok v r
def cLock (x : LS) (v : Value) : List Value := [.bool x.held, .int .i64 x.owner, .int .i64 x.socket, .int .i64 x.passes, v]
theorem kLock_open {w : World} {base : Nat} {ok : Nat → Prop} {x : LS} {cs : List Value} (h : kLock.M w base ok x cs) : ∃ v, cs = cLock x v ∧ Kd.S kRow 154 w base ok v x.round := by
  obtain ⟨_, _, rfl, rfl, ⟨_, _, rfl, rfl, ⟨_, _, rfl, rfl, ⟨_, _, rfl, rfl, ⟨v, rfl, hv⟩⟩⟩⟩⟩ := h
  exact ⟨v, rfl, hv⟩
theorem kLock_mk {w : World} {base : Nat} {ok : Nat → Prop} {x : LS} {v : Value} (h : Kd.S kRow 154 w base ok v x.round) : kLock.M w base ok x (cLock x v) :=
  ⟨[.bool x.held], [.int .i64 x.owner, .int .i64 x.socket, .int .i64 x.passes, v], rfl, rfl, ⟨[.int .i64 x.owner], [.int .i64 x.socket, .int .i64 x.passes, v], rfl, rfl, ⟨[.int .i64 x.socket], [.int .i64 x.passes, v], rfl, rfl, ⟨[.int .i64 x.passes], [v], rfl, rfl, ⟨v, rfl, h⟩⟩⟩⟩⟩
theorem kRow_open {w : World} {base : Nat} {ok : Nat → Prop} {p : Rw} {cs : List Value} (h : kRow.M w base ok p cs) : ∃ v, cs = [.int .i64 p.1, v] ∧ Kd.R (Kd.int .i64) 3 w base ok v p.2 := by
  obtain ⟨_, _, rfl, rfl, ⟨v, rfl, hv⟩⟩ := h
  exact ⟨v, rfl, hv⟩
theorem kRow_mk {w : World} {base : Nat} {ok : Nat → Prop} {p : Rw} {v : Value} (h : Kd.R (Kd.int .i64) 3 w base ok v p.2) : kRow.M w base ok p [.int .i64 p.1, v] :=
  ⟨[.int .i64 p.1], [v], rfl, rfl, ⟨v, rfl, h⟩⟩
/-- the locks at block h, their row at block lb; F: all their blocks. -/
structure LocksAt (w : World) (F : Nat → Prop) (h lb : Nat) (xs : List LS) : Prop where
  fh : F h
  ex : ∃ cap, w.heap[h]? = some (.cells #[.slice (some ⟨lb, 0, none⟩) xs.length cap] 147 (0, 0)) ∧ Kd.S kLock 152 w 0 F (.slice (some ⟨lb, 0, none⟩) xs.length cap) xs
section
variable {w w1 : World} {F G : Nat → Prop} {h lb : Nat} {xs : List LS}
theorem LocksAt.flb (L : LocksAt w F h lb xs) : F lb := by
  obtain ⟨cap, _, f, h0, _⟩ := L.ex
  exact h0 lb rfl
theorem LocksAt.fhl (L : LocksAt w F h lb xs) : h < w.heap.size := by
  obtain ⟨cap, hd, _⟩ := L.ex
  exact (Array.getElem?_eq_some_iff.1 hd).1
theorem LocksAt.kept (L : LocksAt w F h lb xs) (hF : Fr G w w1) (hn : ∀ k, F k → ¬ G k) : LocksAt w1 F h lb xs :=
  have ⟨cap, hd, row⟩ := L.ex
  ⟨L.fh, cap, hF.heap hd (hn h L.fh), Kd.S_step row (fun k hk hlt => hF.block k hlt (hn k hk))⟩
theorem LocksAt.behind (L : LocksAt w F h lb xs) (hb : Below w.heap.size w w1) : LocksAt w1 F h lb xs := L.kept (Fr.of_below (fun _ => False) hb) (fun _ _ q => q)
theorem LocksAt.mono (L : LocksAt w F h lb xs) (hFG : ∀ k, F k → G k) : LocksAt w G h lb xs := have ⟨cap, hd, row⟩ := L.ex; ⟨hFG h L.fh, cap, hd, Kd.S_mono row hFG⟩
/-- one of the locks, as it lies; and what becomes of all when it changes. -/
theorem LocksAt.at (L : LocksAt w F h lb xs) (i : Nat) (hi : i < xs.length) :
    ∃ (oki : Nat → Prop) (v : Value) (cur : Array Value), w.heap[lb]? = some (.cells cur 152 (0, 0)) ∧ i * 5 + 5 ≤ cur.size ∧ (∀ j, j < 5 → cur[i * 5 + j]? = (cLock (xs.getD i ls0) v)[j]?) ∧ SRow w oki v (xs.getD i ls0).round ∧ (∀ k, oki k → F k ∧ k ≠ lb ∧ k ≠ h ∧ k < w.heap.size) ∧
      ∀ (w1 : World) (x' : LS) (v' : Value) (okp : Nat → Prop) (cur1 : Array Value), w1.heap[lb]? = some (.cells cur1 152 (0, 0)) → cur1.size = cur.size → (∀ j, j < i * 5 ∨ i * 5 + 5 ≤ j → cur1[j]? = cur[j]?) → (∀ j, j < 5 → cur1[i * 5 + j]? = (cLock x' v')[j]?) →
        (∀ k, k < w.heap.size → k ≠ lb → ¬ oki k → w1.heap[k]? = w.heap[k]?) → SRow w1 okp v' x'.round → (∀ k, okp k → oki k ∨ w.heap.size ≤ k) →
        LocksAt w1 (fun k => F k ∨ w.heap.size ≤ k) h lb (xs.set i x') := by
  obtain ⟨cap0, hd, row⟩ := L.ex
  have hne : h ≠ lb := by
    rintro rfl
    obtain ⟨g, cap, hv, _, _, cells, hc⟩ := Kd.S_form row (by omega)
    injection hv with hv
    injection hv with hv
    injection hv with hv
    subst hv
    rw [hd] at hc
    injection hc with hc
    injection hc with _ hc
    exact absurd hc (by decide)
  have hT := Kd.S_types row hd (by
    intro q hq
    have : q = 152 ∨ q = 154 ∨ q = 3 := by simpa [kLock, kRow, Kd.iso, Kd.pair, Kd.bool, Kd.int, Kd.scalar, sliceS, Kd.slice] using hq
    rcases this with rfl | rfl | rfl <;> decide)
  obtain ⟨hn, hok, oki, c, cur, hcl, hM, hh, hle, hcur, hoki, hre⟩ := S_rebuild ls0 hT i hi
  obtain ⟨v, rfl, hv⟩ := kLock_open hM
  refine ⟨oki, v, cur, hh, hle, hcur, hv, fun k hk => ⟨(hoki k hk).1.1, (hoki k hk).2.1, (hoki k hk).1.2, (hoki k hk).2.2⟩, ?_⟩
  intro w1 x' v' okp cur1 h1 h2 h3 h4 h5 h6 h7
  have hhlt : h < w.heap.size := L.fhl
  have hS := hre w1 x' (cLock x' v') okp cur1 h1 h2 h3 h4 rfl h5 (kLock_mk h6) h7
  refine ⟨.inl L.fh, cap0, ?_, ?_⟩
  · rw [h5 h hhlt hne (fun hk => (hoki h hk).1.2 rfl), hd, List.length_set]
  · rw [List.length_set]
    exact Kd.S_mono hS (fun k hk => hk.elim (fun q => .inl q.1) .inr)
end
end Go.Proofs.Ytgiimdoabkcoaaa.Co
