/-
A row of rows taken apart (the cells; what each element leads to) and put together again.
-/
import Derived.Test.YtgiimdoabkcoaaaCoFirst
import Derived.Test.YtgiimdoabkcoaaaWN
namespace Go.Proofs.Ytgiimdoabkcoaaa.Co
set_option linter.unusedVariables false
set_option linter.unusedSimpArgs false
open Go.RowKit Go.Proofs.YtgiimdoabkcoaaaW.PrintWords Go.Proofs.YtgiimdoabkcoaaaW.PrintLast Go.Proofs.YtgiimdoabkcoaaaW.PrintMore
theorem S_raw {e sz : Nat} {w : World} {base : Nat} {ok : Nat → Prop} {v : Value} {xs : List (List Value)} (h : Kd.R (Kd.raw sz) e w base ok v xs) : Kd.S (Kd.raw sz) e w base ok v xs := by
  obtain ⟨h0, inner, ho, hr⟩ := h
  refine ⟨fun _ => 0, h0, inner, by rw [List.length_zipIdx]; exact ho, by rw [List.length_zipIdx]; exact hr.1, fun j p hj => ?_⟩
  rw [List.getElem?_zipIdx, Nat.zero_add] at hj
  obtain ⟨q, hq, rfl⟩ := Option.map_eq_some_iff.1 hj
  exact hr.2 j q hq
theorem unpack {α : Type} {d : Kd α} {e : Nat} {w : World} {ok : Nat → Prop} {v : Value} {xs : List α} (h : Kd.S d e w 0 ok v xs) :
    ∃ (f : Nat → Nat) (rows : List (List Value)), rows.length = xs.length ∧ Kd.R (Kd.raw d.sz) e w 0 (fun k => v.ownBlock = some k) v rows ∧ (∀ k, v.ownBlock = some k → ok k) ∧
      ∀ j p c, xs[j]? = some p → rows[j]? = some c → d.M w 0 (fun b => (ok b ∧ some b ≠ v.ownBlock ∧ b < w.heap.size) ∧ f b = j) p c := by
  obtain ⟨f, h0, inner, ho, hr⟩ := h
  rw [List.length_zipIdx] at ho
  have hlen : inner.length = xs.length * d.sz := ho.1
  have hseg : ∀ j, j < xs.length → j * d.sz + d.sz ≤ inner.length := fun j hj => by rw [hlen, ← Nat.succ_mul]; exact Nat.mul_le_mul_right _ hj
  refine ⟨f, (List.range xs.length).map (fun j => (inner.drop (j * d.sz)).take d.sz), by simp, ⟨fun k hk => hk, inner, by rw [List.length_map, List.length_range]; exact ho, ?_, ?_⟩, h0, ?_⟩
  · rw [List.length_map, List.length_range]; exact hlen
  · intro j p hj
    obtain ⟨hjl, hp⟩ := List.getElem?_eq_some_iff.1 hj
    rw [List.length_map, List.length_range] at hjl
    rw [List.getElem_map, List.getElem_range] at hp
    have hM := hr.2 j _ (Kd.zip_at (List.getElem?_eq_getElem hjl))
    refine ⟨hp.symm ▸ rfl, ?_, ?_⟩
    · show ((inner.drop (j * d.sz)).take d.sz).length = d.sz
      rw [List.length_take, List.length_drop]
      show min d.sz (inner.length - j * d.sz) = d.sz
      have := hseg j hjl
      omega
    · exact d.K_one (d.K_of_M hM)
  · intro j p c hj hc
    obtain ⟨hjl, hp⟩ := List.getElem?_eq_some_iff.1 hc
    rw [List.length_map, List.length_range] at hjl
    rw [List.getElem_map, List.getElem_range] at hp
    have hM := hr.2 j _ (Kd.zip_at hj)
    rw [← hp]
    exact d.M_mono (fun k hk => ⟨⟨hk.1.1.1, hk.1.1.2, hk.2.2.1⟩, hk.1.2⟩) (d.M_bound hM)
theorem pack {α : Type} {d : Kd α} {e : Nat} {w : World} {ok ok0 : Nat → Prop} {v : Value} {xs : List α} {rows : List (List Value)} (f : Nat → Nat) (hl : rows.length = xs.length) (hR : Kd.R (Kd.raw d.sz) e w 0 ok0 v rows) (hok : ∀ k, v.ownBlock = some k → ok k)
    (hM : ∀ j p c, xs[j]? = some p → rows[j]? = some c → d.M w 0 (fun b => (ok b ∧ some b ≠ v.ownBlock) ∧ f b = j) p c) : Kd.S d e w 0 ok v xs := by
  obtain ⟨h0, inner, ho, hr⟩ := hR
  rw [hl] at ho
  refine ⟨f, hok, inner, by rw [List.length_zipIdx]; exact ho, by rw [List.length_zipIdx]; exact ho.1, fun j p hj => ?_⟩
  rw [List.getElem?_zipIdx, Nat.zero_add] at hj
  obtain ⟨q, hq, rfl⟩ := Option.map_eq_some_iff.1 hj
  have hjl : j < rows.length := by rw [hl]; exact (List.getElem?_eq_some_iff.1 hq).1
  have hrow := (hr.2 j _ (List.getElem?_eq_getElem hjl)).1
  have hm := hM j q _ hq (List.getElem?_eq_getElem hjl)
  show d.M w 0 _ q ((inner.drop (j * d.sz)).take d.sz)
  rw [show (inner.drop (j * d.sz)).take d.sz = rows[j] from hrow]
  exact hm
theorem zero_raw : (Builtin.zeroCells (.agg #[.int .i64 0, .slice none 0 0] : Value).cells 1).toList = [.int .i64 0, .slice none 0 0] := by kernel_rfl
set_option maxRecDepth 100000 in
set_option maxHeartbeats 8000000 in
theorem del_raw {w : World} {ok : Nat → Prop} {g n cap : Nat} {xs : List (List Value)} (h : Kd.S (Kd.raw 2) 154 w 0 ok (.slice (some ⟨g, 0, none⟩) n cap) xs) (k : Nat) (hk : k < n) (hcap : cap ≤ 9223372036854775807) :
    Calls Try.prog 133 #[.slice (some ⟨g, 0, none⟩) n cap, .int .i64 (k : Int), .int .i64 ((k + 1 : Nat) : Int)] w fun e w' => e = .returned (.slice (some ⟨g, 0, none⟩) (n - 1) cap) ∧ Kd.S (Kd.raw 2) 154 w' 0 ok (.slice (some ⟨g, 0, none⟩) (n - 1) cap) (xs.eraseIdx k) ∧ w.grownBy w' (some g) := by
  obtain ⟨hnl, hnc, _⟩ := Kd.S_reads' h
  obtain ⟨m1, m2, m3, m4, m5, m6, m7, m8, m9⟩ := del_num hk hnc
  have m0 := eq_true (show (0 : Int) ≤ (k : Int) + 1 ∧ (k : Int) + 1 ≤ (n : Int) from by omega)
  have HS := Lib.hid h
  have hb : (((k : Nat) : Int) == ((k + 1 : Nat) : Int)) = false := by simp; omega
  have hinf : (Try.prog.info? 154).map (·.size) = some 2 := by kernel_rfl
  have HNL := Lib.hid hnl
  clear h hnl
  go_enter Try.func133, Try.ntmps133
  go_wp2
  go_region_law (refine Kd.S_delete_step (Kd.raw 2) (w0 := w) 0 (by simp [Region.wanted]) (.tmp 22) (.tmp 25) 150 154 rfl Try.underlying150 hinf (g := g) (n := n) (c := cap) (k := k) (m := n - (k + 1)) (by simp [Act.eval, Act.put]) (A := if cap = k + 1 then some ⟨g, 0, none⟩ else some ⟨g, (k + 1) * 2, none⟩) (c2 := cap - (k + 1)) (by simp [Act.eval, Act.put]) (by rw [Option.map_some, add_plain] <;> rfl) rfl (show Kd.S (Kd.raw 2) 154 w.drew 0 ok _ xs from Kd.S_drew HS.out) hk ⟨rfl, rfl, rfl, Nat.le_refl _, fun _ hk => absurd hk (Nat.not_lt_zero _)⟩ (Nat.zero_le _) ?_; intro w1 hS1 hB1 hg1)
  obtain ⟨cur1, hh1, hsz1, hz8, hz9⟩ := S_blk hS1
  clear hz8 hz9
  have hlast : ∀ j, j < 2 → (n - 1) * 2 + j < cur1.size := fun j hj => by rw [hsz1]; exact last_lt hk hnc hj
  have hcl : ∀ ty, (Builtin.clear_ #[150] ty #[.slice (some ⟨g, (n - 1) * 2, none⟩) 1 (cap - (n - 1))]).run Try.prog w1 = .ok (.tuple #[]) (w1.setCells g ((n - 1) * 2) [.int .i64 0, .slice none 0 0]) :=
    fun ty => run_clear_one w1 150 154 ty _ [.int .i64 0, .slice none 0 0] Try.underlying150 Try.zeroValue154 zero_raw (by simp [Value.oneCell']) g ((n - 1) * 2) _ (fun j hj => by rw [cell_of_heap hh1 (Array.getElem?_eq_getElem (hlast j (by simpa using hj)))]; rfl) (fun j _ => fz_of_heap hh1 _)
  obtain ⟨cs2, hh2, hsz2, hsame, F2⟩ := set_hds [.int .i64 0, .slice none 0 0] ((n - 1) * 2) hh1
  obtain ⟨W2, hW2⟩ : ∃ W2, w1.setCells g ((n - 1) * 2) [.int .i64 0, .slice none 0 0] = W2 := ⟨_, rfl⟩
  rw [hW2] at hcl hh2 F2
  have HH1 := Lib.hid hh1
  have HH2 := Lib.hid hh2
  have HZ := Lib.hid hsz2
  clear hW2 hh1 hh2 hsz1 hsz2 hlast
  have hS2 := Lib.hid (S_tail hS1 HH1.out HH2.out HZ.out (fun j hj => hsame j (.inl hj)) (fun k hk hn => F2.block k hk hn))
  have hfin : Aside0 (w.grownBy W2 (some g)) := Aside0.mk ⟨F2.os.trans hg1.os, F2.tape.trans hg1.tape, F2.output.trans hg1.output, Nat.le_trans hg1.size F2.size, fun k hk hn => (F2.block k (Nat.lt_of_lt_of_le hk hg1.size) (fun e => hn (by rw [e]))).trans (hg1.block k hk hn)⟩
  clear hS1 hB1 hg1 F2 hsame
  try simp only [Nat.mul_one] at hcl
  try generalize (if cap = k + 1 then some (⟨g, 0, none⟩ : Addr) else some ⟨g, (k + 1) * 2, none⟩) = av
  try generalize (if cap = k + 1 then some (⟨g, 0, none⟩ : Addr) else some ⟨g, k + 1, none⟩) = av
  go_wp2
  all_goals
    go_ret
    exact ⟨rfl, hS2.out, hfin.out⟩
theorem del_raw1 {w : World} {ok : Nat → Prop} {g n cap : Nat} {xs : List (List Value)} (h : Kd.R (Kd.raw 2) 154 w 0 ok (.slice (some ⟨g, 0, none⟩) n cap) xs) (k : Nat) (hk : k < n) (hcap : cap ≤ 9223372036854775807) :
    Calls Try.prog 133 #[.slice (some ⟨g, 0, none⟩) n cap, .int .i64 (k : Int), .int .i64 ((k : Int) + 1)] w fun e w' => e = .returned (.slice (some ⟨g, 0, none⟩) (n - 1) cap) ∧ Kd.R (Kd.raw 2) 154 w' 0 ok (.slice (some ⟨g, 0, none⟩) (n - 1) cap) (xs.eraseIdx k) ∧ w.grownBy w' (some g) :=
  (del_raw (S_raw h) k hk hcap).mono fun e w' ⟨h1, h2, h3⟩ => ⟨h1, Kd.S_R h2, h3⟩
/-- an element put behind all others: whose it is is told anew. -/
theorem move_last {w w1 : World} {ok : Nat → Prop} {v v1 : Value} {r : List Rw} {rows : List (List Value)} {f : Nat → Nat} {k : Nat} (hk : k < r.length) (hl : rows.length = r.length)
    (hM : ∀ j p c, r[j]? = some p → rows[j]? = some c → kRow.M w 0 (fun b => (ok b ∧ some b ≠ v.ownBlock ∧ b < w.heap.size) ∧ f b = j) p c)
    (hkeep : ∀ b, b < w.heap.size → some b ≠ v.ownBlock → w1.heap[b]? = w.heap[b]?) (hv1 : v1.ownBlock = v.ownBlock ∨ ∃ b, v1.ownBlock = some b ∧ w.heap.size ≤ b) (hok : ∀ b, v1.ownBlock = some b → ok b)
    {ok0 : Nat → Prop} (hR : Kd.R (Kd.raw 2) 154 w1 0 ok0 v1 (rows.eraseIdx k ++ [rows.getD k []])) : SRow w1 ok v1 (r.eraseIdx k ++ [rg r k]) := by
  have hne : ∀ b, b < w.heap.size → some b ≠ v.ownBlock → some b ≠ v1.ownBlock := by
    intro b hb hn
    rcases hv1 with q | ⟨b', q, hb'⟩
    · rw [q]; exact hn
    · rw [q]; intro e; injection e with e; omega
  refine pack (rows := rows.eraseIdx k ++ [rows.getD k []]) (fun b => if f b < k then f b else if f b = k then r.length - 1 else f b - 1) (by simp [List.length_eraseIdx, hl]) hR hok (fun j p c hj hc => ?_)
  have hel : (r.eraseIdx k).length = r.length - 1 := by rw [List.length_eraseIdx, if_pos hk]
  have hel2 : (rows.eraseIdx k).length = r.length - 1 := by rw [List.length_eraseIdx, if_pos (by omega), hl]
  have go : ∀ j', r[j']? = some p → rows[j']? = some c → (∀ b, f b = j' → (if f b < k then f b else if f b = k then r.length - 1 else f b - 1) = j) → kRow.M w1 0 (fun b => (ok b ∧ some b ≠ v1.ownBlock) ∧ (if f b < k then f b else if f b = k then r.length - 1 else f b - 1) = j) p c := by
    intro j' h1 h2 h3
    have hm := hM j' p c h1 h2
    refine kRow.M_mono (fun b hb => ?_) (kRow.M_move (w1 := w1) (fun b hb => hkeep b hb.1.2.2 hb.1.2.1) hm)
    exact ⟨⟨hb.1.1, hne b hb.1.2.2 hb.1.2.1⟩, h3 b hb.2⟩
  rcases Nat.lt_or_ge j (r.length - 1) with hlt | hge
  · rw [List.getElem?_append_left (by omega), List.getElem?_eraseIdx] at hj hc
    by_cases hjk : j < k
    · rw [if_pos hjk] at hj hc
      exact go j hj hc (fun b hb => by rw [if_pos (by omega), hb])
    · rw [if_neg hjk] at hj hc
      exact go (j + 1) hj hc (fun b hb => by rw [if_neg (by omega), if_neg (by omega)]; omega)
  · rw [List.getElem?_append_right (by omega), hel] at hj
    rw [List.getElem?_append_right (by omega), hel2] at hc
    obtain rfl : j = r.length - 1 := by
      have := (List.getElem?_eq_some_iff.1 hj).1
      simp at this
      omega
    rw [Nat.sub_self] at hj hc
    simp only [List.getElem?_cons_zero, Option.some.injEq] at hj hc
    refine go k ?_ ?_ (fun b hb => by rw [if_neg (by omega), if_pos hb])
    · rw [← hj, rg_at hk]; exact List.getElem?_eq_getElem hk
    · rw [← hc, List.getD_eq_getElem?_getD, List.getElem?_eq_getElem (by omega)]; rfl
end Go.Proofs.Ytgiimdoabkcoaaa.Co
