/-
slices.Delete of one element, over a lock's rows and over a row's tasks.
-/
import Derived.Test.YtgiimdoabkcoaaaCoRow
import Derived.Deep.RegionLaw
import Derived.Lib.SliceRun
namespace Go.Proofs.Ytgiimdoabkcoaaa.Co
set_option linter.unusedVariables false
set_option linter.unusedSimpArgs false
open Go.RowKit Go.Proofs.YtgiimdoabkcoaaaW.PrintWords Go.Proofs.YtgiimdoabkcoaaaW.PrintLast Go.Proofs.YtgiimdoabkcoaaaW.PrintMore
theorem set_hd {w : World} {b : Nat} {cs : Array Value} {t : TypeId} (h : w.heap[b]? = some (.cells cs t (0, 0))) (i : Nat) (u : Value) : (w.setCell ⟨b, i, none⟩ u).heap[b]? = some (.cells (cs.setIfInBounds i u) t (0, 0)) ∧ Fr (fun k => k = b) w (w.setCell ⟨b, i, none⟩ u) := by
  constructor
  · unfold World.setCell
    simp [Array.getElem?_modify, h]
  · refine ⟨rfl, rfl, rfl, by simp [World.setCell], fun k _ hn => Below.heap_setCell w _ u k hn⟩
theorem set_hds {b : Nat} {t : TypeId} : ∀ (vs : List Value) (o : Nat) {w : World} {cs : Array Value}, w.heap[b]? = some (.cells cs t (0, 0)) →
    ∃ cs', (w.setCells b o vs).heap[b]? = some (.cells cs' t (0, 0)) ∧ cs'.size = cs.size ∧ (∀ j, j < o ∨ o + vs.length ≤ j → cs'[j]? = cs[j]?) ∧ Fr (fun k => k = b) w (w.setCells b o vs)
  | [], o, w, cs, h => ⟨cs, h, rfl, fun _ _ => rfl, Fr.refl _ _⟩
  | u :: r, o, w, cs, h => by
    obtain ⟨h1, f1⟩ := set_hd h o u
    obtain ⟨cs', h2, h3, h4, f2⟩ := set_hds r (o + 1) h1
    refine ⟨cs', h2, by rw [h3, Array.size_setIfInBounds], fun j hj => ?_, f1.trans f2 (fun _ _ q => q)⟩
    rw [h4 j (by simp at hj; omega), Array.getElem?_setIfInBounds_ne (by simp at hj; omega)]
theorem S_tail {α : Type} {d : Kd α} {e base g n cap : Nat} {w w1 : World} {ok : Nat → Prop} {xs : List α} {cur cur1 : Array Value} (h : Kd.S d e w base ok (.slice (some ⟨g, 0, none⟩) n cap) xs) (hh : w.heap[g]? = some (.cells cur e (0, 0))) (hh1 : w1.heap[g]? = some (.cells cur1 e (0, 0)))
    (hs : cur1.size = cur.size) (hsame : ∀ j, j < n * d.sz → cur1[j]? = cur[j]?) (hfar : ∀ k, k < w.heap.size → k ≠ g → w1.heap[k]? = w.heap[k]?) : Kd.S d e w1 base ok (.slice (some ⟨g, 0, none⟩) n cap) xs := by
  have hS := h
  obtain ⟨f, hok0, inner, ⟨hlen, ho⟩, hr⟩ := h
  have hn := (Kd.S_reads' hS).1
  have hszt : (Kd.tag f d).sz = d.sz := rfl
  rw [List.length_zipIdx] at hlen ho
  rw [hszt] at hlen ho hr
  rcases ho with ⟨h1, _⟩ | ⟨g', cap', cur', h1, hbase, hh', hnc, hcm, hcs, hin⟩
  · cases h1
  · injection h1 with h1 h2 h3
    injection h1 with h1
    injection h1 with h1
    subst h1 h3
    rw [hh] at hh'
    injection hh' with hh'
    injection hh' with hh'
    subst hh'
    have hin1 : cur1.toList.take (xs.length * d.sz) = inner := by
      rw [← hin]
      apply List.ext_getElem?
      intro j
      simp only [List.getElem?_take, Array.getElem?_toList]
      by_cases hj : j < xs.length * d.sz
      · rw [if_pos hj, if_pos hj, hsame j (by rw [hn]; exact hj)]
      · rw [if_neg hj, if_neg hj]
    refine ⟨f, hok0, inner, ⟨by rw [List.length_zipIdx]; exact hlen, .inr ⟨g, cap, cur1, by rw [List.length_zipIdx, hn], hbase, hh1, by rw [List.length_zipIdx]; exact hnc, hcm, by rw [hs]; exact hcs, by rw [List.length_zipIdx]; exact hin1⟩⟩, hr.imp_ (fun p c hp => ?_)⟩
    refine (Kd.tag f d).M_mono (fun k hk => hk.1) ((Kd.tag f d).M_move (w1 := w1) (fun k hk => ?_) ((Kd.tag f d).M_bound hp))
    exact hfar k hk.2.2.1 (fun he => hk.1.2 (by rw [he]; rfl))
theorem run_clear_one {P : Program} (w : World) (t e ty : TypeId) (z : Value) (zs : List Value) (ht : P.underlying t = some (.slice e)) (hv : ∀ w, (zeroValue e).run P w = .ok z w) (hz : (Builtin.zeroCells z.cells 1).toList = zs) (h1 : ∀ v ∈ zs, v.oneCell' = true) (b o c : Nat)
    (hc : ∀ j, j < zs.length → (w.cell? ⟨b, o + j, none⟩).isSome = true) (hf : ∀ j, j < zs.length → w.frozen? ⟨b, o + j, none⟩ = false) :
    (Builtin.clear_ #[t] ty #[.slice (some ⟨b, o, none⟩) 1 c]).run P w = .ok (.tuple #[]) (w.setCells b o zs) := by
  have hst := run_storeCells_cells (P := P) b o zs 0 w (by simpa using hc) (by simpa using hf) h1
  simp only [Nat.add_zero] at hst
  simp [Builtin.clear_, run_underlying ht, hv, hz, hst]
theorem S_of_int {e : Nat} {w : World} {base : Nat} {ok : Nat → Prop} {v : Value} {xs : List Int} (h : Kd.R (Kd.int .i64) e w base ok v xs) : Kd.S (Kd.int .i64) e w base ok v xs := by
  obtain ⟨h0, inner, ho, hr⟩ := h
  refine ⟨fun _ => 0, h0, inner, by rw [List.length_zipIdx]; exact ho, by rw [List.length_zipIdx]; exact hr.1, fun j p hj => ?_⟩
  rw [List.getElem?_zipIdx, Nat.zero_add] at hj
  obtain ⟨q, hq, rfl⟩ := Option.map_eq_some_iff.1 hj
  exact hr.2 j q hq
theorem S_blk {α : Type} {d : Kd α} {e base g n cap : Nat} {w : World} {ok : Nat → Prop} {xs : List α} (h : Kd.S d e w base ok (.slice (some ⟨g, 0, none⟩) n cap) xs) : ∃ cur, w.heap[g]? = some (.cells cur e (0, 0)) ∧ cur.size = cap * d.sz ∧ n = xs.length ∧ n ≤ cap := by
  have hn := Kd.S_reads' h
  obtain ⟨f, hok0, inner, ⟨hlen, ho⟩, hr⟩ := h
  rcases ho with ⟨h1, _⟩ | ⟨g', cap', cur', h1, hbase, hh', hnc, hcm, hcs, hin⟩
  · cases h1
  · injection h1 with h1 h2 h3
    injection h1 with h1
    injection h1 with h1
    subst h1 h3
    exact ⟨cur', hh', hcs, hn.1, hn.2.1⟩
theorem last_lt {k n cap s j : Nat} (hk : k < n) (hn : n ≤ cap) (hj : j < s) : (n - 1) * s + j < cap * s := by
  have : (n - 1) * s + s ≤ cap * s := by rw [← Nat.succ_mul]; exact Nat.mul_le_mul_right _ (by omega)
  omega
theorem wrap1 {k : Nat} (h : k ≤ 1000000) : wrap64 ((k : Int) + 1) = ((k + 1 : Nat) : Int) := by rw [wrap_nat (by omega) (by omega)]; push_cast; rfl
theorem del_num {k n cap : Nat} (hk : k < n) (hn : n ≤ cap) : ((k + 1 : Nat) : Int) ≤ (n : Int) ∧ k ≤ cap ∧ k + 1 ≤ cap ∧ n - 1 ≤ n ∧ n - 1 ≤ cap ∧ n ≤ cap ∧ k ≤ k + 1 ∧ k + 1 ≤ n ∧ n - (n - 1) = 1 := by omega
theorem zero_rows : (Builtin.zeroCells (.agg #[.int .i64 0, .slice none 0 0] : Value).cells 1).toList = [.int .i64 0, .slice none 0 0] := by kernel_rfl
set_option maxRecDepth 100000 in
set_option maxHeartbeats 8000000 in
theorem del_rows {w : World} {ok : Nat → Prop} {g n cap : Nat} {xs : List (Rw)} (h : Kd.S (kRow) 154 w 0 ok (.slice (some ⟨g, 0, none⟩) n cap) xs) (k : Nat) (hk : k < n) (hcap : cap ≤ 9223372036854775807) :
    Calls Try.prog 133 #[.slice (some ⟨g, 0, none⟩) n cap, .int .i64 (k : Int), .int .i64 ((k + 1 : Nat) : Int)] w fun e w' => e = .returned (.slice (some ⟨g, 0, none⟩) (n - 1) cap) ∧ Kd.S (kRow) 154 w' 0 ok (.slice (some ⟨g, 0, none⟩) (n - 1) cap) (xs.eraseIdx k) ∧ w.grownBy w' (some g) := by
  obtain ⟨hnl, hnc, _⟩ := Kd.S_reads' h
  obtain ⟨m1, m2, m3, m4, m5, m6, m7, m8, m9⟩ := del_num hk hnc
  have m0 := eq_true (show (0 : Int) ≤ (k : Int) + 1 ∧ (k : Int) + 1 ≤ (n : Int) from by omega)
  have HS := Lib.hid h
  have hb : (((k : Nat) : Int) == ((k + 1 : Nat) : Int)) = false := by simp; omega
  have hinf : (Try.prog.info? 154).map (·.size) = some 2 := by kernel_rfl
  have HNL := Lib.hid hnl
  clear h hnl
  go_enter Try.func133, Try.ntmps133
  go_wp2
  go_region_law (refine Kd.S_delete_step (kRow) (w0 := w) 0 (by simp [Region.wanted]) (.tmp 22) (.tmp 25) 150 154 rfl Try.underlying150 hinf (g := g) (n := n) (c := cap) (k := k) (m := n - (k + 1)) (by simp [Act.eval, Act.put]) (A := if cap = k + 1 then some ⟨g, 0, none⟩ else some ⟨g, (k + 1) * 2, none⟩) (c2 := cap - (k + 1)) (by simp [Act.eval, Act.put]) (by rw [Option.map_some, add_plain] <;> rfl) rfl (show Kd.S (kRow) 154 w.drew 0 ok _ xs from Kd.S_drew HS.out) hk ⟨rfl, rfl, rfl, Nat.le_refl _, fun _ hk => absurd hk (Nat.not_lt_zero _)⟩ (Nat.zero_le _) ?_; intro w1 hS1 hB1 hg1)
  obtain ⟨cur1, hh1, hsz1, hz8, hz9⟩ := S_blk hS1
  clear hz8 hz9
  have hlast : ∀ j, j < 2 → (n - 1) * 2 + j < cur1.size := fun j hj => by rw [hsz1]; exact last_lt hk hnc hj
  have hcl : ∀ ty, (Builtin.clear_ #[150] ty #[.slice (some ⟨g, (n - 1) * 2, none⟩) 1 (cap - (n - 1))]).run Try.prog w1 = .ok (.tuple #[]) (w1.setCells g ((n - 1) * 2) [.int .i64 0, .slice none 0 0]) :=
    fun ty => run_clear_one w1 150 154 ty _ [.int .i64 0, .slice none 0 0] Try.underlying150 Try.zeroValue154 zero_rows (by simp [Value.oneCell']) g ((n - 1) * 2) _ (fun j hj => by rw [cell_of_heap hh1 (Array.getElem?_eq_getElem (hlast j (by simpa using hj)))]; rfl) (fun j _ => fz_of_heap hh1 _)
  obtain ⟨cs2, hh2, hsz2, hsame, F2⟩ := set_hds [.int .i64 0, .slice none 0 0] ((n - 1) * 2) hh1
  obtain ⟨W2, hW2⟩ : ∃ W2, w1.setCells g ((n - 1) * 2) [.int .i64 0, .slice none 0 0] = W2 := ⟨_, rfl⟩
  rw [hW2] at hcl hh2 F2
  have HH1 := Lib.hid hh1
  have HH2 := Lib.hid hh2
  have HZ := Lib.hid hsz2
  clear hW2 hh1 hh2 hsz1 hsz2 hlast
  have hS2 := Lib.hid (S_tail hS1 HH1.out HH2.out HZ.out (fun j hj => hsame j (.inl hj)) (fun k hk hn => F2.block k hk hn))
  have hfin : Aside0 (w.grownBy W2 (some g)) := Aside0.mk ⟨F2.os.trans hg1.os, F2.tape.trans hg1.tape, F2.output.trans hg1.output, Nat.le_trans hg1.size F2.size, fun k hk hn => (F2.block k (Nat.lt_of_lt_of_le hk hg1.size) (fun e => hn (by rw [e]))).trans (hg1.block k hk hn)⟩
  clear hS1 hB1 hg1 F2 hsame
  try simp only [Nat.mul_one] at hcl
  try generalize (if cap = k + 1 then some (⟨g, 0, none⟩ : Addr) else some ⟨g, (k + 1) * 2, none⟩) = av
  try generalize (if cap = k + 1 then some (⟨g, 0, none⟩ : Addr) else some ⟨g, k + 1, none⟩) = av
  go_wp2
  all_goals
    go_ret
    exact ⟨rfl, hS2.out, hfin.out⟩
theorem zero_tasks : (Builtin.zeroCells (.int .i64 0 : Value).cells 1).toList = [.int .i64 0] := by kernel_rfl
set_option maxRecDepth 100000 in
set_option maxHeartbeats 8000000 in
theorem del_tasks {w : World} {ok : Nat → Prop} {g n cap : Nat} {xs : List (Int)} (h : Kd.S (Kd.int .i64) 3 w 0 ok (.slice (some ⟨g, 0, none⟩) n cap) xs) (k : Nat) (hk : k < n) (hcap : cap ≤ 9223372036854775807) :
    Calls Try.prog 132 #[.slice (some ⟨g, 0, none⟩) n cap, .int .i64 (k : Int), .int .i64 ((k + 1 : Nat) : Int)] w fun e w' => e = .returned (.slice (some ⟨g, 0, none⟩) (n - 1) cap) ∧ Kd.S (Kd.int .i64) 3 w' 0 ok (.slice (some ⟨g, 0, none⟩) (n - 1) cap) (xs.eraseIdx k) ∧ w.grownBy w' (some g) := by
  obtain ⟨hnl, hnc, _⟩ := Kd.S_reads' h
  obtain ⟨m1, m2, m3, m4, m5, m6, m7, m8, m9⟩ := del_num hk hnc
  have m0 := eq_true (show (0 : Int) ≤ (k : Int) + 1 ∧ (k : Int) + 1 ≤ (n : Int) from by omega)
  have HS := Lib.hid h
  have hb : (((k : Nat) : Int) == ((k + 1 : Nat) : Int)) = false := by simp; omega
  have hinf : (Try.prog.info? 3).map (·.size) = some 1 := by kernel_rfl
  have HNL := Lib.hid hnl
  clear h hnl
  go_enter Try.func132, Try.ntmps132
  go_wp2
  go_region_law (refine Kd.S_delete_step (Kd.int .i64) (w0 := w) 0 (by simp [Region.wanted]) (.tmp 22) (.tmp 25) 27 3 rfl Try.underlying27 hinf (g := g) (n := n) (c := cap) (k := k) (m := n - (k + 1)) (by simp [Act.eval, Act.put]) (A := if cap = k + 1 then some ⟨g, 0, none⟩ else some ⟨g, (k + 1) * 1, none⟩) (c2 := cap - (k + 1)) (by simp [Act.eval, Act.put]) (by rw [Option.map_some, add_plain] <;> rfl) rfl (show Kd.S (Kd.int .i64) 3 w.drew 0 ok _ xs from Kd.S_drew HS.out) hk ⟨rfl, rfl, rfl, Nat.le_refl _, fun _ hk => absurd hk (Nat.not_lt_zero _)⟩ (Nat.zero_le _) ?_; intro w1 hS1 hB1 hg1)
  obtain ⟨cur1, hh1, hsz1, hz8, hz9⟩ := S_blk hS1
  clear hz8 hz9
  have hlast : ∀ j, j < 1 → (n - 1) * 1 + j < cur1.size := fun j hj => by rw [hsz1]; exact last_lt hk hnc hj
  have hcl : ∀ ty, (Builtin.clear_ #[27] ty #[.slice (some ⟨g, (n - 1) * 1, none⟩) 1 (cap - (n - 1))]).run Try.prog w1 = .ok (.tuple #[]) (w1.setCells g ((n - 1) * 1) [.int .i64 0]) :=
    fun ty => run_clear_one w1 27 3 ty _ [.int .i64 0] Try.underlying27 Try.zeroValue3 zero_tasks (by simp [Value.oneCell']) g ((n - 1) * 1) _ (fun j hj => by rw [cell_of_heap hh1 (Array.getElem?_eq_getElem (hlast j (by simpa using hj)))]; rfl) (fun j _ => fz_of_heap hh1 _)
  obtain ⟨cs2, hh2, hsz2, hsame, F2⟩ := set_hds [.int .i64 0] ((n - 1) * 1) hh1
  obtain ⟨W2, hW2⟩ : ∃ W2, w1.setCells g ((n - 1) * 1) [.int .i64 0] = W2 := ⟨_, rfl⟩
  rw [hW2] at hcl hh2 F2
  have HH1 := Lib.hid hh1
  have HH2 := Lib.hid hh2
  have HZ := Lib.hid hsz2
  clear hW2 hh1 hh2 hsz1 hsz2 hlast
  have hS2 := Lib.hid (S_tail hS1 HH1.out HH2.out HZ.out (fun j hj => hsame j (.inl hj)) (fun k hk hn => F2.block k hk hn))
  have hfin : Aside0 (w.grownBy W2 (some g)) := Aside0.mk ⟨F2.os.trans hg1.os, F2.tape.trans hg1.tape, F2.output.trans hg1.output, Nat.le_trans hg1.size F2.size, fun k hk hn => (F2.block k (Nat.lt_of_lt_of_le hk hg1.size) (fun e => hn (by rw [e]))).trans (hg1.block k hk hn)⟩
  clear hS1 hB1 hg1 F2 hsame
  try simp only [Nat.mul_one] at hcl
  try generalize (if cap = k + 1 then some (⟨g, 0, none⟩ : Addr) else some ⟨g, (k + 1) * 1, none⟩) = av
  try generalize (if cap = k + 1 then some (⟨g, 0, none⟩ : Addr) else some ⟨g, k + 1, none⟩) = av
  go_wp2
  all_goals
    go_ret
    exact ⟨rfl, hS2.out, hfin.out⟩
end Go.Proofs.Ytgiimdoabkcoaaa.Co
