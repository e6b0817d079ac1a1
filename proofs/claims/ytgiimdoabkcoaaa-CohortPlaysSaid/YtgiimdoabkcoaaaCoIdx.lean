/-
slices.IndexFunc and ContainsFunc over a lock's rows; the closures; row and waits.
-/
import Derived.Test.YtgiimdoabkcoaaaCoMem
import Derived.Test.YtgiimdoabkcoaaaBase
import Derived.Deep.LoopGhost
import Derived.Shelf.GgClosure.Gives
import Derived.Test.YtgiimdoabkcoaaaPureKit
import Derived.Test.YtgiimdoabkcoaaaPCoax1
namespace Go.Proofs.Ytgiimdoabkcoaaa.Co
set_option linter.unusedVariables false
set_option linter.unusedSimpArgs false
open Go.RowKit Go.Proofs.YtgiimdoabkcoaaaW.PrintWords Go.Proofs.YtgiimdoabkcoaaaW.PrintLast Go.Proofs.YtgiimdoabkcoaaaW.PrintMore
theorem Below_trans {w w1 w2 : World} (h : Below w.heap.size w w1) (k : Below w1.heap.size w1 w2) : Below w.heap.size w w2 := h.trans (k.mono h.size)
theorem find_hit {r : List Rw} {p : Rw → Bool} {k : Nat} (hk : k < r.length) (h : p (rg r k) = true) (ho : ∀ j, j < k → p (rg r j) = false) : oI (r.findIdx? p) = (k : Int) := by
  have : r.findIdx? p = some k := by
    rw [List.findIdx?_eq_some_iff_getElem]
    refine ⟨hk, by rw [← rg_at hk]; exact h, fun j hj => ?_⟩
    have := ho j hj
    rw [rg_at (by omega)] at this
    simp [this]
  rw [this]; rfl
theorem find_miss {r : List Rw} {p : Rw → Bool} (ho : ∀ j, j < r.length → p (rg r j) = false) : oI (r.findIdx? p) = -1 := by
  have : r.findIdx? p = none := by
    rw [List.findIdx?_eq_none_iff]
    intro x hx
    obtain ⟨j, hj, rfl⟩ := List.getElem_of_mem hx
    rw [← rg_at hj]; exact ho j hj
  rw [this]; rfl
set_option maxHeartbeats 2000000 in
theorem idx_any {w : World} {ok : Nat → Prop} {v : Value} {r : List Rw} (hR : Kd.R kRow 154 w 0 ok v r) (g : Nat) (cb : Array Value) (p : Rw → Bool) (eg : ∀ args w, (callFunc g args).run Try.prog w = .ok (.enter g args) w)
    (hp : ∀ W, Below w.heap.size w W → ∀ (x : Rw), x ∈ r → ∀ (vv : Value) (okx : Nat → Prop), Kd.R (Kd.int .i64) 3 W 0 okx vv x.2 → Calls Try.prog g (#[.agg #[.int .i64 x.1, vv]] ++ cb) W fun e w' => e = .returned (.bool (p x)) ∧ Below W.heap.size W w') (hl : r.length ≤ 1000000) :
    Calls Try.prog 130 #[v, .func (.func g) #[] cb] w fun e w' => e = .returned (.int .i64 (oI (r.findIdx? p))) ∧ Below w.heap.size w w' := by
  by_cases h0 : r.length = 0
  · obtain rfl := List.eq_nil_of_length_eq_zero h0
    obtain ⟨A, c, rfl⟩ := Kd.R_slice hR
    clear hR hp
    go_enter Try.func130, Try.ntmps130
    go_wp2
    go_loopg [5, 8] 0 (fun gg _ s8 wr => s8 = .int .i64 0 ∧ wr = w)
    case atStart => exact ⟨rfl, rfl⟩
    case round =>
      obtain ⟨rfl, rfl⟩ := hrel
      go_wp2
      go_ret
      exact ⟨rfl, Below.refl _ _⟩
  · obtain ⟨q, cap, rfl, _, hql, _⟩ := Kd.R_form hR (by omega)
    obtain ⟨n, hn⟩ : ∃ n, r.length = n := ⟨_, rfl⟩
    have HR := Lib.hid hR
    have HP := Lib.hid hp
    have HN := Lib.hid hn
    have HQ := Lib.hid hql
    clear hR hp hql
    rw [hn]
    rw [hn] at hl h0
    clear hn
    go_enter Try.func130, Try.ntmps130
    go_wp2
    go_loopg [5, 8] n (fun gg _ s8 wr => ∃ kk : Nat, kk ≤ n ∧ n - kk ≤ gg ∧ s8 = .int .i64 kk ∧ Aside (Below w.heap.size w wr) ∧ Aside (∀ j, j < kk → p (rg r j) = false))
    case atStart => exact ⟨0, Nat.zero_le _, by omega, rfl, Below.refl _ w, fun j hj => absurd hj (Nat.not_lt_zero _)⟩
    case round =>
      obtain ⟨kk, hkk, hg, rfl, BW, A⟩ := hrel
      by_cases hlt : kk < n
      · have hltz : (kk : Int) < (n : Int) := by omega
        obtain ⟨c, hcl, hM, hcc, _⟩ := Kd.R_elem (HN.out ▸ HR.out) (0, []) (kk : Int) (by omega) (by omega)
        obtain ⟨vv, rfl, hv⟩ := kRow_open hM
        have hgd : r.getD (kk : Int).toNat (0, []) = rg r kk := rfl
        rw [hgd] at hcc hv
        have l0 := (BW.out.cell (p := ⟨q, kk * 2, none⟩) HQ.out).trans (hcc 0 _ rfl)
        have l1 := (BW.out.cell (p := ⟨q, kk * 2 + 1, none⟩) HQ.out).trans (hcc 1 _ rfl)
        have hcall := HP.out wr BW.out (rg r kk) (by rw [rg_at (by rw [HN.out]; exact hlt)]; exact List.getElem_mem _) vv _ (Kd.R_below hv BW.out)
        clear hcc hM hv hcl
        obtain ⟨y, hy⟩ : ∃ y, rg r kk = y := ⟨_, rfl⟩
        rw [hy] at l0 hcall
        have B := Lib.hid hy
        clear hy
        cases hq : p y with
        | true =>
          rw [hq] at hcall
          go_wp2_with (go_at_fn g; refine hcall.mono ?_; rintro e w' ⟨rfl, hb'⟩)
          go_ret
          refine ⟨?_, Below_trans BW.out hb'⟩
          rw [find_hit (by rw [HN.out]; exact hlt) (by rw [B.out]; exact hq) A.out]; rfl
        | false =>
          rw [hq] at hcall
          go_wp2_with (go_at_fn g; refine hcall.mono ?_; rintro e w' ⟨rfl, hb'⟩)
          go_roundg (n - (kk + 1))
          case measure => omega
          case rel =>
            refine ⟨kk + 1, by omega, by omega, by go_num, Below_trans BW.out hb', (show Aside _ from fun j hj => ?_)⟩
            by_cases e : j = kk
            · subst e
              rw [B.out]; exact hq
            · exact A.out j (by omega)
      · have hltz : ¬ (kk : Int) < (n : Int) := by omega
        have : kk = n := by omega
        subst this
        go_wp2
        go_ret
        refine ⟨?_, BW.out⟩
        rw [find_miss (by rw [HN.out]; exact A.out)]; rfl
theorem any_find {r : List Rw} {p : Rw → Bool} : decide ((0 : Int) ≤ oI (r.findIdx? p)) = r.any p := by
  cases h : r.findIdx? p with
  | none =>
    have := List.findIdx?_eq_none_iff.1 h
    have : r.any p = false := by rw [List.any_eq_false]; intro x hx; simp [this x hx]
    rw [this]; rfl
  | some i =>
    obtain ⟨h1, h2, _⟩ := List.findIdx?_eq_some_iff_getElem.1 h
    have : r.any p = true := List.any_eq_true.2 ⟨r[i], List.getElem_mem h1, h2⟩
    rw [this]
    simp [oI]
set_option maxHeartbeats 2000000 in
theorem has_any {w : World} {ok : Nat → Prop} {v : Value} {r : List Rw} (hR : Kd.R kRow 154 w 0 ok v r) (g : Nat) (cb : Array Value) (p : Rw → Bool) (eg : ∀ args w, (callFunc g args).run Try.prog w = .ok (.enter g args) w)
    (hp : ∀ W, Below w.heap.size w W → ∀ (x : Rw), x ∈ r → ∀ (vv : Value) (okx : Nat → Prop), Kd.R (Kd.int .i64) 3 W 0 okx vv x.2 → Calls Try.prog g (#[.agg #[.int .i64 x.1, vv]] ++ cb) W fun e w' => e = .returned (.bool (p x)) ∧ Below W.heap.size W w') (hl : r.length ≤ 1000000) :
    Calls Try.prog 127 #[v, .func (.func g) #[] cb] w fun e w' => e = .returned (.bool (r.any p)) ∧ Below w.heap.size w w' := by
  have h := idx_any hR g cb p eg hp hl
  have hd := Lib.hid (@any_find r p)
  generalize oI (r.findIdx? p) = z at h hd
  clear hR hp
  go_enter Try.func127, Try.ntmps127
  go_wp2_with (go_at_call 130; refine h.mono ?_; rintro e w' ⟨rfl, hb'⟩)
  go_ret
  exact ⟨by rw [← hd.out]; rfl, hb'⟩
/-! the closures -/
theorem row1_any (s : Int) (B : Nat) (W : World) (hc : W.cell? ⟨B, 0, none⟩ = some (.int .i64 s)) (x : Rw) (vv : Value) :
    Calls Try.prog 131 #[.agg #[.int .i64 x.1, vv], .pointer (some ⟨B, 0, none⟩)] W fun e w' => e = .returned (.bool (decide (x.1 = s))) ∧ Below W.heap.size W w' := by
  have hB : B < W.heap.size := World.block_lt_of_cell? W _ hc
  have hne : B ≠ W.heap.size := by omega
  go_enter Try.func131, Try.ntmps131
  go_wp2
  go_ret
  exact ⟨rfl, (Below.refl _ _).alloc (Nat.le_refl _) _⟩
theorem away1_any (s : Int) (B : Nat) (W : World) (hc : W.cell? ⟨B, 0, none⟩ = some (.int .i64 s)) (x : Rw) (vv : Value) :
    Calls Try.prog 134 #[.agg #[.int .i64 x.1, vv], .pointer (some ⟨B, 0, none⟩)] W fun e w' => e = .returned (.bool (decide (x.1 ≠ s))) ∧ Below W.heap.size W w' := by
  have hB : B < W.heap.size := World.block_lt_of_cell? W _ hc
  have hne : B ≠ W.heap.size := by omega
  go_enter Try.func134, Try.ntmps134
  go_wp2
  go_ret
  refine ⟨?_, (Below.refl _ _).alloc (Nat.le_refl _) _⟩
  by_cases h : x.1 = s <;> simp [h]
theorem index_l0 (l : List Int) (x : Int) (hl : l.length ≤ 1000000) : ∀ d i, i + d = l.length → ∀ k, d < k → ∃ r, PCoa.slices_Index_int_int.l0 k l x (l.length : Int) (i : Int) = some r ∧ ((0 ≤ r) ↔ x ∈ l.drop i) := by
  intro d
  induction d with
  | zero =>
    intro i hi k hk
    obtain ⟨k, rfl⟩ : ∃ m, k = m + 1 := ⟨k - 1, by omega⟩
    refine ⟨-1, ?_, ?_⟩
    · simp only [PCoa.slices_Index_int_int.l0]; rw [if_neg (by omega)]
    · rw [List.drop_eq_nil_of_le (by omega)]; simp
  | succ d ih =>
    intro i hi k hk
    obtain ⟨k, rfl⟩ : ∃ m, k = m + 1 := ⟨k - 1, by omega⟩
    have hil : i < l.length := by omega
    simp only [PCoa.slices_Index_int_int.l0]
    rw [if_pos (by omega), if_pos (by omega), if_pos (by omega), rd_at hil]
    by_cases hx : x = l[i]
    · rw [if_pos hx]
      exact ⟨_, rfl, by rw [List.drop_eq_getElem_cons hil]; simp [← hx]⟩
    · rw [if_neg hx, wrap_up (by omega)]
      obtain ⟨r, h1, h2⟩ := ih (i + 1) (by omega) k (by omega)
      exact ⟨r, h1, by rw [List.drop_eq_getElem_cons hil, h2, List.mem_cons]; simp [hx]⟩
theorem contains_any {w : World} {ok : Nat → Prop} {v : Value} {l : List Int} (hR : Kd.R (Kd.int .i64) 3 w 0 ok v l) (x : Int) (hl : l.length ≤ 1000000) :
    Calls Try.prog 129 #[v, .int .i64 x] w fun e w' => e = .returned (.bool (l.contains x)) ∧ Below w.heap.size w w' := by
  obtain ⟨A, c, rfl, hc, hC⟩ := Kd.R_reads hR
  obtain ⟨r, h1, h2⟩ := index_l0 l x hl l.length 0 (by omega) (l.length + 1) (by omega)
  refine (PCoa.slices_Contains_int_int.calls (l.length + 1) A c l x (l.contains x) w hC hc ?_).mono ?_
  · unfold PCoa.slices_Contains_int_int.f PCoa.slices_Index_int_int.f
    rw [show ((0 : Int)) = ((0 : Nat) : Int) from rfl, h1]
    simp only [Option.bind_some]
    congr 1
    rw [Bool.eq_iff_iff]
    simp only [decide_eq_true_eq, List.contains_iff_mem]
    rw [List.drop_zero] at h2
    exact h2
  · rintro e w' ⟨rfl, hd⟩
    exact ⟨rfl, hd.below⟩
theorem waits1_any (t : Int) (B : Nat) (W : World) (hc : W.cell? ⟨B, 0, none⟩ = some (.int .i64 t)) (x : Rw) (vv : Value) (okx : Nat → Prop) (hR : Kd.R (Kd.int .i64) 3 W 0 okx vv x.2) (hl : x.2.length ≤ 1000000) :
    Calls Try.prog 128 #[.agg #[.int .i64 x.1, vv], .pointer (some ⟨B, 0, none⟩)] W fun e w' => e = .returned (.bool (x.2.contains t)) ∧ Below W.heap.size W w' := by
  have hB : B < W.heap.size := World.block_lt_of_cell? W _ hc
  have hne : B ≠ W.heap.size := by omega
  have hcon := Lib.hid (contains_any (Kd.R_below hR ((Below.refl W.heap.size W).alloc (Nat.le_refl _) (.cells #[.int .i64 x.1, vv] 154))) t hl)
  clear hR
  generalize x.2.contains t = z at hcon ⊢
  go_enter Try.func128, Try.ntmps128
  go_wp2_with (first | (go_at_call 129; refine (hcon.out).mono ?_; rintro e w1 ⟨rfl, hb⟩) | fail)
  go_ret
  exact ⟨rfl, Below_trans ((Below.refl _ _).alloc (Nat.le_refl _) _) hb⟩
end Go.Proofs.Ytgiimdoabkcoaaa.Co
