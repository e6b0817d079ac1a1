/-
census.States in the printed contracts' form.
-/
import Derived.Test.YtidhcdifmcffcaaPCenx0
import Derived.Test.YtidhcdifmcffcaaPureKit
import Derived.RangeFuncRecord
namespace Go.Proofs.Ytidhcdifmcffcaa.PCen
set_option linter.unusedVariables false
set_option linter.unusedSimpArgs false
open Go.RowKit Go.Proofs.YtidhcdifmcffcaaW.PrintWords Go.Proofs.YtidhcdifmcffcaaW.PrintLast Go.Proofs.YtidhcdifmcffcaaW.PrintMore
def cntS (l : List S74) (k : Int) : Int := (l.countP fun x => decide (x.f3 = k) : Nat)
/-- A whole array's block, its cells whole numbers. -/
def arrB (c : List Int) (t : TypeId) : Obj := .cells ((c.map fun n => Value.int .i64 n).toArray) t (0, 0)
theorem arrB_cell {W : World} {g : Nat} {c : List Int} {t : TypeId} (h : W.heap[g]? = some (arrB c t)) (i : Nat) (hi : i < c.length) : W.cell? ⟨g, i, none⟩ = some (.int .i64 c[i]) := by
  simp [World.cell?, h, arrB, hi]
theorem arrB_frozen {W : World} {g : Nat} {c : List Int} {t : TypeId} (h : W.heap[g]? = some (arrB c t)) (i : Nat) : W.frozen? ⟨g, i, none⟩ = false := by
  simp [World.frozen?, h, arrB]
theorem arrB_set {W : World} {g : Nat} {c : List Int} {t : TypeId} (h : W.heap[g]? = some (arrB c t)) (i : Nat) (v : Int) : (W.setCell ⟨g, i, none⟩ (.int .i64 v)).heap[g]? = some (arrB (c.set i v) t) := by
  have := blk_put h i (.int .i64 v) rfl
  rw [this]
  simp [arrB, List.map_set]
theorem results_cell1 {P : Program} {fn : Func} {p : Tmp} {ty : TypeId} (h : fn.results = #[.cell p ty]) (tmps : Array Value) (w : World) (g : Nat) (t : TypeId) (cs : Array Value) (fr : Nat × Nat) (d : TypeDesc)
    (hp : tmps.getD p undef = .pointer (some ⟨g, 0, none⟩)) (hg : w.heap[g]? = some (.cells cs t fr))
    (hu : P.underlying ty = some d) (hd : (match d with | .struct _ | .array _ _ => true | _ => false) = true) (hi : (P.info? ty).map (·.size) = some cs.size) :
    (results fn tmps).run P w = .ok (.agg cs) w := by
  have hp' : tmps[p]?.getD undef = .pointer (some ⟨g, 0, none⟩) := by simpa using hp
  simp [results, h, hp', asAddr, run_loadVar_row w g t ty cs fr d hg hu hd hi]
theorem wrap_up1 (n : Int) (h0 : 0 ≤ n) (h1 : n ≤ 1000000) : wrap64 (n + 1) = n + 1 := wrap_nat (by omega) (by omega)
def states9 (l : List S74) : List Int := [cntS l 0, cntS l 1, cntS l 2, cntS l 3, cntS l 4, cntS l 5, cntS l 6, cntS l 7, cntS l 8]
theorem cntS_snoc (l : List S74) (x : S74) (k : Int) : cntS (l ++ [x]) k = cntS l k + (if x.f3 = k then 1 else 0) := by
  unfold cntS
  rw [List.countP_append, List.countP_singleton]
  split <;> simp_all
theorem cntS_le (l : List S74) (k : Int) : 0 ≤ cntS l k ∧ cntS l k ≤ l.length := by
  unfold cntS
  have := List.countP_le_length (p := fun x : S74 => decide (x.f3 = k)) (l := l)
  omega
theorem cntS_up (l : List S74) (i : Nat) (k : Int) (hl : l.length ≤ 1000000) : 0 ≤ cntS (l.take i) k ∧ cntS (l.take i) k ≤ 1000000 := by
  have h := cntS_le (l.take i) k
  rw [List.length_take] at h
  omega
theorem idx_up {l : List S74} {i : Nat} (hl : l.length ≤ 1000000) (hi : i < l.length) : (i : Int) ≤ 1000000 := by omega
theorem states9_at (l : List S74) (k : Nat) (hk : k < 9) : (states9 l)[k]'(by simpa [states9] using hk) = cntS l k := by
  match k, hk with
  | 0, _ => rfl
  | 1, _ => rfl
  | 2, _ => rfl
  | 3, _ => rfl
  | 4, _ => rfl
  | 5, _ => rfl
  | 6, _ => rfl
  | 7, _ => rfl
  | 8, _ => rfl
theorem states9_in (l : List S74) (x : S74) (k : Nat) (hk : k < 9) (hx : x.f3 = k) : (states9 l).set k (cntS l k + 1) = states9 (l ++ [x]) := by
  unfold states9
  simp only [cntS_snoc, hx]
  match k, hk with
  | 0, _ => simp
  | 1, _ => simp
  | 2, _ => simp
  | 3, _ => simp
  | 4, _ => simp
  | 5, _ => simp
  | 6, _ => simp
  | 7, _ => simp
  | 8, _ => simp
theorem states9_out (l : List S74) (x : S74) (hx : ¬ (0 ≤ x.f3 ∧ x.f3 < 9)) : states9 (l ++ [x]) = states9 l := by
  unfold states9
  simp only [cntS_snoc]
  have : ∀ k : Int, 0 ≤ k → k < 9 → x.f3 ≠ k := fun k h0 h9 e => hx ⟨by omega, by omega⟩
  simp [this]
def census_States.f (l0_0 : List (S74)) (a0_1 : Int) (a0_2 : Int) (a0_3 : Int) (a0_4 : Int) (a0_5 : Int) (a0_6 : Int) (a0_7 : Int) (a0_8 : Int) (a0_9 : Int) (a0_10 : Int) (a0_11 : Int) (a0_12 : Int) (a0_13 : Int) (a0_14 : Int) (a0_15 : Int) (a0_16 : Int) (l0_17 : List Int) (a0_18 : Int) : Option (Int × Int × Int × Int × Int × Int × Int × Int × Int) :=
  if l0_0.length ≤ 1000000 then some (cntS l0_0 0, cntS l0_0 1, cntS l0_0 2, cntS l0_0 3, cntS l0_0 4, cntS l0_0 5, cntS l0_0 6, cntS l0_0 7, cntS l0_0 8) else none
set_option maxRecDepth 100000 in
set_option maxHeartbeats 2000000 in
theorem census_States.calls (A0_0 : Option Addr) (c0_0 : Nat) (l0_0 : List (S74)) (a0_1 : Int) (a0_2 : Int) (a0_3 : Int) (a0_4 : Int) (a0_5 : Int) (a0_6 : Int) (a0_7 : Int) (a0_8 : Int) (a0_9 : Int) (a0_10 : Int) (a0_11 : Int) (a0_12 : Int) (a0_13 : Int) (a0_14 : Int) (a0_15 : Int) (a0_16 : Int) (A0_17 : Option Addr) (c0_17 : Nat) (l0_17 : List Int) (a0_18 : Int) (r1 : Int) (r2 : Int) (r3 : Int) (r4 : Int) (r5 : Int) (r6 : Int) (r7 : Int) (r8 : Int) (r9 : Int) (w : World) (hr0_0 : Kd.C k74 w A0_0 l0_0.length l0_0) (hc0_0 : l0_0.length ≤ c0_0) (hr0_17 : Kd.C (Kd.int .i64) w A0_17 l0_17.length l0_17) (hc0_17 : l0_17.length ≤ c0_17) (h : census_States.f l0_0 a0_1 a0_2 a0_3 a0_4 a0_5 a0_6 a0_7 a0_8 a0_9 a0_10 a0_11 a0_12 a0_13 a0_14 a0_15 a0_16 l0_17 a0_18 = some (r1, r2, r3, r4, r5, r6, r7, r8, r9)) :
    Calls Try.prog 42 #[.agg #[.slice A0_0 l0_0.length c0_0, .int .u64 a0_1, .int .u64 a0_2, .int .u64 a0_3, .int .u64 a0_4, .int .u64 a0_5, .int .u64 a0_6, .int .u64 a0_7, .int .u64 a0_8, .int .u64 a0_9, .int .u64 a0_10, .int .u64 a0_11, .int .u64 a0_12, .int .u64 a0_13, .int .u64 a0_14, .int .u64 a0_15, .int .u64 a0_16, .slice A0_17 l0_17.length c0_17, .int .i64 a0_18]] w fun e w' => e = .returned (.agg #[.int .i64 r1, .int .i64 r2, .int .i64 r3, .int .i64 r4, .int .i64 r5, .int .i64 r6, .int .i64 r7, .int .i64 r8, .int .i64 r9]) ∧ Below w.heap.size w w' := by
  have hu69 := Try.underlying69
  have hu70 := Try.underlying70
  have hu74 := Try.underlying74
  unfold census_States.f at h
  by_cases hl : l0_0.length ≤ 1000000
  case neg => rw [if_neg hl] at h; cases h
  rw [if_pos hl] at h
  go_enter Try.func42, Try.ntmps42
  go_wp2
  go_loopw [8] (fun v8 wr => ∃ i : Nat, v8 = .int .i64 (i : Int) ∧ i ≤ l0_0.length ∧ wr.heap[w.heap.size + 1]? = some (arrB (states9 (l0_0.take i)) 70) ∧ Below w.heap.size w wr) (fun v8 _ => match v8 with | .int _ n => l0_0.length - n.toNat | _ => 0)
  case atStart => exact ⟨0, rfl, Nat.zero_le _, by
    rw [show l0_0.take 0 = [] from rfl, show states9 [] = [0, 0, 0, 0, 0, 0, 0, 0, 0] from rfl]
    have h9 := World.alloc_heap_new (w.alloc (.cells #[.slice A0_0 l0_0.length c0_0, .int .u64 a0_1, .int .u64 a0_2, .int .u64 a0_3, .int .u64 a0_4, .int .u64 a0_5, .int .u64 a0_6, .int .u64 a0_7, .int .u64 a0_8, .int .u64 a0_9, .int .u64 a0_10, .int .u64 a0_11, .int .u64 a0_12, .int .u64 a0_13, .int .u64 a0_14, .int .u64 a0_15, .int .u64 a0_16, .slice A0_17 l0_17.length c0_17, .int .i64 a0_18] 69)) (arrB [0, 0, 0, 0, 0, 0, 0, 0, 0] 70)
    rw [World.size_alloc] at h9
    exact h9, xa (xa (Below.refl _ w) _) _⟩
  case round =>
    obtain ⟨i, rfl, hi, hA, hB⟩ := hrel
    have hltA : w.heap.size + 1 < wr.heap.size := (Array.getElem?_eq_some_iff.1 hA).1
    by_cases hlt : i < l0_0.length
    · have hd : decide ((i : Int) < (l0_0.length : Int)) = true := by simpa using hlt
      have hz : (0 : Int) ≤ (i : Int) := by omega
      obtain ⟨ad, e, hx0, hx1, hx2, hx3, hx4, hx5, hx6, hx7⟩ := at_T74 (Kd.C_below hr0_0 hB) (i : Int) (by omega) (by omega)
      subst e
      obtain ⟨x, hxx⟩ : ∃ x, rd_T74 l0_0 (i : Int) = x := ⟨_, rfl⟩
      have hxg : l0_0[i] = x := by rw [← hxx]; simp [rd_T74, hlt]
      rw [hxx, Int.toNat_natCast] at hx0 hx1 hx2 hx3 hx4 hx5 hx6 hx7
      have hsz : w.heap.size ≤ wr.heap.size := hB.size
      by_cases hin : 0 ≤ x.f3 ∧ x.f3 < 9
      · obtain ⟨kk, hkk⟩ := Int.eq_ofNat_of_zero_le hin.1
        have hk9 : kk < 9 := Int.ofNat_lt.1 (hkk ▸ hin.2)
        have h2 : decide ((kk : Int) < 9) = true := decide_eq_true (Int.ofNat_lt.2 hk9)
        obtain ⟨b0, b1⟩ := cntS_up l0_0 i kk hl
        have b2 := idx_up hl hlt
        obtain ⟨cc, hcc⟩ : ∃ cc, cntS (l0_0.take i) kk = cc := ⟨_, rfl⟩
        rw [hcc] at b0 b1
        have hcx : ∀ o : Obj, (wr.alloc o).cell? ⟨w.heap.size + 1, kk, none⟩ = some (.int .i64 cc) := by
          intro o
          have h9 := arrB_cell ((Below.heap_alloc wr o (w.heap.size + 1) hltA).trans hA) kk (by simpa [states9] using hk9)
          rw [states9_at _ _ hk9, hcc] at h9
          exact h9
        have hfx : ∀ o : Obj, (wr.alloc o).frozen? ⟨w.heap.size + 1, kk, none⟩ = false := fun o => arrB_frozen ((Below.heap_alloc wr o (w.heap.size + 1) hltA).trans hA) kk
        have hkb := eq_true (And.intro (Int.natCast_nonneg kk) (show (kk:Int) < 9 from Int.ofNat_lt.2 hk9))
        have hw : wrap64 (cc + 1) = cc + 1 := wrap_up1 cc b0 b1
        have hw2 : wrap64 ((i : Int) + 1) = (i : Int) + 1 := wrap_up1 i hz b2
        clear b0 b1 b2 hl
        go_wp2
        go_roundw
        case rel =>
          refine ⟨i + 1, by rw [hw2]; rfl, Nat.succ_le_of_lt hlt, ?_, ?_⟩
          · rw [List.take_succ_eq_append_getElem hlt, hxg, ← states9_in _ _ kk hk9 hkk, hcc]
            exact (Below.heap_alloc _ _ _ (by rw [World.size_setCell]; exact hltA)).trans (arrB_set hA _ _)
          · exact xa (below_set hB (Nat.le_succ _)) _
        case measure => rw [hw2]; exact (show l0_0.length - (i + 1) < l0_0.length - i from Nat.sub_lt_sub_left hlt (Nat.lt_succ_self i))
      · have b2 := idx_up hl hlt
        have hw2 : wrap64 ((i : Int) + 1) = (i : Int) + 1 := wrap_up1 i hz b2
        clear b2 hl
        have hrel2 : ∀ o : Obj, (wr.alloc o).heap[w.heap.size + 1]? = some (arrB (states9 (l0_0.take (i + 1))) 70) := by
          intro o
          rw [List.take_succ_eq_append_getElem hlt, hxg, states9_out _ _ hin]
          exact (Below.heap_alloc _ _ _ hltA).trans hA
        by_cases h0 : 0 ≤ x.f3
        · have h1 : decide (0 ≤ x.f3) = true := by simpa using h0
          have h2 : decide (x.f3 < 9) = false := by simp; omega
          go_wp2
          go_roundw
          case rel => exact ⟨i + 1, by rw [hw2]; rfl, Nat.succ_le_of_lt hlt, hrel2 _, xa hB _⟩
          case measure => rw [hw2]; exact (show l0_0.length - (i + 1) < l0_0.length - i from Nat.sub_lt_sub_left hlt (Nat.lt_succ_self i))
        · have h1 : decide (0 ≤ x.f3) = false := by simpa using h0
          go_wp2
          go_roundw
          case rel => exact ⟨i + 1, by rw [hw2]; rfl, Nat.succ_le_of_lt hlt, hrel2 _, xa hB _⟩
          case measure => rw [hw2]; exact (show l0_0.length - (i + 1) < l0_0.length - i from Nat.sub_lt_sub_left hlt (Nat.lt_succ_self i))
    · have hd : decide ((i : Int) < (l0_0.length : Int)) = false := by simpa using hlt
      rw [List.take_of_length_le (by omega)] at hA
      unfold states9 at hA
      simp only [Option.some.injEq, Prod.mk.injEq] at h
      obtain ⟨rfl, rfl, rfl, rfl, rfl, rfl, rfl, rfl, rfl⟩ := h
      have hb0 := arrB_cell hA 0 (by simp)
      have hb1 := arrB_cell hA 1 (by simp)
      have hb2 := arrB_cell hA 2 (by simp)
      have hb3 := arrB_cell hA 3 (by simp)
      have hb4 := arrB_cell hA 4 (by simp)
      have hb5 := arrB_cell hA 5 (by simp)
      have hb6 := arrB_cell hA 6 (by simp)
      have hb7 := arrB_cell hA 7 (by simp)
      have hb8 := arrB_cell hA 8 (by simp)
      have hf0 := arrB_frozen hA 0
      have hf1 := arrB_frozen hA 1
      have hf2 := arrB_frozen hA 2
      have hf3 := arrB_frozen hA 3
      have hf4 := arrB_frozen hA 4
      have hf5 := arrB_frozen hA 5
      have hf6 := arrB_frozen hA 6
      have hf7 := arrB_frozen hA 7
      have hf8 := arrB_frozen hA 8
      simp only [List.getElem_cons_zero, List.getElem_cons_succ] at hb0 hb1 hb2 hb3 hb4 hb5 hb6 hb7 hb8
      go_wp2
      refine bodyPost_ret (results_cell1 rfl _ _ (w.heap.size + 1) 70 #[.int .i64 (cntS l0_0 0), .int .i64 (cntS l0_0 1), .int .i64 (cntS l0_0 2), .int .i64 (cntS l0_0 3), .int .i64 (cntS l0_0 4), .int .i64 (cntS l0_0 5), .int .i64 (cntS l0_0 6), .int .i64 (cntS l0_0 7), .int .i64 (cntS l0_0 8)] (0, 0) _ rfl ?_ hu70 rfl rfl) rfl ⟨rfl, ?_⟩
      · exact arrB_set (arrB_set (arrB_set (arrB_set (arrB_set (arrB_set (arrB_set (arrB_set (arrB_set hA 0 _) 1 _) 2 _) 3 _) 4 _) 5 _) 6 _) 7 _) 8 _
      · exact below_set (below_set (below_set (below_set (below_set (below_set (below_set (below_set (below_set hB (Nat.le_succ _)) (Nat.le_succ _)) (Nat.le_succ _)) (Nat.le_succ _)) (Nat.le_succ _)) (Nat.le_succ _)) (Nat.le_succ _)) (Nat.le_succ _)) (Nat.le_succ _)
end Go.Proofs.Ytidhcdifmcffcaa.PCen
