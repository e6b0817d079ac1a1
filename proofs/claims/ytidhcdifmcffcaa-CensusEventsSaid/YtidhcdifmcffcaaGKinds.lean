/-
census.Kinds in the printed contracts' form: how many events of a row are of each kind, from 1 to 21.
-/
import Derived.Test.YtidhcdifmcffcaaPCenx0
import Derived.Test.YtidhcdifmcffcaaPureKit
import Derived.RangeFuncRecord
import Derived.Laws.CopyOwn
namespace Go.Proofs.Ytidhcdifmcffcaa.PCen
set_option linter.unusedVariables false
set_option linter.unusedSimpArgs false
open Go.RowKit Go.Proofs.YtidhcdifmcffcaaW.PrintWords Go.Proofs.YtidhcdifmcffcaaW.PrintLast Go.Proofs.YtidhcdifmcffcaaW.PrintMore
def cntK (l : List S84) (k : Int) : Int := (l.countP fun x => decide (x.f0 = k) : Nat)
/-- the count at a place of the table: none at 0. -/
def kn (l : List S84) (k : Nat) : Int := if k = 0 then 0 else cntK l k
def kinds22 (l : List S84) : List Int := (List.range 22).map (kn l)
/-- A whole array's block, its cells whole numbers. -/
def arrK (c : List Int) (t : TypeId) : Obj := .cells ((c.map fun n => Value.int .i64 n).toArray) t (0, 0)
theorem arrK_cell {W : World} {g : Nat} {c : List Int} {t : TypeId} (h : W.heap[g]? = some (arrK c t)) (i : Nat) (hi : i < c.length) : W.cell? ⟨g, i, none⟩ = some (.int .i64 c[i]) := by
  simp [World.cell?, h, arrK, hi]
theorem arrK_frozen {W : World} {g : Nat} {c : List Int} {t : TypeId} (h : W.heap[g]? = some (arrK c t)) (i : Nat) : W.frozen? ⟨g, i, none⟩ = false := by
  simp [World.frozen?, h, arrK]
theorem arrK_set {W : World} {g : Nat} {c : List Int} {t : TypeId} (h : W.heap[g]? = some (arrK c t)) (i : Nat) (v : Int) : (W.setCell ⟨g, i, none⟩ (.int .i64 v)).heap[g]? = some (arrK (c.set i v) t) := by
  have := blk_put h i (.int .i64 v) rfl
  rw [this]
  simp [arrK, List.map_set]
theorem results_cellK {P : Program} {fn : Func} {p : Tmp} {ty : TypeId} (h : fn.results = #[.cell p ty]) (tmps : Array Value) (w : World) (g : Nat) (t : TypeId) (cs : Array Value) (fr : Nat × Nat) (d : TypeDesc)
    (hp : tmps.getD p undef = .pointer (some ⟨g, 0, none⟩)) (hg : w.heap[g]? = some (.cells cs t fr))
    (hu : P.underlying ty = some d) (hd : (match d with | .struct _ | .array _ _ => true | _ => false) = true) (hi : (P.info? ty).map (·.size) = some cs.size) :
    (results fn tmps).run P w = .ok (.agg cs) w := by
  have hp' : tmps[p]?.getD undef = .pointer (some ⟨g, 0, none⟩) := by simpa using hp
  simp [results, h, hp', asAddr, run_loadVar_row w g t ty cs fr d hg hu hd hi]
theorem wrapK (n : Int) (h0 : 0 ≤ n) (h1 : n ≤ 1000000) : wrap64 (n + 1) = n + 1 := wrap_nat (by omega) (by omega)
theorem cntK_snoc (l : List S84) (x : S84) (k : Int) : cntK (l ++ [x]) k = cntK l k + (if x.f0 = k then 1 else 0) := by
  unfold cntK
  rw [List.countP_append, List.countP_singleton]
  split <;> simp_all
theorem cntK_le (l : List S84) (k : Int) : 0 ≤ cntK l k ∧ cntK l k ≤ l.length := by
  unfold cntK
  have := List.countP_le_length (p := fun x : S84 => decide (x.f0 = k)) (l := l)
  omega
theorem cntK_up (l : List S84) (i : Nat) (k : Int) (hl : l.length ≤ 1000000) : 0 ≤ cntK (l.take i) k ∧ cntK (l.take i) k ≤ 1000000 := by
  have h := cntK_le (l.take i) k
  rw [List.length_take] at h
  omega
theorem idxK {l : List S84} {i : Nat} (hl : l.length ≤ 1000000) (hi : i < l.length) : (i : Int) ≤ 1000000 := by omega
theorem kinds22_len (l : List S84) : (kinds22 l).length = 22 := by simp [kinds22]
theorem kinds22_at (l : List S84) (k : Nat) (h1 : 1 ≤ k) (hk : k < 22) : (kinds22 l)[k]'(by rw [kinds22_len]; exact hk) = cntK l k := by
  simp only [kinds22, List.getElem_map, List.getElem_range, kn]
  rw [if_neg (by omega)]
theorem kinds22_in (l : List S84) (x : S84) (k : Nat) (h1 : 1 ≤ k) (hk : k < 22) (hx : x.f0 = k) : (kinds22 l).set k (cntK l k + 1) = kinds22 (l ++ [x]) := by
  apply List.ext_getElem (by simp [kinds22])
  intro j h2 h3
  rw [List.getElem_set]
  simp only [kinds22, List.getElem_map, List.getElem_range, kn, cntK_snoc, hx]
  by_cases e : k = j
  · subst e
    rw [if_pos rfl, if_neg (by omega), if_pos rfl]
  · rw [if_neg e]
    by_cases e0 : j = 0
    · rw [if_pos e0, if_pos e0]
    · rw [if_neg e0, if_neg e0, if_neg (by omega), Int.add_zero]
theorem kinds22_out (l : List S84) (x : S84) (hx : ¬ (1 ≤ x.f0 ∧ x.f0 < 22)) : kinds22 (l ++ [x]) = kinds22 l := by
  apply List.ext_getElem (by simp [kinds22])
  intro j h2 h3
  have hj : j < 22 := by rw [kinds22_len] at h3; exact h3
  simp only [kinds22, List.getElem_map, List.getElem_range, kn, cntK_snoc]
  by_cases e0 : j = 0
  · rw [if_pos e0, if_pos e0]
  · rw [if_neg e0, if_neg e0, if_neg (by omega), Int.add_zero]
def census_Kinds.f (l0 : List (S84)) : Option (Int × Int × Int × Int × Int × Int × Int × Int × Int × Int × Int × Int × Int × Int × Int × Int × Int × Int × Int × Int × Int × Int) :=
  if l0.length ≤ 1000000 then some (kn l0 0, kn l0 1, kn l0 2, kn l0 3, kn l0 4, kn l0 5, kn l0 6, kn l0 7, kn l0 8, kn l0 9, kn l0 10, kn l0 11, kn l0 12, kn l0 13, kn l0 14, kn l0 15, kn l0 16, kn l0 17, kn l0 18, kn l0 19, kn l0 20, kn l0 21) else none
set_option maxRecDepth 100000 in
set_option maxHeartbeats 2000000 in
theorem census_Kinds.calls (A0 : Option Addr) (c0 : Nat) (l0 : List (S84)) (r1 : Int) (r2 : Int) (r3 : Int) (r4 : Int) (r5 : Int) (r6 : Int) (r7 : Int) (r8 : Int) (r9 : Int) (r10 : Int) (r11 : Int) (r12 : Int) (r13 : Int) (r14 : Int) (r15 : Int) (r16 : Int) (r17 : Int) (r18 : Int) (r19 : Int) (r20 : Int) (r21 : Int) (r22 : Int) (w : World) (hr0 : Kd.C k84 w A0 l0.length l0) (hc0 : l0.length ≤ c0) (h : census_Kinds.f l0 = some (r1, r2, r3, r4, r5, r6, r7, r8, r9, r10, r11, r12, r13, r14, r15, r16, r17, r18, r19, r20, r21, r22)) :
    Calls Try.prog 47 #[.slice A0 l0.length c0] w fun e w' => e = .returned (.agg #[.int .i64 r1, .int .i64 r2, .int .i64 r3, .int .i64 r4, .int .i64 r5, .int .i64 r6, .int .i64 r7, .int .i64 r8, .int .i64 r9, .int .i64 r10, .int .i64 r11, .int .i64 r12, .int .i64 r13, .int .i64 r14, .int .i64 r15, .int .i64 r16, .int .i64 r17, .int .i64 r18, .int .i64 r19, .int .i64 r20, .int .i64 r21, .int .i64 r22]) ∧ Below w.heap.size w w' := by
  have hu81 := Try.underlying81
  have hu84 := Try.underlying84
  unfold census_Kinds.f at h
  by_cases hl : l0.length ≤ 1000000
  case neg => rw [if_neg hl] at h; cases h
  rw [if_pos hl] at h
  go_enter Try.func47, Try.ntmps47
  go_wp2
  go_loopw [7] (fun v7 wr => ∃ i : Nat, v7 = .int .i64 (i : Int) ∧ i ≤ l0.length ∧ wr.heap[w.heap.size]? = some (arrK (kinds22 (l0.take i)) 81) ∧ Below w.heap.size w wr) (fun v7 _ => match v7 with | .int _ n => l0.length - n.toNat | _ => 0)
  case atStart =>
    refine ⟨0, rfl, Nat.zero_le _, ?_, xa (Below.refl _ w) _⟩
    rw [show l0.take 0 = [] from rfl, show kinds22 [] = [0, 0, 0, 0, 0, 0, 0, 0, 0, 0, 0, 0, 0, 0, 0, 0, 0, 0, 0, 0, 0, 0] from rfl]
    exact World.alloc_heap_new w (arrK [0, 0, 0, 0, 0, 0, 0, 0, 0, 0, 0, 0, 0, 0, 0, 0, 0, 0, 0, 0, 0, 0] 81)
  case round =>
    obtain ⟨i, rfl, hi, hA, hB⟩ := hrel
    have hltA : w.heap.size < wr.heap.size := (Array.getElem?_eq_some_iff.1 hA).1
    by_cases hlt : i < l0.length
    · have hd : decide ((i : Int) < (l0.length : Int)) = true := by simpa using hlt
      have hz : (0 : Int) ≤ (i : Int) := by omega
      obtain ⟨ad, e, hx0, hx1, hx2, hx3, hx4⟩ := at_T84 (Kd.C_below hr0 hB) (i : Int) (by omega) (by omega)
      subst e
      obtain ⟨x, hxx⟩ : ∃ x, rd_T84 l0 (i : Int) = x := ⟨_, rfl⟩
      have hxg : l0[i] = x := by rw [← hxx]; simp [rd_T84, hlt]
      rw [hxx, Int.toNat_natCast] at hx0 hx1 hx2 hx3 hx4
      by_cases hin : 1 ≤ x.f0 ∧ x.f0 < 22
      · obtain ⟨kk, hkk⟩ := Int.eq_ofNat_of_zero_le (show 0 ≤ x.f0 by omega)
        have hk1 : 1 ≤ kk := by omega
        have hk9 : kk < 22 := Int.ofNat_lt.1 (hkk ▸ hin.2)
        have h1 : decide ((1 : Int) ≤ (kk : Int)) = true := decide_eq_true (by omega)
        have h2 : decide ((kk : Int) < 22) = true := decide_eq_true (Int.ofNat_lt.2 hk9)
        obtain ⟨b0, b1⟩ := cntK_up l0 i kk hl
        have b2 := idxK hl hlt
        obtain ⟨cc, hcc⟩ : ∃ cc, cntK (l0.take i) kk = cc := ⟨_, rfl⟩
        rw [hcc] at b0 b1
        have hcx : ∀ o : Obj, (wr.alloc o).cell? ⟨w.heap.size, kk, none⟩ = some (.int .i64 cc) := by
          intro o
          have h9 := arrK_cell ((Below.heap_alloc wr o w.heap.size hltA).trans hA) kk (by rw [kinds22_len]; exact hk9)
          rw [kinds22_at _ _ hk1 hk9, hcc] at h9
          exact h9
        have hfx : ∀ o : Obj, (wr.alloc o).frozen? ⟨w.heap.size, kk, none⟩ = false := fun o => arrK_frozen ((Below.heap_alloc wr o w.heap.size hltA).trans hA) kk
        have hkb := eq_true (And.intro (Int.natCast_nonneg kk) (show (kk:Int) < 22 from Int.ofNat_lt.2 hk9))
        have hw : wrap64 (cc + 1) = cc + 1 := wrapK cc b0 b1
        have hw2 : wrap64 ((i : Int) + 1) = (i : Int) + 1 := wrapK i hz b2
        clear b0 b1 b2 hl hk1
        go_wp2
        go_roundw
        case rel =>
          refine ⟨i + 1, by rw [hw2]; rfl, Nat.succ_le_of_lt hlt, ?_, ?_⟩
          · rw [List.take_succ_eq_append_getElem hlt, hxg, ← kinds22_in _ _ kk (by have := hin.1; omega) hk9 hkk, hcc]
            exact (Below.heap_alloc _ _ _ (by rw [World.size_setCell]; exact hltA)).trans (arrK_set hA _ _)
          · exact xa (below_set hB (Nat.le_refl _)) _
        case measure => rw [hw2]; exact (show l0.length - (i + 1) < l0.length - i from Nat.sub_lt_sub_left hlt (Nat.lt_succ_self i))
      · have b2 := idxK hl hlt
        have hw2 : wrap64 ((i : Int) + 1) = (i : Int) + 1 := wrapK i hz b2
        clear b2 hl
        have hrel2 : ∀ o : Obj, (wr.alloc o).heap[w.heap.size]? = some (arrK (kinds22 (l0.take (i + 1))) 81) := by
          intro o
          rw [List.take_succ_eq_append_getElem hlt, hxg, kinds22_out _ _ hin]
          exact (Below.heap_alloc _ _ _ hltA).trans hA
        by_cases h0 : 1 ≤ x.f0
        · have h1 : decide (1 ≤ x.f0) = true := by simpa using h0
          have h2 : decide (x.f0 < 22) = false := by simp; omega
          go_wp2
          go_roundw
          case rel => exact ⟨i + 1, by rw [hw2]; rfl, Nat.succ_le_of_lt hlt, hrel2 _, xa hB _⟩
          case measure => rw [hw2]; exact (show l0.length - (i + 1) < l0.length - i from Nat.sub_lt_sub_left hlt (Nat.lt_succ_self i))
        · have h1 : decide (1 ≤ x.f0) = false := by simpa using h0
          go_wp2
          go_roundw
          case rel => exact ⟨i + 1, by rw [hw2]; rfl, Nat.succ_le_of_lt hlt, hrel2 _, xa hB _⟩
          case measure => rw [hw2]; exact (show l0.length - (i + 1) < l0.length - i from Nat.sub_lt_sub_left hlt (Nat.lt_succ_self i))
    · have hd : decide ((i : Int) < (l0.length : Int)) = false := by simpa using hlt
      rw [List.take_of_length_le (by omega)] at hA
      simp only [Option.some.injEq, Prod.mk.injEq] at h
      obtain ⟨rfl, rfl, rfl, rfl, rfl, rfl, rfl, rfl, rfl, rfl, rfl, rfl, rfl, rfl, rfl, rfl, rfl, rfl, rfl, rfl, rfl, rfl⟩ := h
      unfold arrK at hA
      have hS : ((kinds22 l0).map fun n => Value.int .i64 n).toArray.size = 22 := by simp [kinds22]
      have hI : (Try.prog.info? 81).map (·.size) = some ((kinds22 l0).map fun n => Value.int .i64 n).toArray.size := by rw [hS]; kernel_rfl
      have hO : ((kinds22 l0).map fun n => Value.int .i64 n).toArray.all (·.oneCell') = true := by simp [Value.oneCell']
      obtain ⟨CS, hCS⟩ : ∃ CS : Array Value, ((kinds22 l0).map fun n => Value.int .i64 n).toArray = CS := ⟨_, rfl⟩
      rw [hCS] at hA hI hO
      go_wp2_with (first
        | ((with_reducible refine gate_dst (N := 26) rfl ?_); refine wpList_load_row rfl 81 (.tmp 2) rfl w.heap.size rfl 81 _ (0, 0) _ hA hu81 rfl hI ?_)
        | (refine wpList_store_row rfl 81 (.tmp 2) (.tmp 26) rfl w.heap.size CS rfl rfl 81 CS hA hI rfl hO ?_))
      refine bodyPost_ret (results_cellK rfl _ _ w.heap.size 81 _ (0, 0) _ rfl (setRow_heap _ _ _ _ _ _ hA) hu81 rfl hI) rfl ⟨by rw [← hCS]; rfl, ?_⟩
      exact below_setRow hB (Nat.le_refl _) _
end Go.Proofs.Ytidhcdifmcffcaa.PCen
