/-
All of a heap, in the order in which it would be popped: slices.SortedFunc at heap's items, and All, walked.
-/
import Derived.Test.YtkegdcnnankokaaHiSort
import Derived.Test.YtkegdcnnankokaaHiDue
import Derived.Shelf.SlSortCmp.NoneTotal
import Derived.Shelf.SlicesQ.Reverse
import Derived.Lib.Hide
import Derived.Test.YtkegdcnnankokaaBase
namespace Go.Proofs.Ytkegdcnnankokaa.Hpi
set_option linter.unusedVariables false
set_option linter.unusedSimpArgs false
open Go.Maps Go.Sort Go.Shelf Go.RowKit Go.Proofs.YtkegdcnnankokaaW.PrintWords Go.Proofs.YtkegdcnnankokaaW.PrintLast Go.Proofs.YtkegdcnnankokaaW.PrintMore Hp
theorem gd_cons (x : It Int) (r : List (It Int)) (n : Nat) : gd (x :: r) (n + 1) = gd r n := by simp [Hp.gd]
theorem flat_at : ∀ (l : List (It Int)) (t : Nat), t < l.length * 3 → (l.flatMap cellsI)[t]? = some ((cellsI (gd l (t / 3)))[t % 3]!)
  | [], t, h => by simp at h
  | x :: r, t, h => by
    have hc : (cellsI x).length = 3 := rfl
    rw [List.flatMap_cons]
    by_cases h3 : t < 3
    · rw [List.getElem?_append_left (by rw [hc]; exact h3)]
      have h0 : gd (x :: r) 0 = x := by simp [Hp.gd]
      match t, h3 with
      | 0, _ => rw [h0]; rfl
      | 1, _ => rw [h0]; rfl
      | 2, _ => rw [h0]; rfl
    · rw [List.getElem?_append_right (by rw [hc]; omega), hc, flat_at r (t - 3) (by rw [List.length_cons] at h; omega)]
      have e1 : t / 3 = (t - 3) / 3 + 1 := by omega
      have e2 : t % 3 = (t - 3) % 3 := by omega
      rw [e1, gd_cons, e2]
theorem arr_gd (l : List (It Int)) (i : Nat) : l.toArray[i]! = gd l i := by simp [Hp.gd]
theorem holds_items {w : World} {g e : Nat} {cur : Array Value} {l : List (It Int)} (hb : w.heap[g]? = some (.cells cur e (0, 0))) (ht : cur.toList.take (l.length * 3) = l.flatMap cellsI) : HoldsK cellsI 3 w g 0 l.toArray := by
  intro j hj
  rw [size_flatK] at hj
  have hj' : j < l.length * 3 := by simpa using hj
  refine ⟨?_, by simp [World.frozen?, hb]⟩
  have h1 := flat_at l j hj'
  rw [← ht, List.getElem?_take_of_lt hj', Array.getElem?_toList] at h1
  simp only [World.cell?, hb, Nat.zero_add]
  rw [get_flatK _ _ _ _ hj, arr_gd]
  simpa using h1
theorem items_C {w : World} {g : Nat} {s : List (It Int)} (h : HoldsK cellsI 3 w g 0 s.toArray) (hl : s.length ≤ 1000000) : Kd.C kI w (some ⟨g, 0, none⟩) s.length s := by
  refine ⟨rfl, by omega, fun _ => ⟨_, rfl, fun j p hj => ⟨cellsI p, rfl, ⟨[.int .i64 p.f0], [.int .i64 p.f1, .int .i64 p.f2], rfl, rfl, ⟨[.int .i64 p.f1], [.int .i64 p.f2], rfl, rfl, rfl⟩⟩, fun i u hu => ?_⟩⟩⟩
  obtain ⟨hjl, he⟩ := List.getElem?_eq_some_iff.1 hj
  have h2 := HoldsK.cells h (fun _ => rfl) (i := j) (by simpa using hjl) i u
  rw [arr_gd, gd_at hjl, he] at h2
  have h3 := h2 hu
  rw [Addr.add_lit] at h3 ⊢
  rw [Nat.zero_add] at h3
  rw [Nat.zero_add]
  exact h3
theorem grown_sortK {w : World} {g n : Nat} {os : Array Obj} (d : Array (It Int)) : w.grownBy (sortWorldK cellsI 3 w g 0 n d os) (some g) := by
  unfold sortWorldK putRowK
  refine ⟨rfl, rfl, rfl, by simp, fun k hk hne => ?_⟩
  rw [heap_grow_old _ _ (by simpa using hk)]
  have : g ≠ k := fun e => hne (by rw [e])
  simp [putRow, mapBlock, Sort.ahead, Array.getElem?_modify, this]
theorem sorted_items (w : World) (B q c : Nat) (l s : List (It Int)) (A : Option Addr) (hB : w.cell? ⟨B, 0, none⟩ = some (.slice A l.length c)) (hA : l ≠ [] → A = some ⟨q, 0, none⟩)
    (h3 : ∀ i, i < l.length → w.cell? ⟨q, i * 3, none⟩ = some (.int .i64 (gd l i).f0) ∧ w.cell? ⟨q, i * 3 + 1, none⟩ = some (.int .i64 (gd l i).f1) ∧ w.cell? ⟨q, i * 3 + 2, none⟩ = some (.int .i64 (gd l i).f2)) (hlen : l.length ≤ 1000000) (hp : l.Perm s) (hS : Srt s) :
    Calls Try.prog 74 #[.func (.func 90) #[] #[.pointer (some ⟨B, 0, none⟩)], .func (.func 76) #[] #[]] w fun e w' =>
      ∃ A' c', e = .returned (.slice A' s.length c') ∧ Kd.C kI w' A' s.length s ∧ Below w.heap.size w w' := by
  have HA := Lib.hid (append_items w B q c l A hB hA h3 hlen)
  have hls := hp.length_eq
  clear hB hA h3
  go_enter Try.func74, Try.ntmps74
  go_wp2_with (go_at_call 88; go_enter Try.func88, Try.ntmps88; go_wp2_with (go_at_call 101; refine (HA.out).mono ?_; rintro e W ⟨v, rfl, hrow, hnil, hb⟩))
  rcases hrow.2 with ⟨rfl, hz⟩ | ⟨gb, cap, cur, rfl, hbase, hgb, r1, r2, r3, r4⟩
  · obtain rfl : l = [] := List.eq_nil_of_length_eq_zero hz
    obtain rfl : s = [] := List.eq_nil_of_length_eq_zero (by rw [← hls]; rfl)
    refine (AnyF.slices_SortFunc_none Try.sortItems none 0 _ W).mono ?_
    rintro e w' ⟨rfl, rfl⟩
    go_wp2
    go_ret
    exact ⟨none, 0, rfl, ⟨rfl, by simp, fun h => absurd h (by simp)⟩, hb⟩
  · have hH : HoldsK cellsI 3 W gb 0 l.toArray := holds_items hgb r4
    have hgl : gb < W.heap.size := (Array.getElem?_eq_some_iff.1 hgb).1
    have eg : ∀ args w, (callFunc 76 args).run Try.prog w = .ok (.enter 76 args) w := enters_of Try.func76 (by kernel_rfl) rfl
    have hcon := AnyQ.slices_SortFunc Try.sortItems 3 Try.isAgg117 Try.sizeOf117 cellsI (fun _ => rfl) (fun x v hv => one3 x v hv) aheadP swo_ahead 76 #[] gb 0 cap l.toArray W eg (cmp_ahead gb 0 l.toArray.size W) hH hgl (by simp; omega)
    refine hcon.mono ?_
    rintro e w' ⟨rfl, d', nn, os, hpi, hsi, rfl⟩
    have hds : d'.size = l.toArray.size := hpi.1
    have hlt : ltOf (aheadP (α := Int)) = fun x y => decide (lt x y) := by funext x y; exact ltOf_ahead x y
    rw [hlt] at hsi
    have hd : d'.toList = s := sorted_of hpi hsi (by simpa using hp) hS
    have hw2 := holdsK_sortWorldK_c cellsI 3 W gb 0 l.toArray d' nn os hH hgl hds
    have hlen2 : l.length = s.length := hls
    go_wp2
    go_ret
    refine ⟨some ⟨gb, 0, none⟩, cap, rfl, ?_, hb.grown (grown_sortK _) hb.size (fun j hj => by cases hj; exact hbase)⟩
    have h9 : HoldsK cellsI 3 (sortWorldK cellsI 3 W gb 0 nn d' os) gb 0 s.toArray := by rw [← hd]; simpa using hw2
    exact items_C h9 (by omega)
theorem items_at {w : World} {h N M seq : Nat} {F : Nat → Prop} {l : List (It Int)} (H : HpAt w h F N M l seq) : ∃ (A : Option Addr) (q c : Nat), w.cell? ⟨h, 0, none⟩ = some (.slice A l.length c) ∧ (l ≠ [] → A = some ⟨q, 0, none⟩) ∧
    ∀ i, i < l.length → w.cell? ⟨q, i * 3, none⟩ = some (.int .i64 (gd l i).f0) ∧ w.cell? ⟨q, i * 3 + 1, none⟩ = some (.int .i64 (gd l i).f1) ∧ w.cell? ⟨q, i * 3 + 2, none⟩ = some (.int .i64 (gd l i).f2) := by
  obtain ⟨_, _, _, _, ⟨rfl, h1, rfl⟩ | ⟨v, mb, n, g, _, R, _, rfl⟩⟩ := H
  · exact ⟨none, 0, 0, cell_of_heap h1 rfl, fun h => absurd rfl h, fun i hi => absurd hi (by simp)⟩
  · by_cases hl : 0 < l.length
    · obtain ⟨q, cap, rfl, _, _, _, _⟩ := Kd.R_form R.row hl
      exact ⟨_, q, cap, cell_of_heap R.hd rfl, fun _ => rfl, fun i hi => R.at3 hi⟩
    · obtain rfl : l = [] := List.eq_nil_of_length_eq_zero (by omega)
      obtain ⟨A, c, rfl⟩ := Kd.R_slice R.row
      exact ⟨A, 0, c, cell_of_heap R.hd rfl, fun h => absurd rfl h, fun i hi => absurd hi (by simp)⟩
set_option maxRecDepth 100000 in
set_option maxHeartbeats 4000000 in
theorem all_any {w : World} {h N M seq : Nat} {F : Nat → Prop} {l s : List (It Int)} (H : HpAt w h F N M l seq) (hR : Rep l s) (hM : M ≤ 100000) :
    Calls Try.prog 46 #[.pointer (some ⟨h, 0, none⟩)] w fun e w' => ∃ v, e = .returned v ∧ Kd.R (Kd.int .i64) 3 w' w.heap.size (fun _ => True) v (s.map (·.f2)) ∧ Below w.heap.size w w' := by
  have hp : l.Perm s := rep_perm hR H.2.2.1
  have hS : Srt s := hR.srt
  have hlM := H.1
  have hls := hp.length_eq
  obtain ⟨A, q, c, c0, hA, h3⟩ := items_at H
  obtain ⟨W1, hW1⟩ : ∃ W1, w.alloc (.cells #[.slice A l.length c] 64) = W1 := ⟨_, rfl⟩
  have hb1 : Below w.heap.size w W1 := hW1 ▸ (Below.refl w.heap.size w).alloc (Nat.le_refl _) _
  have hB : W1.cell? ⟨w.heap.size, 0, none⟩ = some (.slice A l.length c) := by rw [← hW1]; exact cell_of_heap (MapKept.heap_alloc w _).1 rfl
  have HSo := Lib.hid (sorted_items W1 w.heap.size q c l s A hB hA (fun i hi => ⟨bel_cell hb1 (h3 i hi).1, bel_cell hb1 (h3 i hi).2.1, bel_cell hb1 (h3 i hi).2.2⟩) (by omega) hp hS)
  have HB1 := Lib.hid hb1
  have hsM : s.length ≤ 100000 := by omega
  obtain ⟨n0, hn0⟩ : ∃ n0, l.length = n0 := ⟨_, rfl⟩
  rw [hn0] at c0 hW1
  obtain ⟨n, hn⟩ : ∃ n, s.length = n := ⟨_, rfl⟩
  have HN := Lib.hid hn
  rw [hn] at HSo hsM
  clear H hR hp hS hlM hls hA h3 hB hb1 hn0 hn
  go_enter Try.func46, Try.ntmps46
  go_wp2_with (go_at_call 75; go_enter Try.func75, Try.ntmps75; go_wp2_with (go_at_call 74; refine (HSo.out).mono ?_; rintro e w2 ⟨A2, c2, rfl, hC2, hb2⟩; have HC2 := Lib.hid hC2; have HB2 := Lib.hid (bel_trans HB1.out hb2); clear hC2 hb2))
  go_loopg [2, 4, 14] n (fun gg v2 _ v14 wr => ∃ (k : Nat) (Ao : Option Addr) (mo co : Nat), k ≤ n ∧ n - k ≤ gg ∧ v14 = .int .i64 k ∧ v2 = .slice Ao mo co ∧ Aside0 (Below w2.heap.size w2 wr) ∧ Aside0 (Kd.R (Kd.int .i64) 3 wr w2.heap.size (fun _ => True) (.slice Ao mo co) ((s.take k).map (·.f2))))
  case atStart => exact ⟨0, none, 0, 0, Nat.zero_le _, by omega, rfl, rfl, ⟨Below.refl _ _⟩, ⟨by simpa using Kd.R_nil _ _ _ _ _⟩⟩
  case round =>
    obtain ⟨k, Ao, mo, co, hk, hg, rfl, rfl, B2, HO⟩ := hrel
    by_cases hlt : k < n
    · have hltz : (k : Int) < (n : Int) := by omega
      have hks : k < s.length := by rw [HN.out]; exact hlt
      obtain ⟨ad, cs, hA2, hcl, hK, hcc⟩ := Kd.C_get HC2.out zI (k : Int) (by omega) (by rw [← HN.out] at hlt; omega)
      obtain rfl := kI_open hK
      subst hA2
      rw [Int.toNat_natCast, show kI.sz = 3 from rfl] at hcc
      have hgx : s.getD ((k : Int).toNat) zI = s[k] := by rw [Int.toNat_natCast, List.getD_eq_getElem?_getD, List.getElem?_eq_getElem hks]; rfl
      have hsucc : (s.take (k + 1)).map (·.f2) = (s.take k).map (·.f2) ++ [s[k].f2] := by rw [List.take_succ_eq_append_getElem hks, List.map_append]; rfl
      rw [Int.toNat_natCast] at hgx
      rw [hgx] at hcc
      obtain ⟨x, hx⟩ : ∃ x, s[k] = x := ⟨_, rfl⟩
      rw [hx] at hcc hsucc
      have e3 : ∀ j, 0 < j → ad.add (k * 3 + j) = ⟨(ad.add (k * 3)).block, (ad.add (k * 3)).off + j, none⟩ := fun j hj => by
        rw [← add_add]
        generalize ad.add (k * 3) = a
        unfold Addr.add
        rw [if_neg (by omega)]
      have f0 : wr.cell? (ad.add (k * 3)) = some (.int .i64 x.f0) := bel_cell B2.out (hcc 0 _ rfl)
      have f1 : wr.cell? ⟨(ad.add (k * 3)).block, (ad.add (k * 3)).off + 1, none⟩ = some (.int .i64 x.f1) := by rw [← e3 1 (by omega)]; exact bel_cell B2.out (hcc 1 _ rfl)
      have f2 : wr.cell? ⟨(ad.add (k * 3)).block, (ad.add (k * 3)).off + 2, none⟩ = some (.int .i64 x.f2) := by rw [← e3 2 (by omega)]; exact bel_cell B2.out (hcc 2 _ rfl)
      have HS := Lib.hid hsucc
      obtain ⟨O, hO⟩ : ∃ O, wr.alloc (.cells #[.int .i64 x.f0, .int .i64 x.f1, .int .i64 x.f2] 117) = O := ⟨_, rfl⟩
      have hbO : Below wr.heap.size wr O := hO ▸ (Below.refl wr.heap.size wr).alloc (Nat.le_refl _) _
      have g2 : O.cell? ⟨wr.heap.size, 2, none⟩ = some (.int .i64 x.f2) := by rw [← hO]; exact cell_of_heap (MapKept.heap_alloc wr _).1 rfl
      have HBO := Lib.hid hbO
      have HBW := Lib.hid (bel_trans B2.out hbO)
      have HOO := Lib.hid (Kd.R_below HO.out hbO)
      have HL4 : Hid ((((s.take k).map (·.f2)).length + 1) * 8 ≤ 140737488355328) := Lib.hid (by rw [List.length_map, List.length_take]; omega)
      clear hcl hcc e3 hsucc hx hgx hks hK hbO
      go_upto_region 6 with (fail)
      clear f0 f1 f2 hO
      go_wp2_with (first
        | (at_builtin; refine Kd.R_append (Kd.int .i64) (w0 := w2) (W := O) w2.heap.size rfl (.tmp 18) (.tmp 21) 30 3 (.int .i64 0) 8 rfl Try.underlying30 infoT rfl (by decide) (by decide) (.slice Ao mo co) ((s.take k).map (·.f2)) x.f2 [.int .i64 x.f2] (fun _ => True) (fun _ => False) rfl rfl rfl (fun _ q => q.elim) (fun _ _ => trivial) HOO.out HBW.out HBW.out.size HL4.out ?_; intro v7 w7 hR7 hB7 hg7 hat7; rw [← HS.out] at hR7; obtain ⟨A7, k7_, e7_⟩ := Kd.R_slice hR7; subst e7_; obtain ⟨m7, hm7⟩ : ∃ m7, ((s.take (k + 1)).map (·.f2)).length = m7 := ⟨_, rfl⟩; rw [hm7] at hR7 ⊢; have HR7 := Lib.hid hR7; have HB7 := Lib.hid hB7; clear hR7 hB7 hg7 hat7 hm7)
        | fail)
      go_roundg (n - (k + 1))
      case measure => omega
      case rel => exact ⟨k + 1, A7, _, k7_, by omega, by omega, by go_num, rfl, ⟨HB7.out⟩, ⟨HR7.out⟩⟩
    · have hltz : ¬ (k : Int) < (n : Int) := by omega
      have : k = n := by omega
      subst this
      go_wp2
      go_ret
      refine ⟨_, rfl, ?_, bel_trans HB2.out B2.out⟩
      have := Kd.R_lower HO.out HB2.out.size
      rw [← HN.out, List.take_length] at this
      exact this
end Go.Proofs.Ytkegdcnnankokaa.Hpi
