/-
Any things put in, popped, dropped and told as due: the statement's own function, walked.
-/
import Derived.Test.YtkegdcnnankokaaHeapDo
import Derived.Test.YtkegdcnnankokaaHeapSorts
import Derived.Test.YtkegdcnnankokaaHeapOps
import Derived.Test.YtkegdcnnankokaaHeapLives
namespace Go.Proofs.Ytkegdcnnankokaa.Hpi
set_option linter.unusedVariables false
set_option linter.unusedSimpArgs false
open Go.Maps Go.RowKit Go.Proofs.YtkegdcnnankokaaW.PrintWords Go.Proofs.YtkegdcnnankokaaW.PrintLast Go.Proofs.YtkegdcnnankokaaW.PrintMore Hp Go.Proofs.Ytkegdcnnankokaa.PHpb
attribute [local go_sem] max2_int min2_int
theorem cut80 (n : Nat) : ∃ m : Nat, min (n : Int) 80 = (m : Int) ∧ m ≤ n ∧ m ≤ 80 := ⟨min n 80, by omega, by omega, by omega⟩
def o0 : OpS := ⟨0, 0, 0⟩
theorem op_at {w wr : World} {A : Option Addr} {n : Nat} {l : List OpS} (hA : Kd.C kOp w A n l) (hn : n ≤ l.length) (hb : Below w.heap.size w wr) {i : Nat} (hi : i < n) : ∃ ad o, A = some ad ∧ o ∈ l ∧ wr.cell? (ad.add (i * 3)) = some (.int .u64 o.k) ∧ wr.cell? ⟨(ad.add (i * 3)).block, (ad.add (i * 3)).off + 1, none⟩ = some (.int .i64 o.t) ∧
    wr.cell? ⟨(ad.add (i * 3)).block, (ad.add (i * 3)).off + 2, none⟩ = some (.int .i64 o.x) := by
  obtain ⟨ad, cs, hA', hcl, hK, hcc⟩ := Kd.C_get hA o0 (i : Int) (by omega) (by omega)
  rw [Int.toNat_natCast] at hK hcc
  refine ⟨ad, l.getD i o0, hA', ?_, ?_⟩
  · rw [List.getD_eq_getElem?_getD, List.getElem?_eq_getElem (by omega)]; exact List.getElem_mem _
  · obtain rfl := kOp_open hK
    have h2 : kOp.sz = 3 := rfl
    rw [h2] at hcc
    have h3 : ∀ j, 0 < j → ad.add (i * 3 + j) = ⟨(ad.add (i * 3)).block, (ad.add (i * 3)).off + j, none⟩ := fun j hj => by
      rw [← add_add]
      generalize ad.add (i * 3) = a
      unfold Addr.add
      rw [if_neg (by omega)]
    refine ⟨bel_cell hb (hcc 0 _ rfl), ?_, ?_⟩
    · rw [← h3 1 (by omega)]; exact bel_cell hb (hcc 1 _ rfl)
    · rw [← h3 2 (by omega)]; exact bel_cell hb (hcc 2 _ rfl)
set_option maxRecDepth 100000 in
set_option maxHeartbeats 4000000 in
theorem heapPlays_any (A : Option Addr) (c : Nat) (l : List OpS) (w : World) (hA : Kd.C kOp w A l.length l) (hc : l.length ≤ c) (hk : ∀ o ∈ l, (0 ≤ o.k ∧ o.k ≤ 18446744073709551615) ∧ wfk o.x) :
    Calls Try.prog 12 #[.slice A l.length c] w fun e w' => e = .returned (.bool true) ∧ Below w.heap.size w w' := by
  obtain ⟨p, hp, hpl, hp80⟩ := cut80 l.length
  have HA := Lib.hid hA
  have HK := Lib.hid hk
  obtain ⟨n0, hn0⟩ : ∃ n0, l.length = n0 := ⟨_, rfl⟩
  have HN := Lib.hid hn0
  rw [hn0] at hp hpl hc ⊢
  have hp1 : (0 : Int) ≤ (p : Int) ∧ (p : Int) ≤ (n0 : Int) := by omega
  have hp2 := eq_true hp1
  obtain ⟨W1, hW1⟩ : ∃ W1, w.alloc (.cells #[.slice none 0 0, .map none, .int .i64 0] 67) = W1 := ⟨_, rfl⟩
  have hb1 : Below w.heap.size w W1 := hW1 ▸ (Below.refl w.heap.size w).alloc (Nat.le_refl _) _
  have hs0 : HS w W1 w.heap.size 0 (fun k => k = w.heap.size) [] [] 0 none 0 0 := ⟨hW1 ▸ made w, rep_nil, fun a ha => by simp at ha, fun k q => by rw [q]; exact Nat.le_refl _, hb1, DocR.nil _ _ _⟩
  have HS0 := Lib.hid hs0
  clear hA hk hn0 hp1 hb1 hs0
  obtain ⟨h, hh⟩ : ∃ h, w.heap.size = h := ⟨_, rfl⟩
  have HHs := Lib.hid hh
  go_enter Try.func12, Try.ntmps12
  go_upto_region 5 with (fail)
  clear hW1 hp
  rw [hh] at HS0
  go_loopg [4, 6, 7, 8, 18] p (fun gg v4 _ _ _ v18 wr => ∃ (kk : Nat) (F : Nat → Prop) (ll s : List (It Int)) (seq : Nat) (A4 : Option Addr) (n4 c4 : Nat), kk ≤ p ∧ p - kk ≤ gg ∧ v18 = .int .i64 kk ∧ v4 = .slice A4 n4 c4 ∧ Aside0 (HS w wr h kk F ll s seq A4 n4 c4))
  case atStart => exact ⟨0, _, _, _, _, none, 0, 0, Nat.zero_le _, by omega, rfl, rfl, ⟨HS0.out⟩⟩
  case round =>
    obtain ⟨kk, F, ll, s, seq, A4, n4, c4, hkk, hg, rfl, rfl, HC⟩ := hrel
    by_cases hlt : kk < p
    · have hltz : (kk : Int) < (p : Int) := by omega
      obtain ⟨ad, o, rfl, hmem, f0, f1, f2⟩ := op_at HA.out (Nat.le_refl _) HC.out.bel (i := kk) (by rw [HN.out]; omega)
      obtain ⟨hko, hkx⟩ := HK.out o hmem
      obtain ⟨O, hO⟩ : ∃ O, wr.alloc (.cells #[.int .u64 o.k, .int .i64 o.t, .int .i64 o.x] 78) = O := ⟨_, rfl⟩
      have hbO : Below wr.heap.size wr O := hO ▸ (Below.refl wr.heap.size wr).alloc (Nat.le_refl _) _
      have hblk : O.heap[wr.heap.size]? = some (.cells #[.int .u64 o.k, .int .i64 o.t, .int .i64 o.x] 78 (0, 0)) := by rw [← hO]; exact (MapKept.heap_alloc wr _).1
      have b0 : O.cell? ⟨wr.heap.size, 0, none⟩ = some (.int .u64 o.k) := cell_of_heap hblk rfl
      have b1 : O.cell? ⟨wr.heap.size, 1, none⟩ = some (.int .i64 o.t) := cell_of_heap hblk rfl
      have b2 : O.cell? ⟨wr.heap.size, 2, none⟩ = some (.int .i64 o.x) := cell_of_heap hblk rfl
      have HDo := Lib.hid (do_any HC.out hbO (by omega) o.k o.t o.x hko hkx)
      have HBlk := Lib.hid hblk
      have HKX := Lib.hid hkx
      clear hmem hko hbO hblk hkx
      go_upto_region 7 with (fail)
      clear f0 f1 f2 hO
      go_wp2_with (first
        | (go_at_call 41; refine (HDo.out).mono ?_; rintro e w4 ⟨F4, l4, s4, seq4, A5, n5, c5, rfl, hs4, hx4⟩; have b4 : w4.cell? ⟨wr.heap.size, 2, none⟩ = some (.int .i64 o.x) := cell_of_heap ((hx4 _ (Nat.le_refl _) (Array.getElem?_eq_some_iff.1 HBlk.out).1).trans HBlk.out) rfl; have HS4 := Lib.hid hs4; clear hs4 hx4)
        | (go_at_call 42; refine (alike_any HS4.out (by omega) _ HKX.out).mono ?_; rintro e w5 ⟨rfl, hb5⟩; have HS5 := Lib.hid (HS4.out.behind hb5); clear hb5)
        | fail)
      go_roundg (p - (kk + 1))
      case measure => omega
      case rel => exact ⟨kk + 1, _, _, _, _, A5, n5, c5, by omega, by omega, by go_num, rfl, ⟨HS5.out⟩⟩
    · have hltz : ¬ (kk : Int) < (p : Int) := by omega
      have hl9 := Lib.hid (Hps.lives_any wr)
      go_wp2_with (first | (go_at_call 38; refine (hl9.out).mono ?_; rintro e w9 ⟨rfl, hb9⟩; have HB9 := Lib.hid hb9; clear hb9) | fail)
      go_ret
      exact ⟨rfl, HC.out.bel.trans (HB9.out.mono HC.out.bel.size)⟩
end Go.Proofs.Ytkegdcnnankokaa.Hpi
