import Derived.Test.YtkegdcnnankokaaHsDown
import Derived.OwnWalk
import Derived.Deep.RegionLaw
import Derived.Laws.ResultCell
/-
heap.Heap[string]: a heap as a whole; Len and First, walked.
-/
namespace Go.Proofs.Ytkegdcnnankokaa.Hps
set_option linter.unusedVariables false
set_option linter.unusedSimpArgs false
open Go.Maps Go.RowKit Go.Proofs.YtkegdcnnankokaaW.PrintWords Go.Proofs.YtkegdcnnankokaaW.PrintLast Go.Proofs.YtkegdcnnankokaaW.PrintMore Hp
/-- the heap at block h has the list l; F: its blocks; N, M: how large its map's table, its list and its count may be. -/
def HpAt (w : World) (h : Nat) (F : Nat → Prop) (N M : Nat) (l : List (It ByteArray)) (seq : Nat) : Prop :=
  l.length ≤ M ∧ seq ≤ M ∧ Apart l ∧ (∀ i, i < l.length → wfk (gd l i).f2) ∧
  ((l = [] ∧ w.heap[h]? = some (.cells #[.slice none 0 0, .map none, .int .i64 (seq : Int)] 123 (0, 0)) ∧ F = fun k => k = h) ∨
   ∃ v mb n g, n ≤ N ∧ Raw w h v mb n (seq : Int) l g ∧ AtFull g l ∧ F = foot h v mb)
section
variable {w w1 : World} {h N M seq : Nat} {F : Nat → Prop} {l : List (It ByteArray)}
theorem HpAt.lt (H : HpAt w h F N M l seq) : ∀ k, F k → k < w.heap.size := by
  obtain ⟨_, _, _, _, ⟨_, h1, rfl⟩ | ⟨v, mb, n, g, _, R, _, rfl⟩⟩ := H
  · rintro k rfl; exact (Array.getElem?_eq_some_iff.1 h1).1
  · exact R.lt
theorem HpAt.kept {G : Nat → Prop} (H : HpAt w h F N M l seq) (hF : Fr G w w1) (hn : ∀ k, F k → ¬ G k) : HpAt w1 h F N M l seq := by
  obtain ⟨a1, a2, a3, a4, ⟨b1, b2, rfl⟩ | ⟨v, mb, n, g, b1, R, b2, rfl⟩⟩ := H
  · exact ⟨a1, a2, a3, a4, .inl ⟨b1, hF.heap b2 (hn h rfl), rfl⟩⟩
  · exact ⟨a1, a2, a3, a4, .inr ⟨v, mb, n, g, b1, R.kept hF hn, b2, rfl⟩⟩
theorem HpAt.behind (H : HpAt w h F N M l seq) (hb : Below w.heap.size w w1) : HpAt w1 h F N M l seq := H.kept (Fr.of_below (fun _ => False) hb) (fun _ _ q => q)
theorem HpAt.drewN (H : HpAt w h F N M l seq) (n : Nat) : HpAt (w.drewN n) h F N M l seq := H.kept (G := fun _ => False) ⟨rfl, rfl, rfl, Nat.le_refl _, fun _ _ _ => rfl⟩ (fun _ _ q => q)
theorem HpAt.more {N' M' : Nat} (H : HpAt w h F N M l seq) (h1 : N ≤ N') (h2 : M ≤ M') : HpAt w h F N' M' l seq := by
  obtain ⟨a1, a2, a3, a4, b⟩ := H
  refine ⟨Nat.le_trans a1 h2, Nat.le_trans a2 h2, a3, a4, b.imp id ?_⟩
  rintro ⟨v, mb, n, g, b1, c⟩
  exact ⟨v, mb, n, g, Nat.le_trans b1 h1, c⟩
theorem HpAt.hd (H : HpAt w h F N M l seq) : ∃ A c mv, w.heap[h]? = some (.cells #[.slice A l.length c, mv, .int .i64 (seq : Int)] 123 (0, 0)) := by
  obtain ⟨_, _, _, _, ⟨rfl, h1, rfl⟩ | ⟨v, mb, n, g, _, R, _, rfl⟩⟩ := H
  · exact ⟨none, 0, _, h1⟩
  · obtain ⟨A, c, rfl⟩ := Kd.R_slice R.row
    exact ⟨A, c, _, R.hd⟩
theorem HpAt.at0 (H : HpAt w h F N M l seq) (hl : 0 < l.length) : ∃ q c mv, w.heap[h]? = some (.cells #[.slice (some ⟨q, 0, none⟩) l.length c, mv, .int .i64 (seq : Int)] 123 (0, 0)) ∧ w.cell? ⟨q, 0, none⟩ = some (.int .i64 (gd l 0).f0) ∧ w.cell? ⟨q, 1, none⟩ = some (.int .i64 (gd l 0).f1) ∧ w.cell? ⟨q, 2, none⟩ = some (.string (gd l 0).f2) := by
  obtain ⟨_, _, _, _, ⟨rfl, h1, rfl⟩ | ⟨v, mb, n, g, _, R, _, rfl⟩⟩ := H
  · simp at hl
  · obtain ⟨q, cap, rfl, _, hql, cells, hqc⟩ := Kd.R_form R.row hl
    obtain ⟨c0, c1, c2⟩ := R.at3 hl
    rw [Nat.zero_mul] at c0
    rw [Nat.zero_mul, Nat.zero_add] at c1 c2
    exact ⟨q, cap, _, R.hd, c0, c1, c2⟩
set_option maxRecDepth 100000 in
theorem len_any (H : HpAt w h F N M l seq) : Calls Try.prog 69 #[.pointer (some ⟨h, 0, none⟩)] w fun e w' => e = .returned (.int .i64 (l.length : Int)) ∧ w' = w := by
  obtain ⟨A, c, mv, hd⟩ := H.hd
  have h0 : w.cell? ⟨h, 0, none⟩ = some (.slice A l.length c) := cell_of_heap hd rfl
  go_enter Try.func69, Try.ntmps69
  go_wp2
  go_ret
  exact ⟨rfl, rfl⟩
def firstV (l : List (It ByteArray)) : Value := if l.length = 0 then .tuple #[.int .i64 0, .string ⟨#[]⟩, .bool false] else .tuple #[.int .i64 (gd l 0).f0, .string (gd l 0).f2, .bool true]
set_option maxRecDepth 100000 in
theorem first_any (H : HpAt w h F N M l seq) : Calls Try.prog 86 #[.pointer (some ⟨h, 0, none⟩)] w fun e w' => e = .returned (firstV l) ∧ ∃ k, w' = w.drewN k := by
  have hLen := Aside0.mk (len_any H)
  unfold firstV
  by_cases hl : l.length = 0
  · rw [if_pos hl]
    have hb : ((l.length : Int) == 0) = true := by simp [hl]
    go_enter Try.func86, Try.ntmps86
    go_wp2_with (first
      | (go_at_call 69; refine (hLen.out).mono ?_; rintro e w1 ⟨rfl, rfl⟩)
      | fail)
    go_ret3
    exact ⟨rfl, 0, rfl⟩
  · rw [if_neg hl]
    have hb : ((l.length : Int) == 0) = false := by simp [hl]
    have hl0 : 0 < l.length := Nat.pos_of_ne_zero hl
    obtain ⟨q, c, mv, hd, c0, c1, c2⟩ := H.at0 hl0
    have h0 : w.cell? ⟨h, 0, none⟩ = some (.slice (some ⟨q, 0, none⟩) l.length c) := cell_of_heap hd rfl
    go_enter Try.func86, Try.ntmps86
    go_wp2_with (first
      | (go_at_call 69; refine (hLen.out).mono ?_; rintro e w1 ⟨rfl, rfl⟩)
      | fail)
    go_quiet (fail)
    go_wp2
    go_ret3
    exact ⟨rfl, nq, rfl⟩
end
end Go.Proofs.Ytkegdcnnankokaa.Hps

/-
heap.Heap[string]'s Put, walked.
-/
namespace Go.Proofs.Ytkegdcnnankokaa.Hps
set_option linter.unusedVariables false
set_option linter.unusedSimpArgs false
open Go.Maps Go.RowKit Go.Proofs.YtkegdcnnankokaaW.PrintWords Go.Proofs.YtkegdcnnankokaaW.PrintLast Go.Proofs.YtkegdcnnankokaaW.PrintMore Hp
open Go.ChangeMaps (setBlock heap_setBlock_same heap_setBlock_other)
theorem wpList_lookup_run {P : Program} {ops : Array Oper} {rest : List Oper} {o : Oper} {a : Act} {Q : Exit → Act → World → Prop} (w : World) (hg : o.guard = none) (m x : Operand) (t : TypeId) (b : Bool) (hop : o.op = Op.lookup t m x b) {vm vx r : Value} (hm : a.eval m = vm) (hx : a.eval x = vx)
    (hrun : (Instr.lookup t vm vx b).run P w = .ok r w) (hK : wpList P ops Q rest (a.put o.dst r) w) : wpList P ops Q (o :: rest) a w := by
  refine wpList_plain hg fun K' hK' => ?_
  unfold Oper.wp
  simp [execOp, hop, hm, hx, hrun, Result.andThen]
  exact hK' _ _ hK
theorem set_hd {w : World} {b : Nat} {cs : Array Value} {t : TypeId} (h : w.heap[b]? = some (.cells cs t (0, 0))) (i : Nat) (u : Value) : (w.setCell ⟨b, i, none⟩ u).heap[b]? = some (.cells (cs.setIfInBounds i u) t (0, 0)) ∧ Fr (fun k => k = b) w (w.setCell ⟨b, i, none⟩ u) := by
  constructor
  · unfold World.setCell
    simp [Array.getElem?_modify, h]
  · refine ⟨rfl, rfl, rfl, by simp [World.setCell], fun k _ hn => Below.heap_setCell w _ u k hn⟩
theorem hd_frozen {w : World} {b : Nat} {cs : Array Value} {t : TypeId} (h : w.heap[b]? = some (.cells cs t (0, 0))) (i : Nat) : w.frozen? ⟨b, i, none⟩ = false := by
  unfold World.frozen?
  simp [h]
set_option maxRecDepth 100000 in
theorem look_at {w : World} {h N M seq : Nat} {F : Nat → Prop} {l : List (It ByteArray)} (H : HpAt w h F N M l seq) {x : ByteArray} (hx : wfk x) : ∃ A c mv, w.heap[h]? = some (.cells #[.slice A l.length c, mv, .int .i64 (seq : Int)] 123 (0, 0)) ∧
    (∀ w1 : World, Fr (fun k => ¬ F k) w w1 → ∃ z : Int, (Instr.lookup 121 mv (.string x) true).run Try.prog w1 = .ok (.tuple #[.int .i64 z, .bool (hasX l x)]) w1 ∧ z = (posO l x).getD 0) ∧
    ((mv = .map none ∧ A = none ∧ c = 0 ∧ l = [] ∧ F = fun k => k = h) ∨ ∃ mb n g, mv = .map (some mb) ∧ n ≤ N ∧ Raw w h (.slice A l.length c) mb n (seq : Int) l g ∧ AtFull g l ∧ F = foot h (.slice A l.length c) mb) := by
  obtain ⟨_, _, _, _, ⟨rfl, h1, rfl⟩ | ⟨v, mb, n, g, hn, R, hg, rfl⟩⟩ := H
  · refine ⟨none, 0, _, h1, fun w1 _ => ⟨0, ?_, ?_⟩, .inl ⟨rfl, rfl, rfl, rfl, rfl⟩⟩
    · have := Maps.look_nil (w := w1) true lawK Try.underlying121 (zeroV w1) (key_of hx)
      simpa [hasX, posO] using this
    · simp [posO]
  · obtain ⟨A, c, rfl⟩ := Kd.R_slice R.row
    refine ⟨A, c, _, R.hd, fun w1 hF => ?_, .inr ⟨mb, n, g, rfl, hn, R, hg, rfl⟩⟩
    obtain ⟨D, hD, hm, hI⟩ := R.map
    have hD1 := hF.map hD (fun q => q (.inr (.inl rfl)))
    obtain ⟨u, ps, hrun, hv⟩ := hD1.look_ok lawK Try.underlying121 (zeroV w1) (plainElem_int (H := Unit) Try.underlying3 (a := 0) (by decide)) (key_of hx)
    obtain ⟨z, rfl, hz, _⟩ := plainElem_int_inv Try.underlying3 hv
    have h1 := (hI x).1
    have h2 := (hI x).2
    rw [hg x] at h1 h2
    refine ⟨z, ?_, ?_⟩
    · rw [hrun, h1]
      unfold hasX
      exact rfl
    · have h3 := congrArg Prod.fst hz
      simp only at h3
      rw [h2] at h3
      injection h3 with h3
      injection h3 with _ h3
      exact h3.symm
end Go.Proofs.Ytkegdcnnankokaa.Hps

/-
heap.Heap[string]'s Put, walked: the whole.
-/
namespace Go.Proofs.Ytkegdcnnankokaa.Hps
set_option linter.unusedVariables false
set_option linter.unusedSimpArgs false
open Go.Maps Go.RowKit Go.Proofs.YtkegdcnnankokaaW.PrintWords Go.Proofs.YtkegdcnnankokaaW.PrintLast Go.Proofs.YtkegdcnnankokaaW.PrintMore Hp
theorem Raw.stored {w1 : World} {h mb n : Nat} {v v1 : Value} {seq seq' : Int} {its : List (It ByteArray)} {g : ByteArray → Option Int} (hd : w1.heap[h]? = some (.cells #[v, .map (some mb), .int .i64 seq] 123 (0, 0)))
    (row : Kd.R kI 148 w1 0 (fun k => k ≠ h ∧ k ≠ mb) v1 its) (map : ∃ D : DataW Unit, w1.ownsMap Try.prog 9 (plainElem Try.prog 3) mb n D ∧ Idx D g) (ne : h ≠ mb) :
    Raw ((w1.setCell ⟨h, 0, none⟩ v1).setCell ⟨h, 2, none⟩ (.int .i64 seq')) h v1 mb n seq' its g ∧ Fr (fun k => k = h) w1 ((w1.setCell ⟨h, 0, none⟩ v1).setCell ⟨h, 2, none⟩ (.int .i64 seq')) := by
  obtain ⟨d1, f1⟩ := set_hd hd 0 v1
  obtain ⟨d2, f2⟩ := set_hd d1 2 (.int .i64 seq')
  have f := f1.trans f2 (fun _ _ q => q)
  obtain ⟨D, hD, hI⟩ := map
  refine ⟨⟨d2, ?_, ⟨D, f.map hD (fun e => ne e.symm), hI⟩, ne⟩, f⟩
  exact Kd.R_step row (fun k hk hlt => f.block k hlt hk.1)
theorem eqlNil (w : World) : (binOp .eql 121 (.map none) (.map none)).run Try.prog w = .ok (.bool true) w := by kernel_rfl
theorem eqlSome (b : Nat) (w : World) : (binOp .eql 121 (.map (some b)) (.map none)).run Try.prog w = .ok (.bool false) w := by kernel_rfl
theorem put_num {N M s m len : Nat} (hb : N + M + 3 ≤ 1000000) (hs : s ≤ M) (hl : len ≤ M) (hm : m = len + 1) : wrap64 ((s : Int) + 1) = ((s + 1 : Nat) : Int) ∧ wrap64 ((m : Int) - 1) = (len : Int) ∧ (len + 1) * 32 ≤ 140737488355328 := by
  refine ⟨?_, ?_, by omega⟩
  · rw [wrap_nat (by omega) (by omega)]; rfl
  · rw [wrap_nat (by omega) (by omega)]; omega
theorem put_b1 {N M n len : Nat} (hb : N + M + 3 ≤ 1000000) (hn : n ≤ N) (hl : len ≤ M) : n + (len + 1) + 1 ≤ 1000000 := by omega
theorem put_b2 {N M n n' len : Nat} (hn : n ≤ N) (hl : len ≤ M) (h : n' ≤ n + (len + 1) + 1) : n' ≤ N + M + 2 := by omega
set_option maxRecDepth 100000 in
set_option maxHeartbeats 8000000 in
theorem put_any {w : World} {h N M seq : Nat} {F : Nat → Prop} {l : List (It ByteArray)} (H : HpAt w h F N M l seq) (when : Int) (x : ByteArray) (hx : wfk x) (hb : N + M + 3 ≤ 1000000) :
    Calls Try.prog 66 #[.pointer (some ⟨h, 0, none⟩), .int .i64 when, .string x] w fun e w' => e = .returned (.bool (!hasX l x)) ∧
      ∃ F', HpAt w' h F' (N + M + 2) (M + 1) (if hasX l x then l else upP (l ++ [⟨when, (seq : Int), x⟩]) l.length) (if hasX l x then seq else seq + 1) ∧ Fr F w w' ∧ ∀ k, F' k → F k ∨ w.heap.size ≤ k := by
  have HN := Aside0.mk hb
  clear hb
  obtain ⟨A, c, mv, hd, hlk, hmv⟩ := look_at H hx
  obtain ⟨z, hrun, hz⟩ := hlk w (Fr.refl _ _)
  clear hz hlk
  have h1 : w.cell? ⟨h, 1, none⟩ = some mv := cell_of_heap hd rfl
  cases hX : hasX l x with
  | true =>
    rw [hX] at hrun
    go_enter Try.func66, Try.ntmps66
    go_wp2_with (first
      | (at_lookup; refine wpList_lookup_run w rfl (.tmp 15) (.tmp 16) 121 true rfl rfl rfl hrun ?_)
      | fail)
    go_ret
    exact ⟨rfl, F, H.more (by omega) (by omega), Fr.refl _ _, fun k hk => .inl hk⟩
  | false =>
    rw [hX] at hrun
    have hmm := @run_makeMap Try.prog
    have HL := Aside0.mk H.1
    have HS := Aside0.mk H.2.1
    have HA := Aside0.mk H.2.2.1
    have HW := Aside0.mk H.2.2.2.1
    obtain ⟨B, hB⟩ : ∃ B : Bool, B = true ↔ mv = .map none := by
      by_cases q : mv = .map none
      · exact ⟨true, by simp [q]⟩
      · exact ⟨false, by simp [q]⟩
    go_enter Try.func66, Try.ntmps66
    go_upto_region 6 with (first
      | (at_lookup; refine wpList_lookup_run w rfl (.tmp 15) (.tmp 16) 121 true rfl rfl rfl hrun ?_)
      | fail)
    go_cut [25] (fun v25 wc => v25 = .bool B ∧ wc = w)
    case first =>
      rcases hmv with ⟨e2, _⟩ | ⟨mb, n, g, e2, _⟩
      · have e3 : B = true := hB.2 e2
        rw [e2] at h1
        have q1 := eqlNil
        have q2 := eqlSome
        go_wp2
        go_meet
        case rel => exact ⟨by rw [e3], rfl⟩
      · have e3 : B = false := by
          cases B
          · rfl
          · have := hB.1 rfl; rw [e2] at this; cases this
        rw [e2] at h1
        have q1 := eqlNil
        have q2 := eqlSome
        go_wp2
        go_meet
        case rel => exact ⟨by rw [e3], rfl⟩
    case rest =>
      obtain ⟨rfl, rfl⟩ := hcut
      obtain ⟨w0, hw0⟩ : ∃ w0, w0 = wc := ⟨_, rfl⟩
      go_upto_if 25 with (fail)
      go_cut [] (fun wd => ∃ v mb n g, n ≤ N ∧ Raw wd h v mb n (seq : Int) l g ∧ AtFull g l ∧ Fr F wc wd ∧ ∀ k, foot h v mb k → F k ∨ wc.heap.size ≤ k)
      case first =>
        rcases hmv with ⟨e2, e4, e5, e6, e7⟩ | ⟨mb, n, g, e2, hnN, R, hg, e7⟩
        · have e3 : B = true := hB.2 e2
          subst e3
          have hlt : h < wc.heap.size := (Array.getElem?_eq_some_iff.1 hd).1
          rw [e2, e4, e5] at hd
          have hda : (wc.alloc (.map #[] 0)).heap[h]? = some (.cells #[.slice none l.length 0, .map none, .int .i64 (seq : Int)] 123 (0, 0)) := by rw [heap_alloc_old _ _ hlt]; exact hd
          have f1 : (wc.alloc (.map #[] 0)).cell? ⟨h, 1, none⟩ = some (.map none) := cell_of_heap hda rfl
          have f2 : (wc.alloc (.map #[] 0)).frozen? ⟨h, 1, none⟩ = false := hd_frozen hda 1
          go_wp2
          go_meet
          case rel =>
            obtain ⟨d1, g1⟩ := set_hd hd 1 (.map (some wc.heap.size))
            have hne : h ≠ wc.heap.size := Nat.ne_of_lt hlt
            obtain ⟨W, hW⟩ : ∃ W, wc.setCell ⟨h, 1, none⟩ (.map (some wc.heap.size)) = W := ⟨_, rfl⟩
            have hWs : W.heap.size = wc.heap.size := by rw [← hW]; simp [World.setCell]
            rw [hW] at d1 g1 ⊢
            have hltW : h < W.heap.size := by rw [hWs]; exact hlt
            refine ⟨.slice none 0 0, wc.heap.size, 0, fun _ => none, Nat.zero_le _, ⟨?_, ?_, ⟨.map [], ?_, ⟨isMap_empty, fun y => ⟨rfl, rfl⟩⟩⟩, hne⟩, ?_, ?_, ?_⟩
            · rw [heap_alloc_old _ _ hltW, d1, e6]; rfl
            · rw [e6]; exact Kd.R_nil _ _ _ _ _
            · rw [← hWs]; exact World.ownsMap_made W _ _ _
            · intro y; rw [e6]; rfl
            · rw [e7]; exact g1.alloc _
            · rintro k (rfl | rfl | hk)
              · exact .inl (by rw [e7])
              · exact .inr (Nat.le_refl _)
              · simp [Value.ownBlock] at hk
        · have e3 : B = false := by
            cases B
            · rfl
            · have := hB.1 rfl; rw [e2] at this; cases this
          subst e3
          go_wp2
          go_meet
          case rel => exact ⟨_, mb, n, g, hnN, R, hg, Fr.refl _ _, fun k hk => .inl (by rw [e7]; exact hk)⟩
      case rest =>
        subst hw0
        obtain ⟨v, mb, n, g, hnN, R, hg, hFr, hft⟩ := hcut
        obtain ⟨A2, c2, rfl⟩ := Kd.R_slice R.row
        obtain ⟨p, hp⟩ : ∃ p : It ByteArray, p = ⟨when, (seq : Int), x⟩ := ⟨_, rfl⟩
        have d0 : wc.cell? ⟨h, 0, none⟩ = some (.slice A2 l.length c2) := cell_of_heap R.hd rfl
        have d2 : wc.cell? ⟨h, 2, none⟩ = some (.int .i64 (seq : Int)) := cell_of_heap R.hd rfl
        obtain ⟨m, hm⟩ : ∃ m, (l ++ [p]).length = m := ⟨_, rfl⟩
        obtain ⟨n1, n2, n3⟩ := put_num HN.out HS.out HL.out (show m = l.length + 1 from by rw [← hm]; simp)
        have N3 := Aside0.mk n3
        clear n3
        have hltm := R.lt mb (.inr (.inl rfl))
        have hlth := R.lt h (.inl rfl)
        go_wp2
        have hda : (wc.drew.alloc (.cells #[.int .i64 when, .int .i64 (seq : Int), .string x] 148)).heap[h]? = some (.cells #[.slice A2 l.length c2, .map (some mb), .int .i64 (seq : Int)] 123 (0, 0)) := by rw [heap_alloc_old _ _ (show h < wc.drew.heap.size from hlth)]; exact R.hd
        have e0 : (wc.drew.alloc (.cells #[.int .i64 when, .int .i64 (seq : Int), .string x] 148)).cell? ⟨h, 0, none⟩ = some (.slice A2 l.length c2) := cell_of_heap hda rfl
        have hrow0 : Kd.R kI 148 wc.drew 0 (fun k => k ≠ h ∧ k ≠ mb) (.slice A2 l.length c2) l := R.row
        have hM : kI.M wc.drew 0 (fun _ => False) p [.int .i64 when, .int .i64 (seq : Int), .string x] := by have := kI_mkM wc.drew 0 (fun _ => False) p; rw [hp] at this ⊢; exact this
        have hTail : ∀ (w1 : World) (A1 : Option Addr) (c1 : Nat), w1.heap[h]? = some (.cells #[.slice A2 l.length c2, .map (some mb), .int .i64 (seq : Int)] 123 (0, 0)) → Kd.R kI 148 w1 0 (fun k => k ≠ h ∧ k ≠ mb) (.slice A1 m c1) (l ++ [p]) → wc.drew.grownBy w1 (Value.slice A2 l.length c2).ownBlock →
            ((Value.slice A1 m c1).ownBlock = (Value.slice A2 l.length c2).ownBlock ∨ ∃ b, (Value.slice A1 m c1).ownBlock = some b ∧ wc.drew.heap.size ≤ b) →
            Aside0 (Calls Try.prog 85 #[.pointer (some ⟨h, 0, none⟩), .int .i64 (l.length : Int)] ((w1.setCell ⟨h, 0, none⟩ (.slice A1 m c1)).setCell ⟨h, 2, none⟩ (.int .i64 ((seq : Int) + 1))) fun e w' => e = .returned (.tuple #[]) ∧ ∃ F', HpAt w' h F' (N + M + 2) (M + 1) (upP (l ++ [p]) l.length) (seq + 1) ∧ Fr F w0 w' ∧ ∀ k, F' k → F k ∨ w0.heap.size ≤ k) := by
          intro w1 A1 c1 hd1 hrow1 hg1 hat1
          obtain ⟨D, hD, hI⟩ := R.map
          have hXp : hasX l p.f2 = false := by rw [hp]; exact hX
          have hwp : wfk p.f2 := by rw [hp]; exact hx
          have hgl : gd (l ++ [p]) l.length = p := by rw [gd_snoc, if_neg (Nat.lt_irrefl _), if_pos rfl]
          obtain ⟨R2, F2⟩ := Raw.stored (seq' := (seq : Int) + 1) hd1 hrow1 ⟨D, hD.drew.kept hg1 (fun e => (R.row.1 mb e.symm).2 rfl), hI⟩ R.ne
          have hap := apart_snoc HA.out hXp
          have hll : l.length < (l ++ [p]).length := by rw [List.length_append, List.length_singleton]; exact Nat.lt_succ_self _
          have hwf : ∀ j, j < (l ++ [p]).length → wfk (gd (l ++ [p]) j).f2 := fun j hj => by
            rw [gd_snoc]
            split
            · rename_i q_; exact HW.out j q_
            · split
              · exact hwp
              · rename_i q1 q2
                rw [List.length_append, List.length_singleton] at hj
                omega
          have hFm : ∀ k, k < w0.heap.size → foot h (.slice A1 m c1) mb k → F k := by
            intro k hk hf
            rcases hf with rfl | rfl | hf
            · exact (hft k (.inl rfl)).resolve_right (Nat.not_le.2 hk)
            · exact (hft k (.inr (.inl rfl))).resolve_right (Nat.not_le.2 hk)
            · rcases hat1 with q_ | ⟨b, q_, hb⟩
              · exact (hft k (.inr (.inr (q_ ▸ hf)))).resolve_right (Nat.not_le.2 hk)
              · rw [q_] at hf
                obtain rfl := Option.some.inj hf
                exact absurd (Nat.le_trans hFr.size hb) (Nat.not_le.2 hk)
          refine Aside0.mk ((up_any R2 hll hap (by rw [hgl]; exact but_snoc HA.out hXp hg) hwf (by rw [List.length_append, List.length_singleton]; exact put_b1 HN.out hnN HL.out)).mono ?_)
          rintro e w' ⟨rfl, n', g', hn', R', hg', F3⟩
          rw [List.length_append, List.length_singleton] at hn'
          refine ⟨rfl, foot h (.slice A1 m c1) mb, ⟨?_, Nat.succ_le_succ HS.out, upP_apart hll hap, upP_all (P := fun e => wfk e.f2) hll hwf, .inr ⟨_, mb, n', g', put_b2 hnN HL.out hn', R', hg', rfl⟩⟩, ?_, ?_⟩
          · rw [upP_len _ _ hll, List.length_append, List.length_singleton]; exact Nat.succ_le_succ HL.out
          · have G1 : Fr F w0 w1 := hFr.trans (G := fun k => foot h (.slice A2 l.length c2) mb k) (Fr.of_grown (w := wc) (row := (Value.slice A2 l.length c2).ownBlock) ⟨hg1.os, hg1.tape, hg1.output, hg1.size, hg1.block⟩ (fun k hk => .inr (.inr hk))) (fun k hk hf => (hft k hf).resolve_right (Nat.not_le.2 hk))
            exact (G1.trans F2 (fun k hk q_ => hFm k hk (.inl q_))).trans F3 hFm
          · intro k hf
            rcases Nat.lt_or_ge k w0.heap.size with hk | hk
            · exact .inl (hFm k hk hf)
            · exact .inr hk
        go_region_law (refine Kd.R_append_step kI (w0 := wc.drew) (W := wc.drew) 0 (by simp [Region.wanted]) (.tmp 34) (.tmp 42) 120 148 (.agg #[(.int .i64 0), (.int .i64 0), (.string ⟨#[]⟩)]) 32 rfl Try.underlying120 infoI rfl (by decide) (by decide) (.slice A2 l.length c2) l p [.int .i64 when, .int .i64 (seq : Int), .string x] (fun k => k ≠ h ∧ k ≠ mb) (fun _ => False) (by simp [Act.eval, Act.put]) (by simp [Act.eval, Act.put]) hM (fun _ q => q.elim) (fun k hk => ⟨fun e => absurd (show k < wc.heap.size from e ▸ hlth) (Nat.not_lt.2 hk), fun e => absurd (show k < wc.heap.size from e ▸ hltm) (Nat.not_lt.2 hk)⟩) hrow0 ⟨rfl, rfl, rfl, Nat.le_refl _, fun _ hk => absurd hk (Nat.not_lt_zero _)⟩ (Nat.zero_le _) N3.out ?_; intro v1 w1 hrow1 hB1 hg1 hat1; obtain ⟨A1, c1, e1_⟩ := Kd.R_slice hrow1; subst e1_; have hd1 : w1.heap[h]? = some (.cells #[.slice A2 l.length c2, .map (some mb), .int .i64 (seq : Int)] 123 (0, 0)) := (hg1.block h hlth (fun e => (R.row.1 h e.symm).1 rfl)).trans R.hd; have q0 : w1.cell? ⟨h, 0, none⟩ = some (.slice A2 l.length c2) := cell_of_heap hd1 rfl; have q2 : w1.cell? ⟨h, 2, none⟩ = some (.int .i64 (seq : Int)) := cell_of_heap hd1 rfl; have z0 : w1.frozen? ⟨h, 0, none⟩ = false := hd_frozen hd1 0; have z2 : w1.frozen? ⟨h, 2, none⟩ = false := hd_frozen hd1 2; rw [hm])
        all_goals (clear d0 d2 e0)
        all_goals go_wp2_with (first
          | (go_at_call 85; refine ((hTail w1 A1 c1 hd1 (hm ▸ hrow1) hg1 (hm ▸ hat1)).out).mono ?_; rintro e w2 ⟨rfl, hfin⟩)
          | fail)
        all_goals go_ret
        all_goals exact ⟨rfl, by rw [← hp]; exact hfin⟩
end Go.Proofs.Ytkegdcnnankokaa.Hps

/-
heap.Heap[string]'s remove, walked.
-/
namespace Go.Proofs.Ytkegdcnnankokaa.Hps
set_option linter.unusedVariables false
set_option linter.unusedSimpArgs false
open Go.Maps Go.RowKit Go.Proofs.YtkegdcnnankokaaW.PrintWords Go.Proofs.YtkegdcnnankokaaW.PrintLast Go.Proofs.YtkegdcnnankokaaW.PrintMore Hp
theorem rem_num {N M len : Nat} (hb : N + 2 * M + 4 ≤ 1000000) (hl : len ≤ M) (h0 : 0 < len) : wrap64 ((len : Int) - 1) = ((len - 1 : Nat) : Int) := by
  rw [wrap_nat (by omega) (by omega)]; omega
theorem rem_b1 {N M n la : Nat} (hb : N + 2 * M + 4 ≤ 1000000) (hn : n ≤ N) (hl : la ≤ M) : n ≤ 1000000 ∧ la ≤ 1000000 ∧ (n + 1) + la + 1 ≤ 1000000 := by omega
theorem rem_b2 {N M n n6 la : Nat} (hb : N + 2 * M + 4 ≤ 1000000) (hn : n ≤ N) (hl : la + 1 ≤ M) (h6 : n6 ≤ (n + 1) + la + 1) : n6 + la + 1 ≤ 1000000 := by omega
theorem rem_b3 {N M n n6 n7 la : Nat} (hn : n ≤ N) (hl : la + 1 ≤ M) (h6 : n6 ≤ (n + 1) + la + 1) (h7 : n7 ≤ n6 + la + 1) : n7 ≤ N + 2 * M + 3 := by omega
theorem results_cell1 {P : Program} {fn : Func} {p : Tmp} {ty : TypeId} (h : fn.results = #[.cell p ty]) (tmps : Array Value) (w : World) (g : Nat) (t : TypeId) (cs : Array Value) (fr : Nat × Nat) (d : TypeDesc)
    (hp : tmps.getD p undef = .pointer (some ⟨g, 0, none⟩)) (hg : w.heap[g]? = some (.cells cs t fr))
    (hu : P.underlying ty = some d) (hd : (match d with | .struct _ | .array _ _ => true | _ => false) = true) (hi : (P.info? ty).map (·.size) = some cs.size) :
    (results fn tmps).run P w = .ok (.agg cs) w := by
  have hp' : tmps[p]?.getD undef = .pointer (some ⟨g, 0, none⟩) := by simpa using hp
  simp [results, h, hp', asAddr, run_loadVar_row w g t ty cs fr d hg hu hd hi]
/-- a box is written whole. -/
theorem box3 {w : World} {b : Nat} {u0 u1 u2 : Value} {t : TypeId} (hb : w.heap[b]? = some (.cells #[u0, u1, u2] t (0, 0))) (x0 x1 x2 : Value) :
    (((w.setCell ⟨b, 0, none⟩ x0).setCell ⟨b, 1, none⟩ x1).setCell ⟨b, 2, none⟩ x2).heap[b]? = some (.cells #[x0, x1, x2] t (0, 0)) ∧ Fr (fun k => k = b) w (((w.setCell ⟨b, 0, none⟩ x0).setCell ⟨b, 1, none⟩ x1).setCell ⟨b, 2, none⟩ x2) := by
  obtain ⟨h0, f0⟩ := set_hd hb 0 x0
  obtain ⟨h1, f1⟩ := set_hd h0 1 x1
  obtain ⟨h2, f2⟩ := set_hd h1 2 x2
  exact ⟨h2, (f0.trans f1 (fun _ _ q => q)).trans f2 (fun _ _ q => q)⟩
set_option maxRecDepth 100000 in
set_option maxHeartbeats 8000000 in
theorem remove_any {w : World} {h N M seq : Nat} {F : Nat → Prop} {l : List (It ByteArray)} (H : HpAt w h F N M l seq) {i : Nat} (hi : i < l.length) (hb : N + 2 * M + 4 ≤ 1000000) :
    Calls Try.prog 87 #[.pointer (some ⟨h, 0, none⟩), .int .i64 (i : Int)] w fun e w' => e = .returned (.agg #[.int .i64 (gd l i).f0, .int .i64 (gd l i).f1, .string (gd l i).f2]) ∧
      ∃ F', HpAt w' h F' (N + 2 * M + 3) M (removeP l i) seq ∧ Fr F w w' ∧ ∀ k, F' k → F k ∨ w.heap.size ≤ k := by
  have hl0 : 0 < l.length := by omega
  obtain ⟨aL, aS, hA, hW, ⟨rfl, _⟩ | ⟨v, mb, n, g, hnN, R, hg, rfl⟩⟩ := H
  · simp at hi
  obtain ⟨q, cap, rfl, _, hql, cells, hqc⟩ := Kd.R_form R.row hl0
  obtain ⟨hnum⟩ : Nonempty (wrap64 ((l.length : Int) - 1) = ((l.length - 1 : Nat) : Int)) := ⟨rem_num hb aL hl0⟩
  obtain ⟨la, hla⟩ : ∃ la, l.length - 1 = la := ⟨_, rfl⟩
  rw [hla] at hnum
  have hll : la < l.length := by omega
  obtain ⟨x, hx⟩ : ∃ x, gd l i = x := ⟨_, rfl⟩
  obtain ⟨y, hy⟩ : ∃ y, gd l la = y := ⟨_, rfl⟩
  have HN := Aside0.mk hb
  have HL := Aside0.mk aL
  have HS := Aside0.mk aS
  clear hb aL aS
  go_enter Try.func87, Try.ntmps87
  go_upto_region 1 with (fail)
  obtain ⟨W0, hW0⟩ : ∃ W0, w.alloc (.cells #[.int .i64 0, .int .i64 0, .string ⟨#[]⟩] 148) = W0 := ⟨_, rfl⟩
  obtain ⟨b4, hb4⟩ : ∃ b4, w.heap.size = b4 := ⟨_, rfl⟩
  have F0 : Fr (fun _ => False) w W0 := hW0 ▸ Fr.of_below _ ((Below.refl w.heap.size w).alloc (Nat.le_refl _) _)
  have z4 : W0.heap[b4]? = some (.cells #[.int .i64 0, .int .i64 0, .string ⟨#[]⟩] 148 (0, 0)) := by rw [← hW0, ← hb4]; exact Array.getElem?_push_size
  rw [hW0, hb4]
  clear hW0
  have R0 := R.kept F0 (fun _ _ q => q)
  obtain ⟨a0, a1, a2⟩ := R0.at3 hi
  rw [hx] at a0 a1 a2
  have d0 : W0.cell? ⟨h, 0, none⟩ = some (.slice (some ⟨q, 0, none⟩) l.length cap) := cell_of_heap R0.hd rfl
  go_upto_region 2 with (fail)
  obtain ⟨W1, hW1⟩ : ∃ W1, W0.alloc (.cells #[.int .i64 x.f0, .int .i64 x.f1, .string x.f2] 148) = W1 := ⟨_, rfl⟩
  obtain ⟨b5, hb5⟩ : ∃ b5, W0.heap.size = b5 := ⟨_, rfl⟩
  have F1 : Fr (fun _ => False) W0 W1 := hW1 ▸ Fr.of_below _ ((Below.refl W0.heap.size W0).alloc (Nat.le_refl _) _)
  have z5 : W1.heap[b5]? = some (.cells #[.int .i64 x.f0, .int .i64 x.f1, .string x.f2] 148 (0, 0)) := by rw [← hW1, ← hb5]; exact Array.getElem?_push_size
  rw [hW1, hb5]
  clear hW1
  have R1 := R0.kept F1 (fun _ _ q => q)
  clear a0 a1 a2 d0
  obtain ⟨a0, a1, a2⟩ := R1.at3 hll
  rw [hy] at a0 a1 a2
  have d0 : W1.cell? ⟨h, 0, none⟩ = some (.slice (some ⟨q, 0, none⟩) l.length cap) := cell_of_heap R1.hd rfl
  go_upto_region 4 with (fail)
  obtain ⟨W2, hW2⟩ : ∃ W2, W1.alloc (.cells #[.int .i64 y.f0, .int .i64 y.f1, .string y.f2] 148) = W2 := ⟨_, rfl⟩
  obtain ⟨b7, hb7⟩ : ∃ b7, W1.heap.size = b7 := ⟨_, rfl⟩
  have F2 : Fr (fun _ => False) W1 W2 := hW2 ▸ Fr.of_below _ ((Below.refl W1.heap.size W1).alloc (Nat.le_refl _) _)
  have z7 : W2.heap[b7]? = some (.cells #[.int .i64 y.f0, .int .i64 y.f1, .string y.f2] 148 (0, 0)) := by rw [← hW2, ← hb7]; exact Array.getElem?_push_size
  rw [hW2, hb7]
  clear hW2
  have R2 := R1.kept F2 (fun _ _ q => q)
  clear a0 a1 a2 d0
  have d0 : W2.cell? ⟨h, 0, none⟩ = some (.slice (some ⟨q, 0, none⟩) l.length cap) := cell_of_heap R2.hd rfl
  have f0 : W2.frozen? ⟨h, 0, none⟩ = false := hd_frozen R2.hd 0
  obtain ⟨iI, hiI, _, _, _⟩ := info_parts infoI
  have hroom : l.length ≤ cap := (Kd.R_reads' R2.row).2.1
  have hcut := cut_to (P := Try.prog) 120 148 .i64 Try.underlying120 hiI (some ⟨q, 0, none⟩) l.length cap (la : Int) (Int.natCast_nonneg _) (Int.ofNat_le.2 (Nat.le_of_lt hll)) hroom
  rw [Int.toNat_natCast] at hcut
  go_upto_region 5 with (fail)
  simp only [hnum]
  obtain ⟨W3, hW3⟩ : ∃ W3, W2.setCell ⟨h, 0, none⟩ (.slice (some ⟨q, 0, none⟩) la cap) = W3 := ⟨_, rfl⟩
  obtain ⟨d3, f3⟩ := set_hd R2.hd 0 (.slice (some ⟨q, 0, none⟩) la cap)
  rw [hW3] at d3 f3 ⊢
  clear hW3 d0 f0
  obtain ⟨D, hD, hI⟩ := R2.map
  have hD3 := f3.map hD (fun e => R2.ne e.symm)
  have hrow3 : Kd.R kI 148 W3 0 (fun k => k ≠ h ∧ k ≠ mb) (.slice (some ⟨q, 0, none⟩) la cap) (l.take la) := Kd.R_step (Kd.R_take R2.row (Nat.le_of_lt hll)) (fun k hk hlt => f3.block k hlt hk.1)
  have hq := R.row.1 q (by simp [Value.ownBlock])
  have h45 : b4 ≠ b5 := by have := F0.size; have := z4; have h8 : b4 < W0.heap.size := (Array.getElem?_eq_some_iff.1 z4).1; omega
  have hlt4 : ∀ k, foot h (.slice (some ⟨q, 0, none⟩) l.length cap) mb k → k < b4 := fun k hk => by rw [← hb4]; exact R.lt k hk
  have h4k : ¬ foot h (.slice (some ⟨q, 0, none⟩) l.length cap) mb b4 := fun hf => Nat.lt_irrefl _ (hlt4 _ hf)
  have hb45 : b4 < b5 := by have h8 : b4 < W0.heap.size := (Array.getElem?_eq_some_iff.1 z4).1; omega
  have hb47 : b5 < b7 := by have h8 : b5 < W1.heap.size := (Array.getElem?_eq_some_iff.1 z5).1; omega
  have h5k : ¬ foot h (.slice (some ⟨q, 0, none⟩) l.length cap) mb b5 := fun hf => by have := hlt4 _ hf; omega
  have h7k : ¬ foot h (.slice (some ⟨q, 0, none⟩) l.length cap) mb b7 := fun hf => by have := hlt4 _ hf; omega
  have F3 : Fr (foot h (.slice (some ⟨q, 0, none⟩) l.length cap) mb) w W3 := ((((F0.mono (fun _ _ q => q.elim)).trans F1 (fun _ _ q => q.elim)).trans F2 (fun _ _ q => q.elim)).trans f3 (fun k _ e => .inl e))
  have y4 : W3.heap[b4]? = some (.cells #[.int .i64 0, .int .i64 0, .string ⟨#[]⟩] 148 (0, 0)) := f3.heap (F2.heap (F1.heap z4 (fun q => q)) (fun q => q)) (fun e => h4k (.inl e))
  have y5 : W3.heap[b5]? = some (.cells #[.int .i64 x.f0, .int .i64 x.f1, .string x.f2] 148 (0, 0)) := f3.heap (F2.heap z5 (fun q => q)) (fun e => h5k (.inl e))
  have y7 : W3.heap[b7]? = some (.cells #[.int .i64 y.f0, .int .i64 y.f1, .string y.f2] 148 (0, 0)) := f3.heap z7 (fun e => h7k (.inl e))
  have e1 : W3.cell? ⟨h, 1, none⟩ = some (.map (some mb)) := cell_of_heap d3 rfl
  have e2 : W3.cell? ⟨b5, 2, none⟩ = some (.string x.f2) := cell_of_heap y5 rfl
  have hxw : wfk x.f2 := hx ▸ hW i hi
  have hyw : wfk y.f2 := hy ▸ hW la hll
  go_wp2
  refine region_tail 6 (by kernel_rfl) (by kernel_rfl) _ rfl ?_
  simp only [List.take_succ_cons, List.take_zero, List.drop_succ_cons, List.drop_zero]
  repeat still_step
  refine wpStill_nil ?_
  refine wpList_delete_own W3.drew rfl (.tmp 40) (.tmp 42) 121 9 rfl 3 lawK Try.underlying121 (plainElem Try.prog 3) mb n D rfl hD3.drew _ (Lit.string (x.f2).data.toList) rfl (key_of hxw) ?_
  intro w4 hD4 hturn4
  have f4 : Fr (fun k => k = mb) W3 w4 := by
    have hg4 := hturn4.grown
    exact Fr.of_grown (w := W3) ⟨hg4.os, hg4.tape, hg4.output, hg4.size, hg4.block⟩ (fun k hk => by injection hk with hk; exact hk.symm)
  have R4 : Raw w4 h (.slice (some ⟨q, 0, none⟩) la cap) mb n (seq : Int) (l.take la) (gset g x.f2 none) := ⟨f4.heap d3 R2.ne, Kd.R_step hrow3 (fun k hk hlt => f4.block k hlt hk.2), ⟨_, hD4, idx_del hI x.f2⟩, R2.ne⟩
  have F4 : Fr (foot h (.slice (some ⟨q, 0, none⟩) l.length cap) mb) w w4 := F3.trans f4 (fun k _ e => .inr (.inl e))
  have x4 := f4.heap y4 (fun e => h4k (.inr (.inl e)))
  have x5 := f4.heap y5 (fun e => h5k (.inr (.inl e)))
  have x7 := f4.heap y7 (fun e => h7k (.inr (.inl e)))
  clear e1 e2 y4 y5 y7
  have hfoot : foot h (.slice (some ⟨q, 0, none⟩) la cap) mb = foot h (.slice (some ⟨q, 0, none⟩) l.length cap) mb := rfl
  have hlM : la + 1 ≤ M := by have := HL.out; omega
  by_cases hil : i < la
  · have hd : decide ((i : Int) < (la : Int)) = true := by simpa using hil
    have hil' : i < l.length - 1 := by rw [hla]; exact hil
    obtain ⟨L, hL⟩ : ∃ L, (l.take la).set i y = L := ⟨_, rfl⟩
    have hcl : (l.take (l.length - 1)).set i (gd l (l.length - 1)) = L := by rw [hla, hy]; exact hL
    have hLl : L.length = la := by rw [← hL, List.length_set, List.length_take]; omega
    have hLi : gd L i = y := by rw [← hcl, gd_cut hil', if_pos rfl, hla]; exact hy
    have hLA : Apart L := hcl ▸ apart_cut hA hil'
    have hLF : AtFull (gset (gset g x.f2 none) y.f2 (some (i : Int))) L := by
      have := full_cut hA hg hil'
      rw [hcl, hla, hx, hy] at this
      exact this
    have hLW : ∀ j, j < L.length → wfk (gd L j).f2 := fun j hj => by
      rw [hLl] at hj
      rw [← hcl, gd_cut hil']
      split
      · rw [hla, hy]; exact hyw
      · split
        · exact hW j (by omega)
        · omega
    have hiL : i < L.length := by rw [hLl]; exact hil
    have hit : i < (l.take la).length := by rw [List.length_take]; omega
    have htl : (l.take la).length = la := by rw [List.length_take]; omega
    obtain ⟨B1, B2, B3⟩ := rem_b1 HN.out hnN (Nat.le_of_succ_le hlM)
    have hSet := Aside0.mk (set_any R4 hit y hyw B1 (by rw [htl]; exact B2))
    have hUp := fun (w5 : World) (R5 : Raw w5 h (.slice (some ⟨q, 0, none⟩) la cap) mb (n + 1) (seq : Int) L (gset (gset g x.f2 none) y.f2 (some (i : Int)))) => Aside0.mk (up_any R5 hiL hLA (fun z _ => hLF z) hLW (by rw [hLl]; exact B3))
    have B4 := Aside0.mk (And.intro hlM hnN)
    clear B1 B2 B3 hlM
    have c0 : w4.cell? ⟨b7, 0, none⟩ = some (.int .i64 y.f0) := cell_of_heap x7 rfl
    have c1 : w4.cell? ⟨b7, 1, none⟩ = some (.int .i64 y.f1) := cell_of_heap x7 rfl
    have c2 : w4.cell? ⟨b7, 2, none⟩ = some (.string y.f2) := cell_of_heap x7 rfl
    go_upto_region 9 with (first
      | (go_at_call 99; refine (hSet.out).mono ?_; rintro e w5 ⟨rfl, R5, F5⟩; rw [hL] at R5)
      | (go_at_call 85; refine ((hUp w5 R5).out).mono ?_; rintro e w6 ⟨rfl, n6, g6, hn6, R6, hg6, F6⟩)
      | fail)
    rw [hfoot] at F5 F6
    have F46 := F5.trans F6 (fun _ _ q => q)
    have v4 := F46.heap x4 h4k
    have v5 := F46.heap x5 h5k
    have v7 := F46.heap x7 h7k
    obtain ⟨U, hU⟩ : ∃ U, upP L i = U := ⟨_, rfl⟩
    have hUl : U.length = la := by rw [← hU, upP_len L i hiL, hLl]
    have hUA : Apart U := hU ▸ upP_apart hiL hLA
    have hUW : ∀ j, j < U.length → wfk (gd U j).f2 := by rw [← hU]; exact upP_all (P := fun e => wfk e.f2) hiL hLW
    obtain ⟨k, hk, hky⟩ := upP_has hiL ⟨i, hiL, congrArg It.f2 hLi⟩
    rw [hU] at R6 hg6 hk hky
    have hpk : posN U y.f2 = k := pos_in hUA hk hky
    have hrem : removeP l i = downP U k := by unfold removeP; rw [if_pos hil', hcl, hla, hy, hU, hpk]
    obtain ⟨D6, hD6, hI6⟩ := R6.map
    obtain ⟨cc, hrun, hat, _⟩ := hD6.drew.lookup_int lawK Try.underlying121 Try.underlying3 (zeroV w6.drew) (key_of hyw)
    have hcc : cc = (k : Int) := by
      have h1 := (hI6.2 y.f2).2
      rw [hat, hg6, posO_eq hUA hk hky] at h1
      injection h1 with h1
      injection h1 with _ h1
    rw [hcc] at hrun
    have hDn := fun (w7 : World) (R7 : Raw w7 h (.slice (some ⟨q, 0, none⟩) la cap) mb n6 (seq : Int) U g6) => Aside0.mk (down_any R7 hk hUA (fun z _ => hg6 z) hUW (by rw [hUl]; rw [hLl] at hn6; exact rem_b2 HN.out hnN B4.out.1 hn6))
    have e1 : w6.cell? ⟨h, 1, none⟩ = some (.map (some mb)) := cell_of_heap R6.hd rfl
    have e2 : w6.cell? ⟨b7, 2, none⟩ = some (.string y.f2) := cell_of_heap v7 rfl
    refine region_tail 8 (by kernel_rfl) (by kernel_rfl) _ rfl ?_
    simp only [List.take_succ_cons, List.take_zero, List.drop_succ_cons, List.drop_zero]
    repeat still_step
    refine wpStill_nil ?_
    go_wp2_with (first
      | (go_at_call 100; refine ((hDn w6.drew R6.drew).out).mono ?_; rintro e w7 ⟨rfl, n7, g7, hn7, R7, hg7, F7⟩; have F67 := ((Fr.refl (foot h (.slice (some ⟨q, 0, none⟩) la cap) mb) w6).drew).trans F7 (fun _ _ q => q); rw [hfoot] at F67; have u4 := F67.heap v4 h4k; have u5 := F67.heap v5 h5k; have p0 : w7.cell? ⟨b5, 0, none⟩ = some (.int .i64 x.f0) := cell_of_heap u5 rfl; have p1 : w7.cell? ⟨b5, 1, none⟩ = some (.int .i64 x.f1) := cell_of_heap u5 rfl; have p2 : w7.cell? ⟨b5, 2, none⟩ = some (.string x.f2) := cell_of_heap u5 rfl; have r0 : w7.cell? ⟨b4, 0, none⟩ = some (.int .i64 0) := cell_of_heap u4 rfl; have r1 : w7.cell? ⟨b4, 1, none⟩ = some (.int .i64 0) := cell_of_heap u4 rfl; have r2 : w7.cell? ⟨b4, 2, none⟩ = some (.string ⟨#[]⟩) := cell_of_heap u4 rfl; have s0 := hd_frozen u4 0; have s1 := hd_frozen u4 1; have s2 := hd_frozen u4 2)
      | fail)
    obtain ⟨zz, Fz⟩ := box3 u4 (.int .i64 x.f0) (.int .i64 x.f1) (.string x.f2)
    rw [hUl] at hn7
    rw [hLl] at hn6
    have hkU : (downP U k).length = la := by rw [downP_len U k hk, hUl]
    refine bodyPost_ret (results_cell1 rfl _ _ b4 148 #[.int .i64 x.f0, .int .i64 x.f1, .string x.f2] (0, 0) _ rfl zz Try.underlying148 rfl (by kernel_rfl)) rfl ⟨by rw [hx], foot h (.slice (some ⟨q, 0, none⟩) la cap) mb, ⟨?_, HS.out, ?_, ?_, .inr ⟨_, mb, n7, g7, rem_b3 hnN B4.out.1 hn6 hn7, ?_, ?_, rfl⟩⟩, ?_, fun k_ hk_ => .inl hk_⟩
    · rw [hrem, hkU]; exact Nat.le_of_succ_le B4.out.1
    · rw [hrem]; exact downP_apart hk hUA
    · rw [hrem]; exact downP_all (P := fun e => wfk e.f2) hk hUW
    · rw [hrem]; exact R7.kept Fz (fun k_ hk_ e_ => h4k (e_ ▸ hk_))
    · rw [hrem]; exact hg7
    · exact ((F4.trans F46 (fun _ _ q => q)).trans F67 (fun _ _ q => q)).trans Fz (fun k_ hk_ e_ => absurd hk_ (by rw [e_, ← hb4]; exact Nat.lt_irrefl _))
  · have hd : decide ((i : Int) < (la : Int)) = false := by simpa using hil
    have hil' : ¬ i < l.length - 1 := by rw [hla]; exact hil
    have hrem : removeP l i = l.take la := by unfold removeP; rw [if_neg hil', hla]
    have hLF : AtFull (gset g x.f2 none) (l.take la) := by
      have := full_take hA hg hi hil'
      rw [hla, hx] at this
      exact this
    have p0 : w4.cell? ⟨b5, 0, none⟩ = some (.int .i64 x.f0) := cell_of_heap x5 rfl
    have p1 : w4.cell? ⟨b5, 1, none⟩ = some (.int .i64 x.f1) := cell_of_heap x5 rfl
    have p2 : w4.cell? ⟨b5, 2, none⟩ = some (.string x.f2) := cell_of_heap x5 rfl
    have r0 : w4.cell? ⟨b4, 0, none⟩ = some (.int .i64 0) := cell_of_heap x4 rfl
    have r1 : w4.cell? ⟨b4, 1, none⟩ = some (.int .i64 0) := cell_of_heap x4 rfl
    have r2 : w4.cell? ⟨b4, 2, none⟩ = some (.string ⟨#[]⟩) := cell_of_heap x4 rfl
    have s0 := hd_frozen x4 0
    have s1 := hd_frozen x4 1
    have s2 := hd_frozen x4 2
    have htl : (l.take la).length = la := by rw [List.length_take]; omega
    have hNN : n ≤ N + 2 * M + 3 := by omega
    have hTW : ∀ j, j < (l.take la).length → wfk (gd (l.take la) j).f2 := fun j hj => by
      rw [htl] at hj
      rw [gd_take, if_pos hj]
      exact hW j (by omega)
    clear hlM
    go_wp2
    obtain ⟨zz, Fz⟩ := box3 x4 (.int .i64 x.f0) (.int .i64 x.f1) (.string x.f2)
    refine bodyPost_ret (results_cell1 rfl _ _ b4 148 #[.int .i64 x.f0, .int .i64 x.f1, .string x.f2] (0, 0) _ rfl zz Try.underlying148 rfl (by kernel_rfl)) rfl ⟨by rw [hx], foot h (.slice (some ⟨q, 0, none⟩) la cap) mb, ⟨?_, HS.out, ?_, ?_, .inr ⟨_, mb, n, gset g x.f2 none, hNN, ?_, ?_, rfl⟩⟩, ?_, fun k_ hk_ => .inl hk_⟩
    · rw [hrem, htl]; have := HL.out; omega
    · rw [hrem]; exact apart_take hA la
    · rw [hrem]; exact hTW
    · rw [hrem]; exact R4.kept Fz (fun k_ hk_ e_ => h4k (e_ ▸ hk_))
    · rw [hrem]; exact hLF
    · exact F4.trans Fz (fun k_ hk_ e_ => absurd hk_ (by rw [e_, ← hb4]; exact Nat.lt_irrefl _))
end Go.Proofs.Ytkegdcnnankokaa.Hps

/-
heap.Heap[string]'s Pop and Due, walked.
-/
namespace Go.Proofs.Ytkegdcnnankokaa.Hps
set_option linter.unusedVariables false
set_option linter.unusedSimpArgs false
open Go.Maps Go.RowKit Go.Proofs.YtkegdcnnankokaaW.PrintWords Go.Proofs.YtkegdcnnankokaaW.PrintLast Go.Proofs.YtkegdcnnankokaaW.PrintMore Hp
set_option maxRecDepth 100000 in
set_option maxHeartbeats 8000000 in
theorem pop_any {w : World} {h N M seq : Nat} {F : Nat → Prop} {l : List (It ByteArray)} (H : HpAt w h F N M l seq) (hb : N + 2 * M + 4 ≤ 1000000) :
    Calls Try.prog 68 #[.pointer (some ⟨h, 0, none⟩)] w fun e w' => e = .returned (firstV l) ∧
      ∃ F', HpAt w' h F' (N + 2 * M + 3) M (popP l) seq ∧ Fr F w w' ∧ ∀ k, F' k → F k ∨ w.heap.size ≤ k := by
  have hLen := Aside0.mk (len_any H)
  unfold firstV popP
  by_cases hl : l.length = 0
  · rw [if_pos hl, if_pos hl]
    have hb : ((l.length : Int) == 0) = true := by simp [hl]
    have HM := Aside0.mk (H.more (N' := N + 2 * M + 3) (M' := M) (by omega) (Nat.le_refl _))
    go_enter Try.func68, Try.ntmps68
    go_wp2_with (first
      | (go_at_call 69; refine (hLen.out).mono ?_; rintro e w9 ⟨rfl, hw9⟩; rw [hw9]; clear hw9)
      | fail)
    go_ret3
    exact ⟨rfl, F, HM.out, Fr.refl _ _, fun k hk => .inl hk⟩
  · rw [if_neg hl, if_neg hl]
    have hl0 : 0 < l.length := Nat.pos_of_ne_zero hl
    have hRem := Aside0.mk (remove_any H (i := 0) hl0 hb)
    have hb : ((l.length : Int) == 0) = false := by simp [hl]
    go_enter Try.func68, Try.ntmps68
    go_wp2_with (first
      | (go_at_call 69; refine (hLen.out).mono ?_; rintro e w9 ⟨rfl, hw9⟩; rw [hw9]; clear hw9)
      | (go_at_call 87; refine (hRem.out).mono ?_; rintro e w1 ⟨rfl, F1, H1, G1, K1⟩)
      | fail)
    obtain ⟨W, hW⟩ : ∃ W, w1.alloc (.cells #[.int .i64 (gd l 0).f0, .int .i64 (gd l 0).f1, .string (gd l 0).f2] 148) = W := ⟨_, rfl⟩
    have hx : W.heap[w1.heap.size]? = some (.cells #[.int .i64 (gd l 0).f0, .int .i64 (gd l 0).f1, .string (gd l 0).f2] 148 (0, 0)) := by rw [← hW]; exact Array.getElem?_push_size
    have HW := H1.behind (w1 := W) (hW ▸ (Below.refl w1.heap.size w1).alloc (Nat.le_refl _) _)
    have GW : Fr F w W := hW ▸ G1.alloc _
    rw [hW]
    have c0 : W.cell? ⟨w1.heap.size, 0, none⟩ = some (.int .i64 (gd l 0).f0) := cell_of_heap hx rfl
    have c1 : W.cell? ⟨w1.heap.size, 1, none⟩ = some (.int .i64 (gd l 0).f1) := cell_of_heap hx rfl
    have c2 : W.cell? ⟨w1.heap.size, 2, none⟩ = some (.string (gd l 0).f2) := cell_of_heap hx rfl
    go_quiet (fail)
    go_wp2
    go_ret3
    exact ⟨rfl, F1, HW.drewN nq, GW.trans (G := fun _ => False) ⟨rfl, rfl, rfl, Nat.le_refl _, fun _ _ _ => rfl⟩ (fun _ _ q => q.elim), K1⟩
theorem due_b {N' N M a b c : Nat} (hc : c = 2 * M + 3) (hb : N + b * c + 2 * M + 4 ≤ 1000000) (h : N' + a * c ≤ N + b * c) : N' + 2 * M + 4 ≤ 1000000 := by
  have : 0 ≤ a * c := Nat.zero_le _
  omega
theorem due_c {N' N M m b c : Nat} (hc : c = 2 * M + 3) (h : N' + (m + 1) * c ≤ N + b * c) : N' + 2 * M + 3 + m * c ≤ N + b * c := by
  rw [Nat.succ_mul] at h
  omega
theorem due_room {n M : Nat} (h : n ≤ M) (hM : M ≤ 1000000) : (n + 1) * 16 ≤ 140737488355328 := by omega
theorem due_room8 {n M : Nat} (h : n ≤ M) (hM : M ≤ 1000000) : (n + 1) * 8 ≤ 140737488355328 := by omega
theorem due_m {N M b c : Nat} (hb : N + b * c + 2 * M + 4 ≤ 1000000) : M ≤ 1000000 := by omega
theorem infoT : (Try.prog.info? 9).map (fun i => (i.zero, i.size, i.bytes)) = some (some (.string ⟨#[]⟩), 1, 16) := by kernel_rfl
/-- what was told so far is none of the heap's, behind a pop either. -/
theorem due_keep {wr w1 : World} {kk : Nat} {base h N M seq : Nat} {F' F2 : Nat → Prop} {L : List (It ByteArray)} {v : Value} {out : List ByteArray} (hR : Kd.R Kd.string 9 wr base (fun k => ¬ F' k) v out) (hH : HpAt wr h F' N M L seq) (K2 : ∀ k, F2 k → F' k ∨ (wr.drewN kk).heap.size ≤ k) (G2 : Fr F' (wr.drewN kk) w1) : Kd.R Kd.string 9 w1 base (fun k => ¬ F2 k) v out := by
  have h1 := Kd.R_bound hR
  have h2 := Kd.R_step (w1 := w1) h1 (fun k hk hlt => G2.block k hlt hk.1)
  exact Kd.R_mono h2 (fun k hk hf => by
    rcases K2 k hf with q_ | q_
    · exact hk.1 q_
    · exact absurd hk.2.2.1 (Nat.not_lt.2 q_))
set_option maxRecDepth 100000 in
set_option maxHeartbeats 8000000 in
theorem due_any {w : World} {h N M seq : Nat} {F : Nat → Prop} {l : List (It ByteArray)} (H : HpAt w h F N M l seq) (now : Int) {c : Nat} (hc : c = 2 * M + 3) (hb : N + l.length * c + 2 * M + 4 ≤ 1000000) :
    Calls Try.prog 67 #[.pointer (some ⟨h, 0, none⟩), .int .i64 now] w fun e w' => ∃ v, e = .returned v ∧
      ∃ F' N', N' ≤ N + l.length * c ∧ HpAt w' h F' N' M (dueP now l).2 seq ∧ Fr F w w' ∧ (∀ k, F' k → F k ∨ w.heap.size ≤ k) ∧ Kd.R Kd.string 9 w' w.heap.size (fun k => ¬ F' k) v (dueP now l).1 := by
  have HN := Aside0.mk hb
  have HC := Aside0.mk hc
  have HM := Aside0.mk (due_m hb)
  have HLM := Aside0.mk H.1
  clear hb hc
  go_enter Try.func67, Try.ntmps67
  go_wp2
  go_loopw [4] (fun v4 wr => ∃ (L : List (It ByteArray)) (out : List ByteArray) (F' : Nat → Prop) (N' : Nat), HpAt wr h F' N' M L seq ∧ N' + L.length * c ≤ N + l.length * c ∧ Fr F w wr ∧ (∀ k, F' k → F k ∨ w.heap.size ≤ k) ∧ Kd.R Kd.string 9 wr w.heap.size (fun k => ¬ F' k) v4 out ∧ out ++ (dueP now L).1 = (dueP now l).1 ∧ (dueP now L).2 = (dueP now l).2 ∧ out.length + L.length = l.length) (fun v4 _ => match v4 with | .slice _ n_ _ => l.length - n_ | _ => 0)
  case atStart => exact ⟨l, [], F, N, H, Nat.le_refl _, Fr.refl _ _, fun k hk => .inl hk, Kd.R_nil _ _ _ _ _, rfl, rfl, by simp⟩
  case round =>
    obtain ⟨L, out, F', N', hH, hN', hFr, hFt, hR, ho1, ho2, hlen⟩ := hrel
    obtain ⟨Ao, co, rfl⟩ := Kd.R_slice hR
    by_cases hl : L.length = 0
    · have hst := dueP_stop (now := now) (l := L) (.inl hl)
      have hF1 := Aside0.mk (first_any hH)
      have e1 : firstV L = .tuple #[.int .i64 0, .string ⟨#[]⟩, .bool false] := by unfold firstV; rw [if_pos hl]
      rw [e1] at hF1
      have hNN : N' ≤ N + l.length * c := Nat.le_trans (Nat.le_add_right _ _) hN'
      rw [hst] at ho1 ho2
      rw [List.append_nil] at ho1
      have HO1 := Aside0.mk ho1
      have HO2 := Aside0.mk (show L = (dueP now l).2 from ho2)
      clear hlen hN' e1 hl hst ho1 ho2
      go_wp2_with (first
        | (go_at_call 86; refine (hF1.out).mono ?_; rintro e w9 ⟨rfl, kk, hw9⟩; rw [hw9]; clear hw9)
        | fail)
      go_ret
      exact ⟨_, rfl, F', N', hNN, by rw [← HO2.out]; exact hH.drewN kk, hFr.trans (G := fun _ => False) ⟨rfl, rfl, rfl, Nat.le_refl _, fun _ _ _ => rfl⟩ (fun _ _ q => q.elim), hFt, by rw [← HO1.out]; exact Kd.R_drewN hR kk⟩
    · have hl0 : 0 < L.length := Nat.pos_of_ne_zero hl
      have hF1 := Aside0.mk (first_any hH)
      have e1 : firstV L = .tuple #[.int .i64 (gd L 0).f0, .string (gd L 0).f2, .bool true] := by unfold firstV; rw [if_neg hl]
      rw [e1] at hF1
      by_cases hw : (gd L 0).f0 > now
      · have hst := dueP_stop (now := now) (l := L) (.inr hw)
        have hd : decide (now < (gd L 0).f0) = true := decide_eq_true hw
        have hNN : N' ≤ N + l.length * c := Nat.le_trans (Nat.le_add_right _ _) hN'
        rw [hst] at ho1 ho2
        rw [List.append_nil] at ho1
        have HO1 := Aside0.mk ho1
        have HO2 := Aside0.mk (show L = (dueP now l).2 from ho2)
        obtain ⟨z, hz⟩ : ∃ z, gd L 0 = z := ⟨_, rfl⟩
        rw [hz] at hF1 hd
        clear hlen hN' e1 hl hl0 hst ho1 ho2 hz hw
        go_wp2_with (first
          | (go_at_call 86; refine (hF1.out).mono ?_; rintro e w9 ⟨rfl, kk, hw9⟩; rw [hw9]; clear hw9)
          | fail)
        go_ret
        exact ⟨_, rfl, F', N', hNN, by rw [← HO2.out]; exact hH.drewN kk, hFr.trans (G := fun _ => False) ⟨rfl, rfl, rfl, Nat.le_refl _, fun _ _ _ => rfl⟩ (fun _ _ q => q.elim), hFt, by rw [← HO1.out]; exact Kd.R_drewN hR kk⟩
      · have hgo := dueP_go (now := now) hH.2.2.1 hl0 hw
        have hd : decide (now < (gd L 0).f0) = false := decide_eq_false hw
        obtain ⟨m, hm⟩ : ∃ m, L.length = m + 1 := ⟨L.length - 1, by omega⟩
        have hrl := removeP_len hH.2.2.1 hl0
        have hrl2 : (removeP L 0).length = m := by rw [hrl, hm]; rfl
        have hN2 := due_c HC.out (hm ▸ hN')
        have hpp : popP L = removeP L 0 := by unfold popP; rw [if_neg hl]
        have hol : out.length ≤ M := by have := HLM.out; omega
        have hlen2 : (out ++ [(gd L 0).f2]).length + (removeP L 0).length = l.length := by rw [List.length_append, List.length_singleton, hrl2]; omega
        have hmea : l.length - (out ++ [(gd L 0).f2]).length < l.length - out.length := by rw [List.length_append, List.length_singleton]; omega
        have hPop := fun kk => Aside0.mk (pop_any (hH.drewN kk) (due_b HC.out HN.out hN'))
        have e2 : ∀ kk : Nat, Aside0 (Calls Try.prog 68 #[.pointer (some ⟨h, 0, none⟩)] (wr.drewN kk) fun e w' => e = .returned (.tuple #[.int .i64 (gd L 0).f0, .string (gd L 0).f2, .bool true]) ∧ ∃ F2, HpAt w' h F2 (N' + 2 * M + 3) M (removeP L 0) seq ∧ Fr F' (wr.drewN kk) w' ∧ ∀ k, F2 k → F' k ∨ (wr.drewN kk).heap.size ≤ k) := fun kk => by
          have := hPop kk
          rw [e1, hpp] at this
          exact this
        have hroom := Aside0.mk (due_room hol HM.out)
        have hroom8 := Aside0.mk (due_room8 hol HM.out)
        obtain ⟨z, hz⟩ : ∃ z, gd L 0 = z := ⟨_, rfl⟩
        rw [hz] at hF1 e2 hlen2 hmea hgo hd
        have hmea2 := Aside0.mk hmea
        have hlen3 := Aside0.mk hlen2
        have hH2 := Aside0.mk hH
        rw [hgo] at ho1 ho2
        have HO1 := Aside0.mk ho1
        have HO2 := Aside0.mk (show (dueP now (removeP L 0)).2 = (dueP now l).2 from ho2)
        have HR := Aside0.mk hR
        clear hN' hlen e1 hl hl0 hw hm hrl hPop hol hlen2 hmea hpp hz hH ho1 ho2 hgo hR
        go_wp2_with (first
          | (go_at_call 86; refine (hF1.out).mono ?_; rintro e w9 ⟨rfl, kk, hw9⟩; rw [hw9]; clear hw9)
          | (go_at_call 68; refine ((e2 kk).out).mono ?_; rintro e w1 ⟨rfl, F2, H2, G2, K2⟩)
          | ((with_reducible refine gate_builtin (b := .append) (xs := #[.tmp 31, .tmp 33]) rfl ?_); at_builtin; refine Kd.R_append Kd.string (w0 := w1) (W := w1) w.heap.size rfl (.tmp 31) (.tmp 33) 31 9 (.string ⟨#[]⟩) 16 rfl Try.underlying31 infoT rfl (by decide) (by decide) (.slice Ao out.length co) out z.f2 [.string z.f2] (fun k => ¬ F2 k) (fun _ => False) rfl rfl ?aP (fun _ hk => hk.elim) ?aF ?aO ?aB ?aS ?aL ?_; (case aP => exact rfl); (case aF => exact fun k hk hf => absurd (H2.lt k hf) (Nat.not_lt.2 hk)); (case aO => exact due_keep HR.out hH2.out K2 G2); (case aB => exact Below.refl _ _); (case aS => exact Nat.le_trans hFr.size (show wr.heap.size ≤ w1.heap.size from G2.size)); (case aL => exact hroom.out); intro v7 w7 ho7 hb7 hg7 hat7)
          | fail)
        go_roundw
        case rel =>
          have Fz : Fr (fun k => some k = (Value.slice Ao out.length co).ownBlock) w1 w7 := Fr.of_grown (w := w1) ⟨hg7.os, hg7.tape, hg7.output, hg7.size, hg7.block⟩ (fun k hk => hk.symm)
          have hnot : ∀ k, F2 k → ¬ some k = (Value.slice Ao out.length co).ownBlock := fun k hk e_ => (due_keep HR.out hH2.out K2 G2).1 k e_.symm hk
          have GG : Fr F w w1 := (hFr.trans (G := fun _ => False) (w2 := wr.drewN kk) ⟨rfl, rfl, rfl, Nat.le_refl _, fun _ _ _ => rfl⟩ (fun _ _ q => q.elim)).trans G2 (fun k hk hf => (hFt k hf).resolve_right (Nat.not_le.2 hk))
          have hown : ∀ k, k < w.heap.size → some k = (Value.slice Ao out.length co).ownBlock → F k := fun k hk e_ => absurd (own_base HR.out.2.choose_spec.1 k e_.symm) (Nat.not_le.2 hk)
          refine ⟨removeP L 0, out ++ [z.f2], F2, N' + 2 * M + 3, H2.kept Fz hnot, by rw [hrl2]; exact hN2, GG.trans Fz hown, fun k hk => ?_, ho7, by rw [List.append_assoc]; exact HO1.out, HO2.out, hlen3.out⟩
          rcases K2 k hk with q_ | q_
          · exact hFt k q_
          · exact .inr (Nat.le_trans hFr.size q_)
        case measure =>
          obtain ⟨A7, c7, rfl⟩ := Kd.R_slice ho7
          exact hmea2.out
end Go.Proofs.Ytkegdcnnankokaa.Hps
