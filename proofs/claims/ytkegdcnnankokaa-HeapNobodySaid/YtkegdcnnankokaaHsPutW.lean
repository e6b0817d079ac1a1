/-
heap.Heap[string]'s Put, walked: the whole.
-/
import Derived.Test.YtkegdcnnankokaaHsPut
import Derived.Deep.RegionLaw
namespace Go.Proofs.Ytkegdcnnankokaa.Hps
set_option linter.unusedVariables false
set_option linter.unusedSimpArgs false
open Go.Maps Go.RowKit Go.Proofs.YtkegdcnnankokaaW.PrintWords Go.Proofs.YtkegdcnnankokaaW.PrintLast Go.Proofs.YtkegdcnnankokaaW.PrintMore Hp
theorem Raw.stored {w1 : World} {h mb n : Nat} {v v1 : Value} {seq seq' : Int} {its : List (It ByteArray)} {g : ByteArray → Option Int} (hd : w1.heap[h]? = some (.cells #[v, .map (some mb), .int .i64 seq] 123 (0, 0)))
    (row : Kd.R kI 148 w1 0 (fun k => k ≠ h ∧ k ≠ mb) v1 its) (map : ∃ D : DataW Unit, w1.ownsMap Try.prog 9 (plainElem Try.prog 3) mb n D ∧ Idx D g) (ne : h ≠ mb) :
    Raw ((w1.setCell ⟨h, 0, none⟩ v1).setCell ⟨h, 2, none⟩ (.int .i64 seq')) h v1 mb n seq' its g ∧ Fr (fun k => k = h) w1 ((w1.setCell ⟨h, 0, none⟩ v1).setCell ⟨h, 2, none⟩ (.int .i64 seq')) := by
  obtain ⟨d1, f1⟩ := set_hd hd 0 v1
  obtain ⟨d2, f2⟩ := set_hd d1 2 (.int .i64 seq')
  have f := f1.trans f2 (fun _ _ q => q)
  obtain ⟨D, hD, hI⟩ := map
  refine ⟨⟨d2, ?_, ⟨D, f.map hD (fun e => ne e.symm), hI⟩, ne⟩, f⟩
  exact Kd.R_step row (fun k hk hlt => f.block k hlt hk.1)
theorem eqlNil (w : World) : (binOp .eql 121 (.map none) (.map none)).run Try.prog w = .ok (.bool true) w := by kernel_rfl
theorem eqlSome (b : Nat) (w : World) : (binOp .eql 121 (.map (some b)) (.map none)).run Try.prog w = .ok (.bool false) w := by kernel_rfl
theorem put_num {N M s m len : Nat} (hb : N + M + 3 ≤ 1000000) (hs : s ≤ M) (hl : len ≤ M) (hm : m = len + 1) : wrap64 ((s : Int) + 1) = ((s + 1 : Nat) : Int) ∧ wrap64 ((m : Int) - 1) = (len : Int) ∧ (len + 1) * 32 ≤ 140737488355328 := by
  refine ⟨?_, ?_, by omega⟩
  · rw [wrap_nat (by omega) (by omega)]; rfl
  · rw [wrap_nat (by omega) (by omega)]; omega
theorem put_b1 {N M n len : Nat} (hb : N + M + 3 ≤ 1000000) (hn : n ≤ N) (hl : len ≤ M) : n + (len + 1) + 1 ≤ 1000000 := by omega
theorem put_b2 {N M n n' len : Nat} (hn : n ≤ N) (hl : len ≤ M) (h : n' ≤ n + (len + 1) + 1) : n' ≤ N + M + 2 := by omega
set_option maxRecDepth 100000 in
set_option maxHeartbeats 8000000 in
theorem put_any {w : World} {h N M seq : Nat} {F : Nat → Prop} {l : List (It ByteArray)} (H : HpAt w h F N M l seq) (when : Int) (x : ByteArray) (hx : wfk x) (hb : N + M + 3 ≤ 1000000) :
    Calls Try.prog 66 #[.pointer (some ⟨h, 0, none⟩), .int .i64 when, .string x] w fun e w' => e = .returned (.bool (!hasX l x)) ∧
      ∃ F', HpAt w' h F' (N + M + 2) (M + 1) (if hasX l x then l else upP (l ++ [⟨when, (seq : Int), x⟩]) l.length) (if hasX l x then seq else seq + 1) ∧ Fr F w w' ∧ ∀ k, F' k → F k ∨ w.heap.size ≤ k := by
  have HN := Aside0.mk hb
  clear hb
  obtain ⟨A, c, mv, hd, hlk, hmv⟩ := look_at H hx
  obtain ⟨z, hrun, hz⟩ := hlk w (Fr.refl _ _)
  clear hz hlk
  have h1 : w.cell? ⟨h, 1, none⟩ = some mv := cell_of_heap hd rfl
  cases hX : hasX l x with
  | true =>
    rw [hX] at hrun
    go_enter Try.func66, Try.ntmps66
    go_wp2_with (first
      | (at_lookup; refine wpList_lookup_run w rfl (.tmp 15) (.tmp 16) 121 true rfl rfl rfl hrun ?_)
      | fail)
    go_ret
    exact ⟨rfl, F, H.more (by omega) (by omega), Fr.refl _ _, fun k hk => .inl hk⟩
  | false =>
    rw [hX] at hrun
    have hmm := @run_makeMap Try.prog
    have HL := Aside0.mk H.1
    have HS := Aside0.mk H.2.1
    have HA := Aside0.mk H.2.2.1
    have HW := Aside0.mk H.2.2.2.1
    obtain ⟨B, hB⟩ : ∃ B : Bool, B = true ↔ mv = .map none := by
      by_cases q : mv = .map none
      · exact ⟨true, by simp [q]⟩
      · exact ⟨false, by simp [q]⟩
    go_enter Try.func66, Try.ntmps66
    go_upto_region 6 with (first
      | (at_lookup; refine wpList_lookup_run w rfl (.tmp 15) (.tmp 16) 121 true rfl rfl rfl hrun ?_)
      | fail)
    go_cut [25] (fun v25 wc => v25 = .bool B ∧ wc = w)
    case first =>
      rcases hmv with ⟨e2, _⟩ | ⟨mb, n, g, e2, _⟩
      · have e3 : B = true := hB.2 e2
        rw [e2] at h1
        have q1 := eqlNil
        have q2 := eqlSome
        go_wp2
        go_meet
        case rel => exact ⟨by rw [e3], rfl⟩
      · have e3 : B = false := by
          cases B
          · rfl
          · have := hB.1 rfl; rw [e2] at this; cases this
        rw [e2] at h1
        have q1 := eqlNil
        have q2 := eqlSome
        go_wp2
        go_meet
        case rel => exact ⟨by rw [e3], rfl⟩
    case rest =>
      obtain ⟨rfl, rfl⟩ := hcut
      obtain ⟨w0, hw0⟩ : ∃ w0, w0 = wc := ⟨_, rfl⟩
      go_upto_if 25 with (fail)
      go_cut [] (fun wd => ∃ v mb n g, n ≤ N ∧ Raw wd h v mb n (seq : Int) l g ∧ AtFull g l ∧ Fr F wc wd ∧ ∀ k, foot h v mb k → F k ∨ wc.heap.size ≤ k)
      case first =>
        rcases hmv with ⟨e2, e4, e5, e6, e7⟩ | ⟨mb, n, g, e2, hnN, R, hg, e7⟩
        · have e3 : B = true := hB.2 e2
          subst e3
          have hlt : h < wc.heap.size := (Array.getElem?_eq_some_iff.1 hd).1
          rw [e2, e4, e5] at hd
          have hda : (wc.alloc (.map #[] 0)).heap[h]? = some (.cells #[.slice none l.length 0, .map none, .int .i64 (seq : Int)] 123 (0, 0)) := by rw [heap_alloc_old _ _ hlt]; exact hd
          have f1 : (wc.alloc (.map #[] 0)).cell? ⟨h, 1, none⟩ = some (.map none) := cell_of_heap hda rfl
          have f2 : (wc.alloc (.map #[] 0)).frozen? ⟨h, 1, none⟩ = false := hd_frozen hda 1
          go_wp2
          go_meet
          case rel =>
            obtain ⟨d1, g1⟩ := set_hd hd 1 (.map (some wc.heap.size))
            have hne : h ≠ wc.heap.size := Nat.ne_of_lt hlt
            obtain ⟨W, hW⟩ : ∃ W, wc.setCell ⟨h, 1, none⟩ (.map (some wc.heap.size)) = W := ⟨_, rfl⟩
            have hWs : W.heap.size = wc.heap.size := by rw [← hW]; simp [World.setCell]
            rw [hW] at d1 g1 ⊢
            have hltW : h < W.heap.size := by rw [hWs]; exact hlt
            refine ⟨.slice none 0 0, wc.heap.size, 0, fun _ => none, Nat.zero_le _, ⟨?_, ?_, ⟨.map [], ?_, ⟨isMap_empty, fun y => ⟨rfl, rfl⟩⟩⟩, hne⟩, ?_, ?_, ?_⟩
            · rw [heap_alloc_old _ _ hltW, d1, e6]; rfl
            · rw [e6]; exact Kd.R_nil _ _ _ _ _
            · rw [← hWs]; exact World.ownsMap_made W _ _ _
            · intro y; rw [e6]; rfl
            · rw [e7]; exact g1.alloc _
            · rintro k (rfl | rfl | hk)
              · exact .inl (by rw [e7])
              · exact .inr (Nat.le_refl _)
              · simp [Value.ownBlock] at hk
        · have e3 : B = false := by
            cases B
            · rfl
            · have := hB.1 rfl; rw [e2] at this; cases this
          subst e3
          go_wp2
          go_meet
          case rel => exact ⟨_, mb, n, g, hnN, R, hg, Fr.refl _ _, fun k hk => .inl (by rw [e7]; exact hk)⟩
      case rest =>
        subst hw0
        obtain ⟨v, mb, n, g, hnN, R, hg, hFr, hft⟩ := hcut
        obtain ⟨A2, c2, rfl⟩ := Kd.R_slice R.row
        obtain ⟨p, hp⟩ : ∃ p : It ByteArray, p = ⟨when, (seq : Int), x⟩ := ⟨_, rfl⟩
        have d0 : wc.cell? ⟨h, 0, none⟩ = some (.slice A2 l.length c2) := cell_of_heap R.hd rfl
        have d2 : wc.cell? ⟨h, 2, none⟩ = some (.int .i64 (seq : Int)) := cell_of_heap R.hd rfl
        obtain ⟨m, hm⟩ : ∃ m, (l ++ [p]).length = m := ⟨_, rfl⟩
        obtain ⟨n1, n2, n3⟩ := put_num HN.out HS.out HL.out (show m = l.length + 1 from by rw [← hm]; simp)
        have N3 := Aside0.mk n3
        clear n3
        have hltm := R.lt mb (.inr (.inl rfl))
        have hlth := R.lt h (.inl rfl)
        go_wp2
        have hda : (wc.drew.alloc (.cells #[.int .i64 when, .int .i64 (seq : Int), .string x] 148)).heap[h]? = some (.cells #[.slice A2 l.length c2, .map (some mb), .int .i64 (seq : Int)] 123 (0, 0)) := by rw [heap_alloc_old _ _ (show h < wc.drew.heap.size from hlth)]; exact R.hd
        have e0 : (wc.drew.alloc (.cells #[.int .i64 when, .int .i64 (seq : Int), .string x] 148)).cell? ⟨h, 0, none⟩ = some (.slice A2 l.length c2) := cell_of_heap hda rfl
        have hrow0 : Kd.R kI 148 wc.drew 0 (fun k => k ≠ h ∧ k ≠ mb) (.slice A2 l.length c2) l := R.row
        have hM : kI.M wc.drew 0 (fun _ => False) p [.int .i64 when, .int .i64 (seq : Int), .string x] := by have := kI_mkM wc.drew 0 (fun _ => False) p; rw [hp] at this ⊢; exact this
        have hTail : ∀ (w1 : World) (A1 : Option Addr) (c1 : Nat), w1.heap[h]? = some (.cells #[.slice A2 l.length c2, .map (some mb), .int .i64 (seq : Int)] 123 (0, 0)) → Kd.R kI 148 w1 0 (fun k => k ≠ h ∧ k ≠ mb) (.slice A1 m c1) (l ++ [p]) → wc.drew.grownBy w1 (Value.slice A2 l.length c2).ownBlock →
            ((Value.slice A1 m c1).ownBlock = (Value.slice A2 l.length c2).ownBlock ∨ ∃ b, (Value.slice A1 m c1).ownBlock = some b ∧ wc.drew.heap.size ≤ b) →
            Aside0 (Calls Try.prog 85 #[.pointer (some ⟨h, 0, none⟩), .int .i64 (l.length : Int)] ((w1.setCell ⟨h, 0, none⟩ (.slice A1 m c1)).setCell ⟨h, 2, none⟩ (.int .i64 ((seq : Int) + 1))) fun e w' => e = .returned (.tuple #[]) ∧ ∃ F', HpAt w' h F' (N + M + 2) (M + 1) (upP (l ++ [p]) l.length) (seq + 1) ∧ Fr F w0 w' ∧ ∀ k, F' k → F k ∨ w0.heap.size ≤ k) := by
          intro w1 A1 c1 hd1 hrow1 hg1 hat1
          obtain ⟨D, hD, hI⟩ := R.map
          have hXp : hasX l p.f2 = false := by rw [hp]; exact hX
          have hwp : wfk p.f2 := by rw [hp]; exact hx
          have hgl : gd (l ++ [p]) l.length = p := by rw [gd_snoc, if_neg (Nat.lt_irrefl _), if_pos rfl]
          obtain ⟨R2, F2⟩ := Raw.stored (seq' := (seq : Int) + 1) hd1 hrow1 ⟨D, hD.drew.kept hg1 (fun e => (R.row.1 mb e.symm).2 rfl), hI⟩ R.ne
          have hap := apart_snoc HA.out hXp
          have hll : l.length < (l ++ [p]).length := by rw [List.length_append, List.length_singleton]; exact Nat.lt_succ_self _
          have hwf : ∀ j, j < (l ++ [p]).length → wfk (gd (l ++ [p]) j).f2 := fun j hj => by
            rw [gd_snoc]
            split
            · rename_i q_; exact HW.out j q_
            · split
              · exact hwp
              · rename_i q1 q2
                rw [List.length_append, List.length_singleton] at hj
                omega
          have hFm : ∀ k, k < w0.heap.size → foot h (.slice A1 m c1) mb k → F k := by
            intro k hk hf
            rcases hf with rfl | rfl | hf
            · exact (hft k (.inl rfl)).resolve_right (Nat.not_le.2 hk)
            · exact (hft k (.inr (.inl rfl))).resolve_right (Nat.not_le.2 hk)
            · rcases hat1 with q_ | ⟨b, q_, hb⟩
              · exact (hft k (.inr (.inr (q_ ▸ hf)))).resolve_right (Nat.not_le.2 hk)
              · rw [q_] at hf
                obtain rfl := Option.some.inj hf
                exact absurd (Nat.le_trans hFr.size hb) (Nat.not_le.2 hk)
          refine Aside0.mk ((up_any R2 hll hap (by rw [hgl]; exact but_snoc HA.out hXp hg) hwf (by rw [List.length_append, List.length_singleton]; exact put_b1 HN.out hnN HL.out)).mono ?_)
          rintro e w' ⟨rfl, n', g', hn', R', hg', F3⟩
          rw [List.length_append, List.length_singleton] at hn'
          refine ⟨rfl, foot h (.slice A1 m c1) mb, ⟨?_, Nat.succ_le_succ HS.out, upP_apart hll hap, upP_all (P := fun e => wfk e.f2) hll hwf, .inr ⟨_, mb, n', g', put_b2 hnN HL.out hn', R', hg', rfl⟩⟩, ?_, ?_⟩
          · rw [upP_len _ _ hll, List.length_append, List.length_singleton]; exact Nat.succ_le_succ HL.out
          · have G1 : Fr F w0 w1 := hFr.trans (G := fun k => foot h (.slice A2 l.length c2) mb k) (Fr.of_grown (w := wc) (row := (Value.slice A2 l.length c2).ownBlock) ⟨hg1.os, hg1.tape, hg1.output, hg1.size, hg1.block⟩ (fun k hk => .inr (.inr hk))) (fun k hk hf => (hft k hf).resolve_right (Nat.not_le.2 hk))
            exact (G1.trans F2 (fun k hk q_ => hFm k hk (.inl q_))).trans F3 hFm
          · intro k hf
            rcases Nat.lt_or_ge k w0.heap.size with hk | hk
            · exact .inl (hFm k hk hf)
            · exact .inr hk
        go_region_law (refine Kd.R_append_step kI (w0 := wc.drew) (W := wc.drew) 0 (by simp [Region.wanted]) (.tmp 34) (.tmp 42) 120 148 (.agg #[(.int .i64 0), (.int .i64 0), (.string ⟨#[]⟩)]) 32 rfl Try.underlying120 infoI rfl (by decide) (by decide) (.slice A2 l.length c2) l p [.int .i64 when, .int .i64 (seq : Int), .string x] (fun k => k ≠ h ∧ k ≠ mb) (fun _ => False) (by simp [Act.eval, Act.put]) (by simp [Act.eval, Act.put]) hM (fun _ q => q.elim) (fun k hk => ⟨fun e => absurd (show k < wc.heap.size from e ▸ hlth) (Nat.not_lt.2 hk), fun e => absurd (show k < wc.heap.size from e ▸ hltm) (Nat.not_lt.2 hk)⟩) hrow0 ⟨rfl, rfl, rfl, Nat.le_refl _, fun _ hk => absurd hk (Nat.not_lt_zero _)⟩ (Nat.zero_le _) N3.out ?_; intro v1 w1 hrow1 hB1 hg1 hat1; obtain ⟨A1, c1, e1_⟩ := Kd.R_slice hrow1; subst e1_; have hd1 : w1.heap[h]? = some (.cells #[.slice A2 l.length c2, .map (some mb), .int .i64 (seq : Int)] 123 (0, 0)) := (hg1.block h hlth (fun e => (R.row.1 h e.symm).1 rfl)).trans R.hd; have q0 : w1.cell? ⟨h, 0, none⟩ = some (.slice A2 l.length c2) := cell_of_heap hd1 rfl; have q2 : w1.cell? ⟨h, 2, none⟩ = some (.int .i64 (seq : Int)) := cell_of_heap hd1 rfl; have z0 : w1.frozen? ⟨h, 0, none⟩ = false := hd_frozen hd1 0; have z2 : w1.frozen? ⟨h, 2, none⟩ = false := hd_frozen hd1 2; rw [hm])
        all_goals (clear d0 d2 e0)
        all_goals go_wp2_with (first
          | (go_at_call 85; refine ((hTail w1 A1 c1 hd1 (hm ▸ hrow1) hg1 (hm ▸ hat1)).out).mono ?_; rintro e w2 ⟨rfl, hfin⟩)
          | fail)
        all_goals go_ret
        all_goals exact ⟨rfl, by rw [← hp]; exact hfin⟩
end Go.Proofs.Ytkegdcnnankokaa.Hps
