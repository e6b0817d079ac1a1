/-
Has the heap just these? The statement's own function, walked.
-/
import Derived.Test.YtkegdcnnankokaaHeapInv
namespace Go.Proofs.Ytkegdcnnankokaa.Hpi
set_option linter.unusedVariables false
set_option linter.unusedSimpArgs false
open Go.Maps Go.RowKit Go.Proofs.YtkegdcnnankokaaW.PrintWords Go.Proofs.YtkegdcnnankokaaW.PrintLast Go.Proofs.YtkegdcnnankokaaW.PrintMore Hp Go.Proofs.Ytkegdcnnankokaa.PHpb
section
variable {w0 w w1 : World} {h kk seq n c : Nat} {F : Nat → Prop} {l s : List (It Int)} {A : Option Addr}
theorem doc_cell {ls : List SR} (hC : Kd.C K130 w A n ls) {i : Nat} (hi : i < ls.length) : ∃ ad, A = some ad ∧ w.cell? (ad.add (i * 2)) = some (.int .i64 ls[i].f0) ∧ w.cell? ⟨(ad.add (i * 2)).block, (ad.add (i * 2)).off + 1, none⟩ = some (.int .i64 ls[i].f1) := by
  obtain ⟨_, _, h3⟩ := hC
  obtain ⟨ad, e, hc⟩ := h3 (by omega)
  obtain ⟨cs, _, hK, hcc⟩ := hc i _ (List.getElem?_eq_getElem hi)
  obtain rfl := k130_open hK
  refine ⟨ad, e, hcc 0 _ rfl, ?_⟩
  have := hcc 1 _ rfl
  rw [show k130.sz = 2 from rfl, ← add_add] at this
  have e3 : ∀ a : Addr, a.add 1 = ⟨a.block, a.off + 1, none⟩ := fun a => by unfold Addr.add; rw [if_neg (by omega)]
  rw [e3] at this
  exact this
theorem pops_ask {s1 : List (It Int)} {W : World} {v : Value} {b m : Nat} {ok : Nat → Prop} (hR : Kd.R (Kd.int .i64) 3 W b ok v ((s.take m).map (·.f2))) (hC : Kd.C K130 W A n (s.map toR)) (hn : n = s.length) (hc : n ≤ c) (hm : m ≤ s.length) (hs : s.length ≤ 1000000) :
    Calls Try.prog 72 #[v, .slice A n c, .int .i64 (m : Int)] W fun e w' => e = .returned (.bool true) ∧ Below W.heap.size W w' := by
  obtain ⟨A1, c1, rfl⟩ := Kd.R_slice hR
  obtain ⟨_, g1, r1⟩ := Kd.R_reads' hR
  have hl : n = (s.map toR).length := by rw [List.length_map]; exact hn
  obtain ⟨k, hk⟩ := (pops_f (s.map toR) (by rw [List.length_map]; exact hs) m (by rw [List.length_map]; exact hm)).rounds
  have he : ((s.map toR).take m).map (·.f1) = (s.take m).map (·.f2) := by rw [← List.map_take, List.map_map]; rfl
  rw [he] at hk
  subst hl
  refine (pinfoldlaw06_pops.calls k A1 c1 _ A c _ _ _ W r1 g1 hC hc hk).mono ?_
  rintro e w' ⟨rfl, hd⟩
  exact ⟨rfl, hd.below⟩
theorem at_ask {W : World} (x : Int) (hC : Kd.C K130 W A n (s.map toR)) (hn : n = s.length) (hc : n ≤ c) (hs : s.length ≤ 1000000) :
    Calls Try.prog 70 #[.slice A n c, .int .i64 x] W fun e w' => e = .returned (.int .i64 (atP x (s.map toR) 0)) ∧ Below W.heap.size W w' := by
  have hl : n = (s.map toR).length := by rw [List.length_map]; exact hn
  obtain ⟨k, hk⟩ := (at_f x (s.map toR) (by rw [List.length_map]; exact hs)).rounds
  subst hl
  exact pinfoldref06_At.calls k A c _ x _ W hC hc hk
set_option maxRecDepth 100000 in
set_option maxHeartbeats 4000000 in
theorem alike_any (H : HS w0 w h kk F l s seq A n c) (hkk : kk ≤ 90) (x : Int) (hx : wfk x) :
    Calls Try.prog 42 #[.pointer (some ⟨h, 0, none⟩), .slice A n c, .int .i64 x] w fun e w' => e = .returned (.bool true) ∧ Below w.heap.size w w' := by
  have hsk := H.sk
  have hn := H.len
  have hll : l.length = n := by rw [H.rep.len, hn]
  have HFirst := Lib.hid (first_any H.hp)
  have HLen : Hid (∀ W, Below w.heap.size w W → Calls Try.prog 40 #[.pointer (some ⟨h, 0, none⟩)] W fun e w' => e = .returned (.int .i64 (n : Int)) ∧ w' = W) := Lib.hid (fun W hb => by have := len_any (H.hp.behind hb); rw [hll] at this; exact this)
  have HAll : Hid (∀ W, Below w.heap.size w W → _) := Lib.hid (fun W hb => all_any (H.hp.behind hb) H.rep (by omega))
  have HPops : Hid (∀ (W : World) (v : Value) (b : Nat) (ok : Nat → Prop), Below w.heap.size w W → Kd.R (Kd.int .i64) 3 W b ok v (s.map (·.f2)) → Calls Try.prog 72 #[v, .slice A n c, .int .i64 (n : Int)] W fun e w' => e = .returned (.bool true) ∧ Below W.heap.size W w') := Lib.hid (fun W v b ok hb hR => by
    subst hn
    exact pops_ask (s1 := s) (m := s.length) (by rw [List.take_length]; exact hR) (H.doc.behind hb).reads rfl H.doc.2.1 (Nat.le_refl _) (by omega))
  have HAt : Hid (∀ W, Below w.heap.size w W → _) := Lib.hid (fun W hb => at_ask (c := c) x (H.doc.behind hb).reads hn H.doc.2.1 (by omega))
  have hfind := H.find x
  have HW : Hid (∀ W, Below w.heap.size w W → HpAt W h F (bnd kk) kk l seq) := Lib.hid (fun W hb => H.hp.behind hb)
  have HD : Hid (∀ W, Below w.heap.size w W → Kd.C K130 W A n (s.map toR)) := Lib.hid (fun W hb => (H.doc.behind hb).reads)
  have hfirst : (s = [] ∧ n = 0 ∧ firstV l = .tuple #[.int .i64 0, .int .i64 0, .bool false]) ∨ (∃ a s', s = a :: s' ∧ 0 < n ∧ firstV l = .tuple #[.int .i64 a.f0, .int .i64 a.f2, .bool true]) := by
    cases s with
    | nil =>
      refine .inl ⟨rfl, hn, ?_⟩
      unfold firstV
      rw [if_pos (by rw [hll, hn]; rfl)]
    | cons a s' =>
      obtain ⟨h1, h2⟩ := rep_first H.rep
      refine .inr ⟨a, s', rfl, by rw [hn]; simp, ?_⟩
      unfold firstV
      rw [if_neg (by omega), h2]
  have HN := Lib.hid hn
  clear H hll hkk hsk hn
  go_enter Try.func42, Try.ntmps42
  rcases hfirst with ⟨rfl, rfl, hf⟩ | ⟨a, s', rfl, hn0, hf⟩
  · rw [hf] at HFirst
    clear hf
    rcases hfind with ⟨hat, hX, _⟩ | ⟨s1, s2, b, i, hs, _⟩
    · rw [hat] at HAt
      have HWn : Hid (∀ W, Below w.heap.size w W → _) := Lib.hid (fun W hb => when_out (HW.out W hb) hx hX)
      clear hat hX
      go_wp2_with (first
        | (go_at_call 43; refine (HFirst.out).mono ?_; rintro e w1 ⟨rfl, ⟨nd, rfl⟩⟩; have HB1 := Lib.hid (bel_drewN (bel_refl w) nd))
        | (go_at_call 40; refine (HLen.out _ HB1.out).mono ?_; rintro e w1 ⟨rfl, hw9⟩; rw [hw9]; clear hw9)
        | (go_at_call 46; refine (HAll.out _ HB1.out).mono ?_; rintro e w2 ⟨v2, rfl, hR2, hb2⟩; have HR2 := Lib.hid hR2; have HB2 := Lib.hid (bel_trans HB1.out hb2); clear hR2 hb2)
        | (go_at_call 72; refine (HPops.out _ _ _ _ HB2.out HR2.out).mono ?_; rintro e w3 ⟨rfl, hb3⟩; have HB3 := Lib.hid (bel_trans HB2.out hb3); clear hb3)
        | (go_at_call 70; refine (HAt.out _ HB3.out).mono ?_; rintro e w4 ⟨rfl, hb4⟩; have HB4 := Lib.hid (bel_trans HB3.out hb4); clear hb4)
        | (go_at_call 44; refine (HWn.out _ HB4.out).mono ?_; rintro e w5 ⟨rfl, hw9⟩; rw [hw9]; clear hw9)
        | fail)
      go_ret
      exact ⟨rfl, HB4.out⟩
    · cases s1 <;> cases hs
  · rw [hf] at HFirst
    clear hf
    obtain ⟨ad, rfl, d0, d1⟩ := doc_cell (HD.out w (bel_refl w)) (i := 0) (by simp)
    have d0 : w.cell? ad = some (.int .i64 a.f0) := by have := d0; rw [Nat.zero_mul, Addr.add_zero'] at this; exact this
    have d1 : w.cell? ⟨ad.block, ad.off + 1, none⟩ = some (.int .i64 a.f2) := by have := d1; rw [Nat.zero_mul, Addr.add_zero'] at this; exact this
    have hi0 : (0 : Int) < (n : Int) := by omega
    have hgt : (n : Int) > 0 := by omega
    have hne1 : (a.f0 != a.f0) = false := by simp
    have hne2 : (a.f2 != a.f2) = false := by simp
    rcases hfind with ⟨hat, hX, _⟩ | ⟨s1, s2, b, i, hs, hbx, hat, hil, hgi, _⟩
    · rw [hat] at HAt
      have HWn : Hid (∀ W, Below w.heap.size w W → _) := Lib.hid (fun W hb => when_out (HW.out W hb) hx hX)
      clear hat hX
      go_wp2_with (first
        | (go_at_call 43; refine (HFirst.out).mono ?_; rintro e w1 ⟨rfl, ⟨nd, rfl⟩⟩; have HB1 := Lib.hid (bel_drewN (bel_refl w) nd))
        | (go_at_call 40; refine (HLen.out _ HB1.out).mono ?_; rintro e w1 ⟨rfl, hw9⟩; rw [hw9]; clear hw9)
        | (go_at_call 46; refine (HAll.out _ HB1.out).mono ?_; rintro e w2 ⟨v2, rfl, hR2, hb2⟩; have HR2 := Lib.hid hR2; have HB2 := Lib.hid (bel_trans HB1.out hb2); clear hR2 hb2)
        | (go_at_call 72; refine (HPops.out _ _ _ _ HB2.out HR2.out).mono ?_; rintro e w3 ⟨rfl, hb3⟩; have HB3 := Lib.hid (bel_trans HB2.out hb3); clear hb3)
        | (go_at_call 70; refine (HAt.out _ HB3.out).mono ?_; rintro e w4 ⟨rfl, hb4⟩; have HB4 := Lib.hid (bel_trans HB3.out hb4); clear hb4)
        | (go_at_call 44; refine (HWn.out _ HB4.out).mono ?_; rintro e w5 ⟨rfl, hw9⟩; rw [hw9]; clear hw9)
        | fail)
      go_ret
      exact ⟨rfl, HB4.out⟩
    · rw [hat] at HAt
      have HWn : Hid (∀ W, Below w.heap.size w W → _) := Lib.hid (fun W hb => when_in (x := x) (HW.out W hb) hil (by rw [hgi]; exact hbx))
      rw [hgi] at HWn
      have hpn : s1.length < ((a :: s').map toR).length := by have hz := congrArg List.length hs; simp only [List.length_append, List.length_cons, List.length_map] at hz ⊢; omega
      obtain ⟨ad2, e2, q0, _⟩ := doc_cell (HD.out w (bel_refl w)) hpn
      injection e2 with e2
      subst e2
      have hq : ((a :: s').map toR)[s1.length] = toR b := by simp [hs]
      rw [hq] at q0
      have Q0 := Lib.hid (show w.cell? (ad.add (s1.length * 2)) = some (.int .i64 b.f0) from q0)
      rw [List.length_map, ← HN.out] at hpn
      obtain ⟨p, hp⟩ : ∃ p, s1.length = p := ⟨_, rfl⟩
      rw [hp] at HAt Q0 hpn
      have hp0 : (0 : Int) ≤ (p : Int) := by omega
      have hp1 : (p : Int) < (n : Int) := by omega
      have hne3 : (b.f0 == b.f0) = true := by simp
      clear hat hil hgi hs hq q0 hp hbx
      go_wp2_with (first
        | (go_at_call 43; refine (HFirst.out).mono ?_; rintro e w1 ⟨rfl, ⟨nd, rfl⟩⟩; have HB1 := Lib.hid (bel_drewN (bel_refl w) nd))
        | (go_at_call 40; refine (HLen.out _ HB1.out).mono ?_; rintro e w1 ⟨rfl, hw9⟩; rw [hw9]; clear hw9)
        | (go_at_call 46; refine (HAll.out _ HB1.out).mono ?_; rintro e w2 ⟨v2, rfl, hR2, hb2⟩; have HR2 := Lib.hid hR2; have HB2 := Lib.hid (bel_trans HB1.out hb2); clear hR2 hb2)
        | (go_at_call 72; refine (HPops.out _ _ _ _ HB2.out HR2.out).mono ?_; rintro e w3 ⟨rfl, hb3⟩; have HB3 := Lib.hid (bel_trans HB2.out hb3); clear hb3)
        | (go_at_call 70; refine (HAt.out _ HB3.out).mono ?_; rintro e w4 ⟨rfl, hb4⟩; have HB4 := Lib.hid (bel_trans HB3.out hb4); have d4 := bel_cell HB4.out Q0.out; clear hb4)
        | (go_at_call 44; refine (HWn.out _ HB4.out).mono ?_; rintro e w5 ⟨rfl, hw9⟩; rw [hw9]; clear hw9)
        | fail)
      go_ret
      exact ⟨rfl, HB4.out⟩
end
end Go.Proofs.Ytkegdcnnankokaa.Hpi
