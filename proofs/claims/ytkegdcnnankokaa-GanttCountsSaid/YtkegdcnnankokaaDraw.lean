/-
gantt.Draw: each worker's line, written into a builder.
-/
import Derived.Test.YtkegdcnnankokaaSign
import Derived.Test.YtkegdcnnankokaaBuilderLay
import Derived.Test.YtkegdcnnankokaaShelf
import Derived.StillTailTactics
namespace Go.Proofs.Ytkegdcnnankokaa.PGan
set_option linter.unusedVariables false
set_option linter.unusedSimpArgs false
open Go.RowKit Go.Maps Go.Proofs.YtkegdcnnankokaaW.PrintWords Go.Proofs.YtkegdcnnankokaaW.PrintLast Go.Proofs.YtkegdcnnankokaaW.PrintMore
/-- what the walk tells of each part: the sign of its best. -/
def sgOf (l : List S36) (cpu : Int) (r : Int) : Prop := ∃ b m, IsBest (cntT l cpu) b m ∧ r = sgn b m
def part (l : List S36) (width i : Nat) : List S36 := (l.take ((i + 1) * l.length / width)).drop (i * l.length / width)
/-- a line's bytes up to a place: the worker's number, a blank, a sign a part. -/
def LineTo (l : List S36) (width : Nat) (cpu : Int) (j : Nat) (bs : List UInt8) : Prop := ∃ sg : List Int, sg.length = j ∧ bs = (PGad.decP cpu).data.toList ++ 32 :: sg.map (fun n => UInt8.ofNat n.toNat) ∧ ∀ i (h : i < sg.length), sgOf (part l width i) cpu sg[i]
def Lines (l : List S36) (width : Nat) (cpus : List Int) (out : List ByteArray) : Prop := out.length = cpus.length ∧ ∀ i (h : i < out.length) (h' : i < cpus.length), LineTo l width cpus[i] width out[i].data.toList
theorem fresh_builder (w : World) : Lib.IsBuilder 94 5 w.heap.size w.heap.size (Lib.byteCells []) (w.alloc (.cells #[.pointer none, .slice none 0 0] 94)) := by
  refine .inl ⟨Nat.le_refl _, .slice none 0 0, heap_alloc_new w _, ?_, by simp [Value.ownBlock]⟩
  exact World.ownsRow_nil _ _ _ _
theorem region_tail {P : Program} {id : Nat} {Q : Exit → Act → World → Prop} {a : Act} {w : World} {l : List Oper} (n : Nat) (hm : P.follows .mixedOrders = true) (hB : Region.lexTailB .any l.toArray n = true)
    (W : World) (hW : W = w.drew) (h : wpStill P l.toArray W (fun a' => wpList P l.toArray Q (l.drop n) a' W) (l.take n) a) : (Code.region id l.toArray true).wp P Q a w := by
  subst hW; exact wp_region_still_tail n hm hB h
theorem builder_keep {B b : Nat} {bs : List Value} {w w' : World} (h : Lib.IsBuilder 94 5 B b bs w) (hb : Below w.heap.size w w') : Lib.IsBuilder 94 5 B b bs w' := by
  have key : ∀ p, Lib.BuilderAt 94 5 B b p bs w → Lib.BuilderAt 94 5 B b p bs w' := by
    rintro p ⟨h1, v, h2, h3, h4⟩
    have hlt : b < w.heap.size := (Array.getElem?_eq_some_iff.1 h2).1
    exact ⟨h1, v, (hb.block b hlt).trans h2, h3.kept (row := none) ⟨hb.os, hb.tape, hb.output, hb.size, fun i hi _ => hb.block i hi⟩ (by cases v.ownBlock <;> simp), h4⟩
  rcases h with h | h
  · exact .inl (key _ h)
  · exact .inr (key _ h)
theorem part_b (n W j : Nat) (hj : j < W) : j * n / W ≤ (j + 1) * n / W ∧ (j + 1) * n / W ≤ n := by
  have hW : 0 < W := by omega
  refine ⟨Nat.div_le_div_right (Nat.mul_le_mul_right n (Nat.le_succ j)), ?_⟩
  have h : (j + 1) * n ≤ W * n := Nat.mul_le_mul_right n hj
  have := Nat.div_le_div_right (c := W) h
  rwa [Nat.mul_div_cancel_left n hW] at this
theorem part_n (n W j : Nat) (hn : n ≤ 60) (hj : j ≤ 200) : wrap64 ((j : Int) * (n : Int)) = ((j * n : Nat) : Int) ∧ wrap64 (Int.tdiv ((j * n : Nat) : Int) (W : Int)) = ((j * n / W : Nat) : Int) := by
  have h1 : j * n ≤ 200 * 60 := Nat.mul_le_mul hj hn
  have h2 : j * n / W ≤ j * n := Nat.div_le_self _ _
  have e : (j : Int) * (n : Int) = ((j * n : Nat) : Int) := by push_cast; rfl
  have e2 : Int.tdiv ((j * n : Nat) : Int) (W : Int) = ((j * n / W : Nat) : Int) := rfl
  refine ⟨?_, ?_⟩
  · rw [e, wrap_nat (by omega) (by omega)]
  · rw [e2]
    generalize j * n / W = q at h2 ⊢
    clear e e2
    exact wrap_nat (by omega) (by omega)
theorem part_len {l : List S36} {W j : Nat} (hj : j < W) : (part l W j).length = (j + 1) * l.length / W - j * l.length / W := by
  have := part_b l.length W j hj
  unfold part
  rw [List.length_drop, List.length_take]
  omega
/-- where a part lies. -/
def partA (A : Option Addr) (c n W j : Nat) : Option Addr := if c = j * n / W then A else A.map (·.add (j * n / W * 5))
theorem draw_cut (A : Option Addr) (c : Nat) (l : List S36) (W j : Nat) (hj : j < W) (hc : l.length ≤ c) : ∀ V : World, (Instr.slice 22 (.slice A l.length c) (some (.int .i64 ((j * l.length / W : Nat) : Int))) (some (.int .i64 (((j + 1) * l.length / W : Nat) : Int))) none).run Try.prog V = .ok (.slice (partA A c l.length W j) (part l W j).length (c - j * l.length / W)) V := by
  obtain ⟨p1, p2⟩ := part_b l.length W j hj
  obtain ⟨i36, hi36, _, hsz36, _⟩ := info_parts info36
  have hcut := cut_mid (P := Try.prog) 22 36 .i64 .i64 Try.underlying22 hi36 5 hsz36 A l.length c ((j * l.length / W : Nat) : Int) (((j + 1) * l.length / W : Nat) : Int) (Int.natCast_nonneg _) (Int.ofNat_le.2 p1) (Int.ofNat_le.2 p2) hc
  simp only [Int.toNat_natCast] at hcut
  rw [← part_len (l := l) hj] at hcut
  exact hcut
theorem draw_part {w : World} {A : Option Addr} {c : Nat} {l : List S36} {W j : Nat} (hj : j < W) (hc : l.length ≤ c) (hr : Kd.C k36 w A l.length l) : Kd.C k36 w (partA A c l.length W j) (part l W j).length (part l W j) := by
  obtain ⟨p1, p2⟩ := part_b l.length W j hj
  exact Kd.C_drop (m := j * l.length / W) (c := c) (Kd.C_take (m := (j + 1) * l.length / W) hr p2) (by rw [List.length_take]; omega) (by rw [List.length_take]; omega)
theorem draw_num (n W j : Nat) (hn : n ≤ 60) (hW : W ≤ 200) (hj : j < W) : wrap64 ((j : Int) * (n : Int)) = ((j * n : Nat) : Int) ∧ wrap64 (Int.tdiv ((j * n : Nat) : Int) (W : Int)) = ((j * n / W : Nat) : Int) ∧ wrap64 ((j : Int) + 1) = ((j + 1 : Nat) : Int) ∧ wrap64 (((j + 1 : Nat) : Int) * (n : Int)) = (((j + 1) * n : Nat) : Int) ∧ wrap64 (Int.tdiv (((j + 1) * n : Nat) : Int) (W : Int)) = (((j + 1) * n / W : Nat) : Int) ∧ ((W : Int) = 0) = False ∧ ((W : Int) == 0) = false := by
  obtain ⟨n1, n2⟩ := part_n n W j hn (by omega)
  obtain ⟨n3, n4⟩ := part_n n W (j + 1) hn (by omega)
  exact ⟨n1, n2, wrap_up (by omega), n3, n4, eq_false (by omega), by simp; omega⟩
theorem part_sub {l : List S36} {W j : Nat} {e : S36} (h : e ∈ part l W j) : e ∈ l := List.mem_of_mem_take (List.mem_of_mem_drop h)
theorem part_le (l : List S36) (W j : Nat) : (part l W j).length ≤ l.length := by
  unfold part
  rw [List.length_drop, List.length_take]
  generalize (j + 1) * l.length / W = x
  generalize j * l.length / W = y
  omega
theorem le_big {n : Nat} (h : n ≤ 60) {m : Nat} (hm : m ≤ n) : m ≤ 1000000 := by omega
theorem line_room (S : ByteArray) (sg : List Int) (h : S.size ≤ 21) (h2 : sg.length ≤ 200) : (Lib.byteCells (S.data.toList ++ 32 :: sg.map (fun n => UInt8.ofNat n.toNat))).length + 1 ≤ 140737488355328 := by
  have : S.data.toList.length = S.size := rfl
  simp [Lib.byteCells]
  omega
theorem sgn_byte (b m : Int) : (((UInt8.ofNat (sgn b m).toNat).toNat : Nat) : Int) = sgn b m := by
  unfold sgn
  split
  · rfl
  · have : (PGad.dch (b.natAbs % 10)).toNat < 256 := UInt8.toNat_lt _
    simp
theorem bytes_snoc (p : List UInt8) (sg : List Int) (b m : Int) : Lib.byteCells (p ++ 32 :: sg.map (fun n => UInt8.ofNat n.toNat)) ++ [.int .u8 (sgn b m)] = Lib.byteCells (p ++ 32 :: (sg ++ [sgn b m]).map (fun n => UInt8.ofNat n.toNat)) := by
  have h := sgn_byte b m
  simp only [Lib.byteCells, List.map_append, List.map_cons, List.map_nil, List.append_assoc, List.cons_append]
  rw [h]
theorem sg_snoc {l : List S36} {W : Nat} {cpu : Int} {sg : List Int} {j : Nat} (hl : sg.length = j) (h : ∀ q (h : q < sg.length), sgOf (part l W q) cpu sg[q]) {r : Int} (hr : sgOf (part l W j) cpu r) : ∀ q (h : q < (sg ++ [r]).length), sgOf (part l W q) cpu (sg ++ [r])[q] := by
  intro q hq
  by_cases e : q < sg.length
  · rw [List.getElem_append_left e]; exact h q e
  · have e2 : q = j := by simp at hq; omega
    subst e2
    rw [List.getElem_append_right (by omega)]
    simpa [hl] using hr
theorem lines_snoc {l : List S36} {W : Nat} {cpus : List Int} {out : List ByteArray} {i : Nat} (hi : i < cpus.length) (h : Lines l W (cpus.take i) out) {s : ByteArray} (hs : LineTo l W cpus[i] W s.data.toList) : Lines l W (cpus.take (i + 1)) (out ++ [s]) := by
  obtain ⟨h1, h2⟩ := h
  rw [List.length_take] at h1
  refine ⟨by simp; omega, fun q hq hq2 => ?_⟩
  by_cases e : q < out.length
  · have := h2 q e (by rw [List.length_take]; omega)
    rw [List.getElem_append_left e]
    simpa using this
  · have e2 : q = i := by simp at hq; omega
    subst e2
    rw [List.getElem_append_right (by omega)]
    simpa using hs
def wid (n : Int) : Nat := (max 1 (min n 200)).toNat
set_option maxRecDepth 100000 in
set_option maxHeartbeats 4000000 in
theorem draw_any (A : Option Addr) (c : Nat) (l : List S36) (A1 : Option Addr) (c1 : Nat) (cpus : List Int) (width : Int) (w : World) (hr : Kd.C k36 w A l.length l) (hc : l.length ≤ c) (hr1 : Kd.C (Kd.int .i64) w A1 cpus.length cpus) (hl : l.length ≤ 60) (hl1 : cpus.length ≤ 10)
    (hwf : ∀ e ∈ l, (Lit.int .i64 e.f1).wf = true) (hwf1 : ∀ n ∈ cpus, (Lit.int .i64 n).wf = true) :
    Calls Try.prog 18 #[.slice A l.length c, .slice A1 cpus.length c1, .int .i64 width] w fun e w' => ∃ (v : Value) (r : List ByteArray), e = .returned v ∧ Kd.R Kd.string 9 w' w.heap.size (fun _ => True) v r ∧ Lines l (wid width) cpus r ∧ Below w.heap.size w w' := by
  go_enter Try.func18, Try.ntmps18
  obtain ⟨W, hW⟩ : ∃ W : Nat, max 1 (min width 200) = (W : Int) := ⟨(max 1 (min width 200)).toNat, by omega⟩
  have hW1 : 1 ≤ W := by omega
  have hW2 : W ≤ 200 := by omega
  go_wp2
  go_loopw [6, 16] (fun v6 v16 wr => ∃ (i : Nat) (out : List ByteArray), v16 = .int .i64 (i : Int) ∧ i ≤ cpus.length ∧ Kd.R Kd.string 9 wr w.heap.size (fun _ => True) v6 out ∧ Lines l W (cpus.take i) out ∧ Below w.heap.size w wr) (fun _ v16 _ => match v16 with | .int _ n => cpus.length - n.toNat | _ => 0)
  case atStart => exact ⟨0, [], rfl, Nat.zero_le _, Kd.R_nil _ _ _ _ _, ⟨rfl, fun i h => absurd h (by simp)⟩, Below.refl _ _⟩
  case round =>
    obtain ⟨i, out, rfl, hi, hR, hL, hB⟩ := hrel
    by_cases hlt : i < cpus.length
    · have hd : decide ((i : Int) < (cpus.length : Int)) = true := by simpa using hlt
      have hz : (0 : Int) ≤ (i : Int) := by omega
      obtain ⟨ad, e, hx⟩ := Kd.at_int (Kd.C_below hr1 hB) (i : Int) (by omega) (by omega)
      subst e
      rw [rd_at hlt, Int.toNat_natCast] at hx
      obtain ⟨cpu, hcpu⟩ : ∃ cpu, cpus[i] = cpu := ⟨_, rfl⟩
      rw [hcpu] at hx
      have hcw := wf_b64 (hwf1 cpu (hcpu ▸ List.getElem_mem hlt))
      obtain ⟨kd, hk⟩ := (PGad.dec_ev cpu hcw.1 hcw.2).rounds
      have hds := PGad.decP_size cpu hcw.1 hcw.2
      obtain ⟨S, hS⟩ : ∃ S, PGad.decP cpu = S := ⟨_, rfl⟩
      rw [hS] at hk hds
      have HDC := fun w1 => Aside0.mk (PGad.gantt_dec.calls kd cpu S w1 hk)
      have hsz : S.size + 1 ≤ 9223372036854775807 := by omega
      have HWS := fun nd => Aside0.mk (Try.Builder_WriteStringB wr.heap.size wr.heap.size [] (S ++ ⟨#[32]⟩) ((wr.alloc (.cells #[.pointer none, .slice none 0 0] 94)).drewN nd) (show Lib.IsBuilder 94 5 wr.heap.size wr.heap.size [] ((wr.alloc (.cells #[.pointer none, .slice none 0 0] 94)).drewN nd) from fresh_builder wr) (by rw [ByteArray.size_append]; have : (⟨#[32]⟩ : ByteArray).size = 1 := rfl; simp; omega) (by simp [World.size_alloc]))
      clear hcw hk hW
      go_wp2_with (first
        | (go_at_call 49; refine ((HDC _).out).mono ?_; rintro e w4 ⟨rfl, ⟨nd, rfl⟩⟩)
        | (go_at_call 48; refine ((HWS nd).out).mono ?_; rintro e w5 ⟨rfl, hbd, hbb⟩)
        | go_in)
      obtain ⟨w3, rfl⟩ : ∃ w3, w3 = wr := ⟨_, rfl⟩
      obtain ⟨bb, hbbv⟩ : ∃ bb, w3.heap.size = bb := ⟨_, rfl⟩
      rw [hbbv] at hbd hbb ⊢
      have hLen : (S ++ ⟨#[32]⟩ : ByteArray).size = S.size + 1 := by rw [ByteArray.size_append]; rfl
      have hB0 : Lib.IsBuilder 94 5 bb bb (Lib.byteCells (S.data.toList ++ [32])) w5 := .inr (by
        have e : Lib.strCells (S ++ ⟨#[32]⟩) = Lib.byteCells (S.data.toList ++ [32]) := by simp [Lib.strCells, Lib.byteCells, ByteArray.data_append]
        rw [e] at hbd
        exact hbd)
      have hB5 : Below w.heap.size w w5 := hB.trans ((xb ((Below.refl bb w3).alloc (Nat.le_of_eq hbbv.symm) _) nd).trans hbb |>.mono (hbbv ▸ hB.size))
      have hB3 : Below bb w3 w5 := (xb ((Below.refl bb w3).alloc (Nat.le_of_eq hbbv.symm) _) nd).trans hbb
      clear HWS HDC hbd hbb
      go_loopw [25] (fun v25 wq => ∃ (j : Nat) (sg : List Int), v25 = .int .i64 (j : Int) ∧ j ≤ W ∧ sg.length = j ∧ (∀ q (h : q < sg.length), sgOf (part l W q) cpu sg[q]) ∧ Lib.IsBuilder 94 5 bb bb (Lib.byteCells (S.data.toList ++ 32 :: sg.map (fun n => UInt8.ofNat n.toNat))) wq ∧ Below bb w3 wq ∧ Below w.heap.size w wq) (fun v25 _ => match v25 with | .int _ n => W - n.toNat | _ => 0)
      case atStart => exact ⟨0, [], rfl, Nat.zero_le _, rfl, fun q h => absurd h (by simp), hB0, hB3, hB5⟩
      case round =>
        obtain ⟨j, sg, rfl, hj, hsl, hsg, hbl, hq3, hq⟩ := hrel
        by_cases hjl : j < W
        · have hjd : decide ((j : Int) < (W : Int)) = true := by simpa using hjl
          have HLB := Aside0.mk (line_room S sg hds (by rw [hsl]; exact Nat.le_trans hj hW2))
          obtain ⟨n1, n2, hj1, n3, n4, hW0, hW0b⟩ := draw_num l.length W j hl hW2 hjl
          have hcut := draw_cut A c l W j hjl hc
          have HCP := Aside0.mk (draw_part hjl hc hr)
          obtain ⟨A', hA'⟩ : ∃ A', partA A c l.length W j = A' := ⟨_, rfl⟩
          obtain ⟨cc, hcc⟩ : ∃ cc, c - j * l.length / W = cc := ⟨_, rfl⟩
          obtain ⟨P, hP⟩ : ∃ P, part l W j = P := ⟨_, rfl⟩
          have HP := Aside0.mk hP
          have hPw : ∀ e ∈ P, (Lit.int .i64 e.f1).wf = true := fun e he => hwf e (part_sub (hP ▸ he))
          have hPl : P.length ≤ 1000000 := le_big hl (hP ▸ part_le l W j)
          rw [hA', hP] at HCP
          rw [hA', hcc, hP] at hcut
          have HSG := fun w1 (hb : Below w.heap.size w w1) => Aside0.mk (sign_any A' cc P cpu w1 (Kd.C_below HCP.out hb) hPl hPw)
          have HQ := Aside0.mk hq
          have HQ3 := Aside0.mk hq3
          have HBL := Aside0.mk hbl
          have HJ1 := Aside0.mk hj1
          obtain ⟨x1, hx1⟩ : ∃ x1 : Int, ((j * l.length : Nat) : Int) = x1 := ⟨_, rfl⟩
          obtain ⟨x2, hx2⟩ : ∃ x2 : Int, ((j * l.length / W : Nat) : Int) = x2 := ⟨_, rfl⟩
          obtain ⟨y1, hy1⟩ : ∃ y1 : Int, (((j + 1) * l.length : Nat) : Int) = y1 := ⟨_, rfl⟩
          obtain ⟨y2, hy2⟩ : ∃ y2 : Int, (((j + 1) * l.length / W : Nat) : Int) = y2 := ⟨_, rfl⟩
          obtain ⟨y0, hy0⟩ : ∃ y0 : Int, ((j + 1 : Nat) : Int) = y0 := ⟨_, rfl⟩
          rw [hx1] at n1 n2
          rw [hy0] at hj1 n3
          rw [hy1] at n3 n4
          rw [hx2] at n2 hcut
          rw [hy2] at n4 hcut
          have m1 : IntKind.i64.wrap ((j : Int) * (l.length : Int)) = x1 := (i64_w _).trans n1
          have m2 : IntKind.i64.wrap (Int.tdiv x1 (W : Int)) = x2 := (i64_w _).trans n2
          have m0 : IntKind.i64.wrap ((j : Int) + 1) = y0 := (i64_w _).trans hj1
          have m3 : IntKind.i64.wrap (y0 * (l.length : Int)) = y1 := (i64_w _).trans n3
          have m4 : IntKind.i64.wrap (Int.tdiv y1 (W : Int)) = y2 := (i64_w _).trans n4
          have hWn : (W = 0) = False := eq_false (Nat.ne_of_gt hW1)
          have hWm : ¬ (W = 0) := Nat.ne_of_gt hW1
          have HY0 := Aside0.mk hy0
          have HSL := Aside0.mk hsl
          clear hP hPw hPl hA' hcc hq hq3 hbl hl hx1 hx2 hy1 hy2 hy0 hsl
          go_wp2
          refine region_tail 16 (by kernel_rfl) (by kernel_rfl) _ rfl ?_
          simp only [List.take_succ_cons, List.take_zero, List.drop_succ_cons, List.drop_zero]
          repeat still_step
          refine wpStill_nil ?_
          go_wp2_with (first
            | (go_at_call 51; refine ((HSG _ (xc HQ.out)).out).mono ?_; rintro e w6 ⟨b, m, hbst, rfl, hb6⟩)
            | (go_at_call 50; refine (Try.Builder_WriteByteB bb bb _ _ w6 (builder_keep (show Lib.IsBuilder 94 5 bb bb _ wr.drew from HBL.out) hb6) HLB.out (hbbv ▸ Nat.le_trans HQ3.out.size hb6.size)).mono ?_; rintro e w7 ⟨rfl, hbd7, hb7⟩)
            | go_in)
          go_roundw
          case rel =>
            refine ⟨j + 1, sg ++ [sgn b m], by rw [HY0.out], hjl, by simp [HSL.out], sg_snoc HSL.out hsg ⟨b, m, by rw [HP.out]; exact hbst, rfl⟩, .inr ?_, ?_, ?_⟩
            · rw [bytes_snoc] at hbd7; exact hbd7
            · exact (xc HQ3.out).trans ((hb6.mono (hbbv ▸ HQ3.out.size)).trans hb7)
            · exact (xc HQ.out).trans ((hb6.mono HQ.out.size).trans (hb7.mono (hbbv ▸ hB.size)))
          case measure => rw [← HY0.out]; exact (show W - (j + 1) < W - j from Nat.sub_lt_sub_left hjl (Nat.lt_succ_self j))
        · have hjd : decide ((j : Int) < (W : Int)) = false := by simpa using hjl
          have hjn : (j < W) = False := eq_false hjl
          obtain ⟨BY, hBY⟩ : ∃ BY, S.data.toList ++ 32 :: sg.map (fun n => UInt8.ofNat n.toNat) = BY := ⟨_, rfl⟩
          rw [hBY] at hbl
          have hLn : LineTo l W cpu W BY := ⟨sg, by omega, by rw [← hBY, hS], hsg⟩
          have HST := Aside0.mk (Try.Builder_String_any bb bb BY wr hbl (hbbv ▸ hq3.size))
          have HR3 := Aside0.mk hR
          have HQ3 := Aside0.mk hq3
          have hroom : (out.length + 1) * 16 ≤ 140737488355328 := by have := hL.1; rw [List.length_take] at this; omega
          have hi1 : wrap64 ((i : Int) + 1) = ((i + 1 : Nat) : Int) := wrap_up (by omega)
          have HI1 := Aside0.mk hi1
          have HQ := Aside0.mk hq
          have HRM := Aside0.mk hroom
          have HL2 := Aside0.mk (lines_snoc (s := ⟨BY.toArray⟩) hlt hL (by rw [hcpu]; exact hLn))
          clear hroom hi1 hLn hbl hq hq3 hL hR hl hl1 hjl
          go_wp2_with (first
            | (go_at_call 52; refine (HST.out).mono ?_; rintro e w6 ⟨rfl, hb6⟩)
            | ((with_reducible refine gate_builtin (b := .append) (xs := #[.tmp 47, .tmp 49]) rfl ?_); at_builtin; refine Kd.R_append Kd.string (w0 := w) w.heap.size rfl (.tmp 47) (.tmp 49) 31 9 (.string ⟨#[]⟩) 16 rfl Try.underlying31 info9 rfl (by decide) (by omega) u6 out ⟨BY.toArray⟩ [.string ⟨BY.toArray⟩] (fun _ => True) (fun _ => False) rfl rfl ?aP (fun _ hk => hk.elim) ?aF ?aO ?aB ?aS ?aL ?_; (case aP => exact rfl); (case aF => exact fun _ _ => trivial); (case aO => exact Kd.R_below HR3.out (by rw [hbbv]; exact HQ3.out.trans hb6)); (case aB => exact HQ.out.trans (hb6.mono (hbbv ▸ hB.size))); (case aS => exact (HQ.out.trans (hb6.mono (hbbv ▸ hB.size))).size); (case aL => exact HRM.out); intro v7 w7 ho hb hg hat)
            | go_in)
          go_roundw
          case rel => exact ⟨i + 1, out ++ [⟨BY.toArray⟩], by rw [HI1.out], hlt, ho, HL2.out, hb⟩
          case measure => rw [HI1.out]; exact (show cpus.length - (i + 1) < cpus.length - i from Nat.sub_lt_sub_left hlt (Nat.lt_succ_self i))
    · have hd : decide ((i : Int) < (cpus.length : Int)) = false := by simpa using hlt
      have hLe : Lines l (wid width) cpus out := by
        have e : cpus.take i = cpus := List.take_of_length_le (by omega)
        rw [e] at hL
        have e2 : wid width = W := by unfold wid; omega
        rw [e2]; exact hL
      clear hl hl1 hW
      go_wp2
      go_ret
      exact ⟨u6, out, rfl, hR, hLe, hB⟩
end Go.Proofs.Ytkegdcnnankokaa.PGan
