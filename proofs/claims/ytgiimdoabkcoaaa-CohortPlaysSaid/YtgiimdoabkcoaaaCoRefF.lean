/-
The document's answer for cohort (pinfoldref14), plain.
-/
import Derived.Test.YtgiimdoabkcoaaaPureKit
import Derived.Test.YtgiimdoabkcoaaaPCoax3
import Derived.Test.YtgiimdoabkcoaaaPCoax2
import Derived.Test.YtgiimdoabkcoaaaCoTieP
namespace Go.Proofs.Ytgiimdoabkcoaaa.PCoa
set_option linter.unusedVariables false
set_option linter.unusedSimpArgs false
open Go.RowKit Go.Proofs.YtgiimdoabkcoaaaW.PrintWords Go.Proofs.YtgiimdoabkcoaaaW.PrintLast Go.Proofs.YtgiimdoabkcoaaaW.PrintMore Go.Proofs.Ytgiimdoabkcoaaa.Co
abbrev SW := S95
def ofW (p : Wt) : SW := ⟨p.1, p.2⟩
theorem rdw_at {xs : List Wt} {i : Nat} (h : i < xs.length) : rd_T95 (xs.map ofW) (i : Int) = ofW xs[i] := by simp [rd_T95, List.getElem?_eq_getElem h]
/-- is a number in a row? -/
theorem has_l0 (s : Int) (l : List Int) (hn : l.length ≤ 1000000) : ∀ (d i : Nat), l.length - i = d → i ≤ l.length → EvP (fun k => pinfoldref14_has.l0 k s l (l.length : Int) (i : Int)) (· = decide (s ∈ l.drop i)) := by
  intro d
  induction d with
  | zero =>
    intro i hd hi
    obtain rfl : i = l.length := by omega
    refine EvP.succ ?_
    simp only [pinfoldref14_has.l0]
    refine EvP.neg (by omega) (EvP.now ?_)
    simp
  | succ d ih =>
    intro i hd hi
    have hl : i < l.length := by omega
    refine EvP.succ ?_
    simp only [pinfoldref14_has.l0]
    rw [rd_at hl, wrap_up (by omega), List.drop_eq_getElem_cons hl]
    refine EvP.pos (by omega) (EvP.pos (by omega) (EvP.pos (by omega) (EvP.ite (fun h => EvP.now ?_) (fun h => ?_))))
    · simp [h]
    · refine (ih (i + 1) (by omega) (by omega)).mono (fun r hr => hr.trans ?_)
      rw [Bool.eq_iff_iff, decide_eq_true_iff, decide_eq_true_iff, List.mem_cons]
      exact ⟨.inr, fun q => q.resolve_left (fun e => h e.symm)⟩
theorem has_f (s : Int) (l : List Int) (hn : l.length ≤ 1000000) : EvP (fun k => pinfoldref14_has.f k l s) (· = decide (s ∈ l)) := by
  have := has_l0 s l hn _ 0 rfl (Nat.zero_le _)
  simpa [pinfoldref14_has.f] using this
theorem told_l1 (s : Int) (l : List Int) (hn : l.length ≤ 1000000) (h : Bool) (o so ps : Int) (wv : List SW) : ∀ (d i : Nat) (out : List Int), l.length - i = d → i ≤ l.length → out.length ≤ i → EvP (fun k => pinfoldref14_told.l1 k s l (l.length : Int) (i : Int) h o so ps wv out) (· = (h, o, so, ps, wv, out ++ (l.drop i).filter (ne s))) := by
  intro d
  induction d with
  | zero =>
    intro i out hd hi ho
    obtain rfl : i = l.length := by omega
    refine EvP.succ ?_
    simp only [pinfoldref14_told.l1]
    refine EvP.neg (by omega) (EvP.now ?_)
    simp
  | succ d ih =>
    intro i out hd hi ho
    have hl : i < l.length := by omega
    refine EvP.succ ?_
    simp only [pinfoldref14_told.l1]
    rw [rd_at hl, wrap_up (by omega), List.drop_eq_getElem_cons hl]
    refine EvP.pos (by omega) (EvP.pos (by omega) (EvP.pos (by omega) (EvP.ite (fun q => ?_) (fun q => EvP.pos (by omega) ?_))))
    · rw [List.filter_cons_of_neg (by simp [ne, q])]
      exact ih (i + 1) out (by omega) (by omega) (by omega)
    · rw [List.filter_cons_of_pos (ne_iff.2 q)]
      have := ih (i + 1) (out ++ [l[i]]) (by omega) (by omega) (by simp; omega)
      rw [List.append_assoc] at this
      exact this
def tR (s : Int) (h : Bool) (so ps : Int) (rnd : List Int) : Bool → Bool → Int → List Wt → List Wt → Bool × Int × Int × Int × List SW × List Int
  | _, more, o, out, [] => (h, o, so, ps, out.map ofW, if more = true then rnd else rnd.filter (ne s))
  | done, more, o, out, w :: t => if w.2 = s ∧ done = false then tR s h so ps rnd true more w.1 out t else tR s h so ps rnd done (more || decide (w.2 = s)) o (out ++ [w]) t
theorem told_l0 (s : Int) (xs : List Wt) (hn : xs.length ≤ 1000000) (h : Bool) (so ps : Int) (rnd : List Int) (hr : rnd.length ≤ 1000000) (x0 : Bool) (x1 x2 x3 : Int) (x4 : List SW) : ∀ (d i : Nat) (done more : Bool) (o : Int) (out : List Wt), xs.length - i = d → i ≤ xs.length → out.length ≤ i → EvP (fun k => pinfoldref14_told.l0 k s done more (xs.map ofW) (xs.length : Int) (i : Int) x0 x1 x2 x3 x4 rnd h o so ps (out.map ofW) rnd) (· = tR s h so ps rnd done more o out (xs.drop i)) := by
  intro d
  induction d with
  | zero =>
    intro i done more o out hd hi ho
    obtain rfl : i = xs.length := by omega
    refine EvP.succ ?_
    simp only [pinfoldref14_told.l0]
    refine EvP.neg (by omega) (EvP.ite (fun q => EvP.now ?_) (fun q => ?_))
    · rw [List.drop_length, tR, if_pos q]
    · have := told_l1 s rnd hr h o so ps (out.map ofW) _ 0 [] rfl (Nat.zero_le _) (Nat.zero_le _)
      rw [List.drop_length, tR, if_neg q]
      simpa using this
  | succ d ih =>
    intro i done more o out hd hi ho
    have hl : i < xs.length := by omega
    refine EvP.succ ?_
    simp only [pinfoldref14_told.l0]
    rw [rdw_at hl, wrap_up (by omega), List.drop_eq_getElem_cons hl]
    have hap : out.map ofW ++ [(⟨(ofW xs[i]).f0, (ofW xs[i]).f1⟩ : SW)] = (out ++ [xs[i]]).map ofW := by simp [ofW]
    rw [hap]
    have hlen : (out.map ofW).length = out.length := List.length_map _
    refine EvP.pos (by omega) (EvP.pos (by omega) (EvP.pos (by simp; omega) (EvP.ite (fun q => EvP.ite (fun hd1 => EvP.ite (fun hm => EvP.pos (by omega) ?_) (fun hm => EvP.pos (by omega) ?_)) (fun hd1 => ?_)) (fun q => EvP.ite (fun hm => EvP.pos (by omega) ?_) (fun hm => EvP.pos (by omega) ?_)))))
    · have q : xs[i].2 = s := q
      rw [tR, if_neg (by rw [hd1]; simp)]
      have := ih (i + 1) done true o (out ++ [xs[i]]) (by omega) (by omega) (by simp; omega)
      rw [hm]
      exact this
    · have q : xs[i].2 = s := q
      rw [tR, if_neg (by rw [hd1]; simp)]
      have := ih (i + 1) done (more || decide (xs[i].2 = s)) o (out ++ [xs[i]]) (by omega) (by omega) (by simp; omega)
      have hb : ((ofW xs[i]).f1 == s) = (more || decide (xs[i].2 = s)) := by rw [show more = false by simpa using hm]; rfl
      rw [hb]
      exact this
    · have q : xs[i].2 = s := q
      rw [tR, if_pos ⟨q, by simpa using hd1⟩]
      exact ih (i + 1) true more xs[i].1 out (by omega) (by omega) (by omega)
    · have q : ¬ xs[i].2 = s := q
      rw [tR, if_neg (fun e => q e.1)]
      have := ih (i + 1) done true o (out ++ [xs[i]]) (by omega) (by omega) (by simp; omega)
      rw [hm]
      exact this
    · have q : ¬ xs[i].2 = s := q
      rw [tR, if_neg (fun e => q e.1)]
      have := ih (i + 1) done (more || decide (xs[i].2 = s)) o (out ++ [xs[i]]) (by omega) (by omega) (by simp; omega)
      have hb : ((ofW xs[i]).f1 == s) = (more || decide (xs[i].2 = s)) := by rw [show more = false by simpa using hm]; rfl
      rw [hb]
      exact this
theorem tR_done (s : Int) (h : Bool) (so ps : Int) (rnd : List Int) : ∀ (t : List Wt) (more : Bool) (o : Int) (out : List Wt), tR s h so ps rnd true more o out t = (h, o, so, ps, (out ++ t).map ofW, if more = true ∨ ofS t s ≠ [] then rnd else rnd.filter (ne s))
  | [], more, o, out => by simp [tR, ofS]
  | w :: t, more, o, out => by
    rw [tR, if_neg (by simp), tR_done s h so ps rnd t]
    rw [List.append_assoc]
    by_cases q : w.2 = s
    · have : ofS (w :: t) s ≠ [] := by unfold ofS; rw [List.filter_cons_of_pos (by simp [q])]; simp
      simp [this, q]
    · have : ofS (w :: t) s = ofS t s := by unfold ofS; rw [List.filter_cons_of_neg (by simp [q])]
      simp [this, q]
theorem tR_start (s : Int) (h : Bool) (so ps : Int) (rnd : List Int) : ∀ (t : List Wt) (o : Int) (out : List Wt), tR s h so ps rnd false false o out t = (h, headF t s o, so, ps, (out ++ dropF t s).map ofW, if ofS (dropF t s) s = [] then rnd.filter (ne s) else rnd)
  | [], o, out => by simp [tR, headF, dropF, ofS]
  | w :: t, o, out => by
    by_cases q : w.2 = s
    · rw [tR, if_pos ⟨q, rfl⟩, tR_done]
      have h1 : headF (w :: t) s o = w.1 := by unfold headF ofS; rw [List.filter_cons_of_pos (by simp [q])]
      have h2 : dropF (w :: t) s = t := by unfold dropF; rw [if_pos q]
      rw [h1, h2]
      by_cases e : ofS t s = [] <;> simp [e]
    · rw [tR, if_neg (fun e => q e.1)]
      have h0 : (false || decide (w.2 = s)) = false := by simp [q]
      have h1 : headF (w :: t) s o = headF t s o := by
        have : ofS (w :: t) s = ofS t s := by unfold ofS; rw [List.filter_cons_of_neg (by simp [q])]
        unfold headF; rw [this]
      have h2 : dropF (w :: t) s = w :: dropF t s := by rw [dropF, if_neg q]
      have h3 : ofS (w :: dropF t s) s = ofS (dropF t s) s := by unfold ofS; rw [List.filter_cons_of_neg (by simp [q])]
      rw [h0, tR_start s h so ps rnd t, h1, h2, h3, List.append_assoc]
      rfl
theorem told_f (y : DL) (s : Int) (hn : y.waits.length ≤ 1000000) (hr : y.round.length ≤ 1000000) :
    EvP (fun k => pinfoldref14_told.f k y.held y.owner y.socket y.passes (y.waits.map ofW) y.round s) (· = ((rTold y s).held, (rTold y s).owner, (rTold y s).socket, (rTold y s).passes, (rTold y s).waits.map ofW, (rTold y s).round)) := by
  have := told_l0 s y.waits hn y.held y.socket y.passes y.round hr y.held y.owner y.socket y.passes (y.waits.map ofW) _ 0 false false y.owner [] rfl (Nat.zero_le _) (Nat.zero_le _)
  rw [List.drop_zero, tR_start] at this
  simp only [pinfoldref14_told.f, List.length_map]
  exact this
theorem wait_l1 (s i len : Int) (l : List Int) (xs : List Wt) (hx : xs.length ≤ 1000) (x0 : Bool) (x1 x2 x3 : Int) (R : List Int) (B : Nat) (hB : B ≤ 1000000)
    (hk : ∀ out : List Int, out.length ≤ B + xs.length → EvP (fun k => pinfoldref14_Waiting.l0 k out l len (wrap64 (i + 1)) x0 x1 x2 x3 (xs.map ofW) l) (· = out ++ R)) : ∀ (d j : Nat) (out : List Int), xs.length - j = d → j ≤ xs.length → out.length ≤ B + j →
    EvP (fun k => pinfoldref14_Waiting.l1 k out s l len i (xs.map ofW) (xs.length : Int) (j : Int) x0 x1 x2 x3 (xs.map ofW) l) (· = out ++ ((ofS (xs.drop j) s).map (·.1) ++ R)) := by
  intro d
  induction d with
  | zero =>
    intro j out hd hj ho
    obtain rfl : j = xs.length := by omega
    refine EvP.succ ?_
    simp only [pinfoldref14_Waiting.l1]
    refine EvP.neg (by omega) ?_
    refine (hk out ho).mono (fun r hr => hr.trans ?_)
    simp [ofS]
  | succ d ih =>
    intro j out hd hj ho
    have hjl : j < xs.length := by omega
    refine EvP.succ ?_
    simp only [pinfoldref14_Waiting.l1]
    have hwj : wrap64 ((j : Int) + 1) = ((j + 1 : Nat) : Int) := wrap_up (by omega)
    have h1 : (j : Int) < ((xs.map ofW).length : Int) := by rw [List.length_map]; omega
    have h2 : out.length < 17592186044416 := by omega
    have h3 : (j : Int) < (xs.length : Int) := by omega
    have h4 : 0 ≤ (j : Int) := by omega
    rw [rdw_at hjl, hwj, List.drop_eq_getElem_cons hjl]
    refine EvP.pos h3 (EvP.pos h4 (EvP.pos h1 (EvP.ite (fun q => EvP.pos h2 ?_) (fun q => ?_))))
    · have q : xs[j].2 = s := q
      have := ih (j + 1) (out ++ [xs[j].1]) (by omega) (by omega) (by rw [List.length_append, List.length_singleton]; omega)
      refine this.mono (fun r hr => hr.trans ?_)
      have e : ofS (xs[j] :: xs.drop (j + 1)) s = xs[j] :: ofS (xs.drop (j + 1)) s := by unfold ofS; rw [List.filter_cons_of_pos (by simp [q])]
      rw [e]
      simp
    · have q : ¬ xs[j].2 = s := q
      have := ih (j + 1) out (by omega) (by omega) (by omega)
      refine this.mono (fun r hr => hr.trans ?_)
      have e : ofS (xs[j] :: xs.drop (j + 1)) s = ofS (xs.drop (j + 1)) s := by unfold ofS; rw [List.filter_cons_of_neg (by simp [q])]
      rw [e]
theorem wait_l (l : List Int) (hl : l.length ≤ 1000) (xs : List Wt) (hx : xs.length ≤ 1000) (x0 : Bool) (x1 x2 x3 : Int) : ∀ (d i : Nat) (out : List Int), l.length - i = d → i ≤ l.length → out.length ≤ xs.length * i →
    EvP (fun k => pinfoldref14_Waiting.l0 k out l (l.length : Int) (i : Int) x0 x1 x2 x3 (xs.map ofW) l) (· = out ++ (l.drop i).flatMap (fun s => (ofS xs s).map (·.1))) := by
  intro d
  induction d with
  | zero =>
    intro i out hd hi ho
    obtain rfl : i = l.length := by omega
    refine EvP.succ ?_
    simp only [pinfoldref14_Waiting.l0]
    refine EvP.neg (by omega) (EvP.now ?_)
    simp
  | succ d ih =>
    intro i out hd hi ho
    have hli : i < l.length := by omega
    have hm : xs.length * i ≤ 1000000 := Nat.le_trans (Nat.mul_le_mul hx (show i ≤ 1000 by omega)) (by decide)
    refine EvP.succ ?_
    simp only [pinfoldref14_Waiting.l0, List.length_map]
    rw [rd_at hli, List.drop_eq_getElem_cons hli, List.flatMap_cons]
    refine EvP.pos (by omega) (EvP.pos (by omega) (EvP.pos (by omega) ?_))
    have := wait_l1 l[i] (i : Int) (l.length : Int) l xs hx x0 x1 x2 x3 ((l.drop (i + 1)).flatMap (fun s => (ofS xs s).map (·.1))) (xs.length * i) hm (fun out2 ho2 => by
      have hwi : wrap64 ((i : Int) + 1) = ((i + 1 : Nat) : Int) := wrap_up (by omega)
      rw [hwi]
      exact ih (i + 1) out2 (by omega) (by omega) (by rw [Nat.mul_succ]; exact ho2)) _ 0 out rfl (Nat.zero_le _) (by omega)
    rw [List.drop_zero] at this
    exact this
theorem waiting_f (y : DL) (hn : y.waits.length ≤ 1000) (hr : y.round.length ≤ 1000) :
    EvP (fun k => pinfoldref14_Waiting.f k y.held y.owner y.socket y.passes (y.waits.map ofW) y.round) (· = rWaiting y) := by
  have := wait_l y.round hr y.waits hn y.held y.owner y.socket y.passes _ 0 [] rfl (Nat.zero_le _) (by simp)
  simpa [pinfoldref14_Waiting.f, rWaiting] using this
theorem same_l0 (l : List Int) (hn : l.length ≤ 1000000) : ∀ (d i : Nat), l.length - i = d → i ≤ l.length → EvP (fun k => pinfoldref04_Same.l0 k l l (l.length : Int) (i : Int)) (· = true) := by
  intro d
  induction d with
  | zero =>
    intro i hd hi
    refine EvP.succ ?_
    simp only [pinfoldref04_Same.l0]
    exact EvP.neg (by omega) (EvP.now rfl)
  | succ d ih =>
    intro i hd hi
    have hl : i < l.length := by omega
    refine EvP.succ ?_
    simp only [pinfoldref04_Same.l0]
    rw [wrap_up (by omega)]
    exact EvP.pos (by omega) (EvP.pos (by omega) (EvP.pos (by omega) (EvP.pos (by omega) (EvP.pos trivial (ih (i + 1) (by omega) (by omega))))))
theorem same_f (l : List Int) (hn : l.length ≤ 1000000) : EvP (fun k => pinfoldref04_Same.f k l l) (· = true) := by
  simp only [pinfoldref04_Same.f]
  exact EvP.pos trivial (same_l0 l hn _ 0 rfl (Nat.zero_le _))
end Go.Proofs.Ytgiimdoabkcoaaa.PCoa
