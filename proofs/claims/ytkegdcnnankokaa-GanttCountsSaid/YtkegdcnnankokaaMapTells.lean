/-
A map that the call made, told by the value at each key: made, looked up, its entry taken and stored into.
-/
import Derived.Maps.Keyed
import Derived.Maps.OwnSet
import Derived.Maps.Range
import Derived.MapKept
import Derived.DeepKeys4
import Derived.Test.YtkegdcnnankokaaProg
namespace Go.Proofs.Ytkegdcnnankokaa.PGan
set_option linter.unusedVariables false
set_option linter.unusedSimpArgs false
open Go.Maps
open Go.MapKept (Stamped stamped_push stamped_modify stamped_erase)
open Go.ChangeMaps (setBlock heap_setBlock_same heap_setBlock_other)
/-- block b is a map (at most n entries) that has g's value at each key, z where there is none. -/
def MapTells (P : Program) (k : TypeId) (w : World) (b n : Nat) (z : Value) (g : Value → Value) : Prop :=
  ∃ es clock, w.heap[b]? = some (.map es clock) ∧ es.size ≤ n ∧ (∀ e ∈ es.toList, ∃ l, keyOf P k e.key = some l) ∧ Stamped es clock ∧
    ∀ key l, keyOf P k key = some l → (∃ e ∈ es.toList, e.key = key ∧ e.val = g key) ∨ ((∀ e ∈ es.toList, e.key ≠ key) ∧ g key = z)
section
variable {P : Program} {k t e : TypeId} {w : World} {b n : Nat} {z : Value} {g : Value → Value}
theorem MapTells.made (w : World) (n : Nat) (z : Value) : MapTells P k (w.alloc (.map #[] 0)) w.heap.size n z (fun _ => z) :=
  ⟨#[], 0, (MapKept.heap_alloc w _).1, by simp, by simp, ⟨by simp, by simp, by simp⟩, fun key l _ => .inr ⟨by simp, rfl⟩⟩
theorem MapTells.lt (h : MapTells P k w b n z g) : b < w.heap.size := by
  obtain ⟨es, clock, hb, _⟩ := h
  exact (Array.getElem?_eq_some_iff.1 hb).1
theorem MapTells.kept {w' : World} (h : MapTells P k w b n z g) (hb : w'.heap[b]? = w.heap[b]?) : MapTells P k w' b n z g := by
  obtain ⟨es, clock, h1, h2⟩ := h
  exact ⟨es, clock, hb.trans h1, h2⟩
theorem one_entry {es : Array MapEntry} {clock : Nat} (h : Stamped es clock) {x y : MapEntry} (hx : x ∈ es.toList) (hy : y ∈ es.toList) (e : x.key = y.key) : x = y :=
  entry_eq_of_key (List.pairwise_map.1 (List.nodup_iff_pairwise_ne.1 h.2.2)) hx hy e
theorem MapTells.lookup (h : MapTells P k w b n z g) (K : Keyed P k) (ht : P.underlying t = some (.map k e)) (hz : (zeroValue e).run P w = .ok z w) {key : Value} {kl : Lit} (hkey : keyOf P k key = some kl) :
    (Instr.lookup t (.map (some b)) key false).run P w = .ok (g key) w := by
  obtain ⟨es, clock, hb, hs, hks, hst, hg⟩ := h
  rcases K.find w hkey es.toList hks with ⟨h1, h2⟩ | ⟨j, e0, h1, h2, h3⟩
  · have hgz : g key = z := by
      rcases hg key kl hkey with ⟨e, he, h4, _⟩ | ⟨_, h4⟩
      · exact absurd h4 (h2 e he)
      · exact h4
    rw [hgz]
    simp [Instr.lookup, run_underlying ht, MapKept.run_getObj_map hb, K.check w _ hkey, h1, hz, Result.andThen]
  · have hm0 : e0 ∈ es.toList := List.mem_of_getElem? h2
    have hge : g key = e0.val := by
      rcases hg key kl hkey with ⟨e, he, h4, h5⟩ | ⟨h4, _⟩
      · rw [← one_entry hst he hm0 (h4.trans h3.symm)]; exact h5.symm
      · exact absurd h3 (h4 e0 hm0)
    rw [hge]
    simp [Instr.lookup, run_underlying ht, MapKept.run_getObj_map hb, K.check w _ hkey, h1, Result.andThen]
theorem find_born {es : Array MapEntry} {clock : Nat} (h : Stamped es clock) {j : Nat} {e0 : MapEntry} (h2 : es[j]? = some e0) : es.findIdx? (fun e => (e.born : Int) == (e0.born : Int)) = some j := by
  obtain ⟨hj, he⟩ := Array.getElem?_eq_some_iff.1 h2
  rw [Array.findIdx?_eq_some_iff_getElem]
  refine ⟨hj, by simp [he], fun i hi => ?_⟩
  have hp := List.pairwise_map.1 (List.nodup_iff_pairwise_ne.1 h.2.1)
  have := List.pairwise_iff_getElem.1 hp i j (by simp; omega) (by simpa using hj) hi
  simp only [Array.getElem_toList] at this
  rw [he] at this
  simp
  omega
/-- the entry is there: what is stored into it is told behind. -/
theorem store_at {es : Array MapEntry} {clock : Nat} (hst : Stamped es clock) (hks : ∀ x ∈ es.toList, ∃ l, keyOf P k x.key = some l) {j : Nat} {e0 : MapEntry} (hj : es[j]? = some e0) {key : Value} (hkey : e0.key = key)
    (hg : ∀ y l, keyOf P k y = some l → y ≠ key → (∃ x ∈ es.toList, x.key = y ∧ x.val = g y) ∨ ((∀ x ∈ es.toList, x.key ≠ y) ∧ g y = z)) (v : Value) (g' : Value → Value) (g1 : g' key = v) (g2 : ∀ y, y ≠ key → g' y = g y)
    {w2 : World} (hb : w2.heap[b]? = some (.map es clock)) (hn : es.size ≤ n) :
    ∃ w3, (Instr.entryStore t (.map (some b)) (goInt e0.born) v).run P w2 = .ok () w3 ∧ MapTells P k w3 b n z g' ∧ w3 = setBlock w2 b (.map (es.modify j fun x => { x with val := v }) clock) := by
  obtain ⟨hjs, hje⟩ := Array.getElem?_eq_some_iff.1 hj
  have hf := find_born hst hj
  have hget : ∀ i : Nat, (es.modify j fun x => { x with val := v })[i]? = if j = i then es[i]?.map (fun x => { x with val := v }) else es[i]? := fun i => Array.getElem?_modify
  have hmem : ∀ x, x ∈ (es.modify j fun x => { x with val := v }).toList ↔ (x = { e0 with val := v } ∨ (x ∈ es.toList ∧ x.key ≠ key)) := by
    intro x
    constructor
    · intro hx
      obtain ⟨i, hi⟩ := List.getElem?_of_mem hx
      rw [Array.getElem?_toList, hget] at hi
      by_cases e1 : j = i
      · subst e1
        rw [if_pos rfl, hj] at hi
        left; simpa using hi.symm
      · rw [if_neg e1] at hi
        have hxm : x ∈ es.toList := by
          rw [← Array.getElem?_toList] at hi
          exact List.mem_of_getElem? hi
        refine .inr ⟨hxm, fun hk => ?_⟩
        have e2 := one_entry hst hxm (by rw [← Array.getElem?_toList] at hj; exact List.mem_of_getElem? hj) (hk.trans hkey.symm)
        subst e2
        obtain ⟨his, hie⟩ := Array.getElem?_eq_some_iff.1 hi
        have hp := List.pairwise_map.1 (List.nodup_iff_pairwise_ne.1 hst.2.2)
        rcases Nat.lt_or_gt_of_ne e1 with r | r
        · have := List.pairwise_iff_getElem.1 hp j i (by simpa using hjs) (by simpa using his) r
          simp only [Array.getElem_toList] at this
          rw [hje, hie] at this
          exact this rfl
        · have := List.pairwise_iff_getElem.1 hp i j (by simpa using his) (by simpa using hjs) r
          simp only [Array.getElem_toList] at this
          rw [hje, hie] at this
          exact this rfl
    · rintro (rfl | ⟨hx, hk⟩)
      · refine List.mem_of_getElem? (i := j) ?_
        rw [Array.getElem?_toList, hget, if_pos rfl, hj]; rfl
      · obtain ⟨i, hi⟩ := List.getElem?_of_mem hx
        refine List.mem_of_getElem? (i := i) ?_
        rw [Array.getElem?_toList] at hi ⊢
        rw [hget, if_neg, hi]
        intro e1
        subst e1
        rw [hj] at hi
        exact hk (by rw [← Option.some.inj hi]; exact hkey)
  refine ⟨_, ?_, ?_, rfl⟩
  · simp [Instr.entryStore, MapKept.run_getObj_map hb, asInt, asIntOf, goInt, hf, MapKept.run_setObj_map _ hb, Result.andThen, setBlock]
  · refine ⟨_, clock, heap_setBlock_same hb _, by simpa using hn, fun x hx => ?_, stamped_modify hst j _ (fun _ _ => rfl) (fun _ _ _ => rfl), fun y l hy => ?_⟩
    · rcases (hmem x).1 hx with rfl | ⟨hx, _⟩
      · exact hks e0 (by rw [← Array.getElem?_toList] at hj; exact List.mem_of_getElem? hj)
      · exact hks x hx
    · by_cases e1 : y = key
      · subst e1
        exact .inl ⟨{ e0 with val := v }, (hmem _).2 (.inl rfl), hkey, g1.symm⟩
      · rw [g2 y e1]
        rcases hg y l hy e1 with ⟨x, hx, h1, h2⟩ | ⟨h1, h2⟩
        · exact .inl ⟨x, (hmem x).2 (.inr ⟨hx, by rw [h1]; exact e1⟩), h1, h2⟩
        · refine .inr ⟨fun x hx => ?_, h2⟩
          rcases (hmem x).1 hx with rfl | ⟨hx, _⟩
          · exact fun q => e1 (q.symm.trans hkey)
          · exact h1 x hx
/-- 'm[k] = f(m[k])': the entry is taken (and laid, if there was none), whatever comes between leaves the map's block alone, and a value is stored into it. -/
theorem MapTells.entry (h : MapTells P k w b n z g) (K : Keyed P k) (ht : P.underlying t = some (.map k e)) (hz : (zeroValue e).run P w = .ok z w) {key : Value} {kl : Lit} (hkey : keyOf P k key = some kl) :
    ∃ (st : Nat) (w1 : World), (Instr.mapEntry t (.map (some b)) key).run P w = .ok (.tuple #[g key, goInt st]) w1 ∧ (∃ o, w1 = setBlock w b o) ∧
      ∀ (w2 : World) (v : Value) (g' : Value → Value), w2.heap[b]? = w1.heap[b]? → g' key = v → (∀ y, y ≠ key → g' y = g y) →
        ∃ w3, (Instr.entryStore t (.map (some b)) (goInt st) v).run P w2 = .ok () w3 ∧ MapTells P k w3 b (n + 1) z g' ∧ ∃ o, w3 = setBlock w2 b o := by
  obtain ⟨es, clock, hb, hs, hks, hst, hg⟩ := h
  rcases K.find w hkey es.toList hks with ⟨h1, h2⟩ | ⟨j, e0, h1, h2, h3⟩
  · have hgz : g key = z := by
      rcases hg key kl hkey with ⟨e, he, h4, _⟩ | ⟨_, h4⟩
      · exact absurd h4 (h2 e he)
      · exact h4
    refine ⟨clock, setBlock w b (.map (es.push { key, val := z, born := clock }) (clock + 1)), ?_, ⟨_, rfl⟩, fun w2 v g' hw2 g1 g2 => ?_⟩
    · rw [hgz]
      simp [Instr.mapEntry, run_underlying ht, MapKept.run_getObj_map hb, K.check w false hkey, h1, hz, MapKept.run_setObj_map _ hb, Result.andThen, setBlock]
    · have hb2 : w2.heap[b]? = some (.map (es.push { key, val := z, born := clock }) (clock + 1)) := hw2.trans (heap_setBlock_same hb _)
      obtain ⟨w3, r1, r2, r3⟩ := store_at (P := P) (k := k) (t := t) (z := z) (g := g) (n := n + 1) (stamped_push hst h2) (key := key) (j := es.size) (e0 := { key, val := z, born := clock }) (by
          intro x hx
          simp only [Array.toList_push, List.mem_append, List.mem_singleton] at hx
          rcases hx with hx | rfl
          · exact hks x hx
          · exact ⟨kl, hkey⟩) (by simp) rfl (fun y l hy hne => by
          rcases hg y l hy with ⟨x, hx, q1, q2⟩ | ⟨q1, q2⟩
          · exact .inl ⟨x, by simp only [Array.toList_push, List.mem_append, List.mem_singleton]; exact .inl hx, q1, q2⟩
          · refine .inr ⟨fun x hx => ?_, q2⟩
            simp only [Array.toList_push, List.mem_append, List.mem_singleton] at hx
            rcases hx with hx | rfl
            · exact q1 x hx
            · exact fun q => hne q.symm) v g' g1 g2 hb2 (by simp; omega)
      exact ⟨w3, r1, r2, _, r3⟩
  · have hm0 : e0 ∈ es.toList := List.mem_of_getElem? h2
    have hge : g key = e0.val := by
      rcases hg key kl hkey with ⟨e, he, h4, h5⟩ | ⟨h4, _⟩
      · rw [← one_entry hst he hm0 (h4.trans h3.symm)]; exact h5.symm
      · exact absurd h3 (h4 e0 hm0)
    have hj : es[j]? = some e0 := by rw [← Array.getElem?_toList]; exact h2
    have hid : (es.modify j fun x => { x with key := key }) = es := by
      apply Array.ext_getElem?
      intro i
      rw [Array.getElem?_modify]
      split
      · rename_i q
        subst q
        rw [hj]
        subst h3
        rfl
      · rfl
    have hks2 := K.stays w hkey
    refine ⟨e0.born, setBlock w b (.map es clock), ?_, ⟨_, rfl⟩, fun w2 v g' hw2 g1 g2 => ?_⟩
    · rw [hge]
      simp [Instr.mapEntry, run_underlying ht, MapKept.run_getObj_map hb, K.check w false hkey, h1, hj, h3, hks2, hid, MapKept.run_setObj_map _ hb, Result.andThen, setBlock]
    · have hb2 : w2.heap[b]? = some (.map es clock) := hw2.trans (heap_setBlock_same hb _)
      obtain ⟨w3, r1, r2, r3⟩ := store_at (P := P) (k := k) (t := t) (z := z) (g := g) (n := n + 1) hst hks hj h3 (fun y l hy _ => hg y l hy) v g' g1 g2 hb2 (by omega)
      exact ⟨w3, r1, r2, _, r3⟩
/-- 'delete(m, k)'. -/
theorem MapTells.drop (h : MapTells P k w b n z g) (K : Keyed P k) (ht : P.underlying t = some (.map k e)) {key : Value} {kl : Lit} (hkey : keyOf P k key = some kl) (ty : TypeId) (g' : Value → Value) (g1 : g' key = z) (g2 : ∀ y, y ≠ key → g' y = g y) :
    ∃ w1, (Builtin.delete_ #[t, k] ty #[.map (some b), key]).run P w = .ok (.tuple #[]) w1 ∧ MapTells P k w1 b n z g' ∧ ∃ o, w1 = setBlock w b o := by
  obtain ⟨es, clock, hb, hs, hks, hst, hg⟩ := h
  rcases K.find w hkey es.toList hks with ⟨h1, h2⟩ | ⟨j, e0, h1, h2, h3⟩
  · refine ⟨setBlock w b (.map es clock), ?_, ⟨es, clock, heap_setBlock_same hb _, hs, hks, hst, fun y l hy => ?_⟩, _, rfl⟩
    · simp [Builtin.delete_, run_underlying ht, MapKept.run_getObj_map hb, K.check w _ hkey, h1, MapKept.run_setObj_map _ hb, Result.andThen, setBlock]
    · by_cases q : y = key
      · subst q; exact .inr ⟨h2, g1⟩
      · rw [g2 y q]; exact hg y l hy
  · have hj : es[j]? = some e0 := by rw [← Array.getElem?_toList]; exact h2
    obtain ⟨hjs, hje⟩ := Array.getElem?_eq_some_iff.1 hj
    have hm0 : e0 ∈ es.toList := List.mem_of_getElem? h2
    have hl : (es.eraseIdxIfInBounds j).toList = es.toList.eraseIdx j := by
      unfold Array.eraseIdxIfInBounds
      rw [dif_pos hjs, Array.toList_eraseIdx]
    have hmem : ∀ x, x ∈ (es.eraseIdxIfInBounds j).toList ↔ (x ∈ es.toList ∧ x.key ≠ key) := by
      intro x
      rw [hl]
      constructor
      · intro hx
        have hxm : x ∈ es.toList := (List.eraseIdx_sublist _ _).subset hx
        refine ⟨hxm, fun hk => ?_⟩
        have e2 := one_entry hst hxm hm0 (hk.trans h3.symm)
        subst e2
        obtain ⟨i, hi1, hi2⟩ := List.mem_eraseIdx_iff_getElem.1 hx
        obtain ⟨hi3, hi4⟩ := hi2
        have hp := List.pairwise_map.1 (List.nodup_iff_pairwise_ne.1 hst.2.2)
        have hje' : es.toList[j]'(by simpa using hjs) = x := by simpa using hje
        rcases Nat.lt_or_gt_of_ne hi3 with r | r
        · have := List.pairwise_iff_getElem.1 hp i j hi1 (by simpa using hjs) r
          rw [hi4, hje'] at this
          exact this rfl
        · have := List.pairwise_iff_getElem.1 hp j i (by simpa using hjs) hi1 r
          rw [hi4, hje'] at this
          exact this rfl
      · rintro ⟨hx, hk⟩
        obtain ⟨i, hi, rfl⟩ := List.getElem_of_mem hx
        refine List.mem_eraseIdx_iff_getElem.2 ⟨i, hi, fun q => hk ?_, rfl⟩
        subst q
        have : es.toList[i] = e0 := by simpa using hje
        rw [this]; exact h3
    refine ⟨setBlock w b (.map (es.eraseIdxIfInBounds j) clock), ?_, ⟨_, clock, heap_setBlock_same hb _, ?_, fun x hx => hks x ((hmem x).1 hx).1, stamped_erase hst j, fun y l hy => ?_⟩, _, rfl⟩
    · simp [Builtin.delete_, run_underlying ht, MapKept.run_getObj_map hb, K.check w _ hkey, h1, MapKept.run_setObj_map _ hb, Result.andThen, setBlock]
    · have : (es.eraseIdxIfInBounds j).size ≤ es.size := by
        have h8 := congrArg List.length hl
        simp only [Array.length_toList] at h8
        rw [h8, List.length_eraseIdx]
        split <;> simp
      omega
    · by_cases q : y = key
      · subst q; exact .inr ⟨fun x hx => ((hmem x).1 hx).2, g1⟩
      · rw [g2 y q]
        rcases hg y l hy with ⟨x, hx, q1, q2⟩ | ⟨q1, q2⟩
        · exact .inl ⟨x, (hmem x).2 ⟨hx, by rw [q1]; exact q⟩, q1, q2⟩
        · exact .inr ⟨fun x hx => q1 x ((hmem x).1 hx).1, q2⟩
end
/-- the keys of gantt.Spans: a task and a worker. -/
theorem laidG : laidOutB Try.prog = true := by kernel_rfl
theorem lawSpot : Keyed Try.prog 89 := Keyed.of_law (deep_law_laid (m := 2) laidG (by decide) (of_decide_eq_true (by kernel_rfl)) (by kernel_rfl) (by kernel_rfl))
end Go.Proofs.Ytkegdcnnankokaa.PGan
