/-
The table of any row of events, plain: digits, the rows of a task, how many events are of a kind and a task, a task's line.
-/
import Derived.Test.YtidhcdifmcffcaaPureKit
import Derived.Test.YtidhcdifmcffcaaPCenx4
import Derived.Test.YtidhcdifmcffcaaPCenx2
namespace Go.Proofs.Ytidhcdifmcffcaa.PCen
set_option linter.unusedVariables false
set_option linter.unusedSimpArgs false
open Go.RowKit Go.Proofs.YtidhcdifmcffcaaW.PrintWords Go.Proofs.YtidhcdifmcffcaaW.PrintLast Go.Proofs.YtidhcdifmcffcaaW.PrintMore

def dig (n : Nat) : ByteArray := if n < 10 then ⟨#[UInt8.ofNat (48 + n)]⟩ else ⟨#[UInt8.ofNat (48 + n / 10), UInt8.ofNat (48 + n % 10)]⟩
theorem digits_all : ∀ n : Fin 100, census_digits.f 3 (n.val : Int) = some (dig n.val) := by decide +kernel
theorem dec_all : ∀ n : Fin 100, pinfoldref09_Dec.f 8 (n.val : Int) = some (dig n.val) := by decide +kernel
theorem digits_f (n : Nat) (h : n < 100) : EvP (fun k => census_digits.f k (n : Int)) (· = dig n) := EvP.ev (Ev.of (fun k => census_digits.mono _ k) (digits_all ⟨n, h⟩)) rfl
theorem dec_f (n : Nat) (h : n < 100) : EvP (fun k => pinfoldref09_Dec.f k (n : Int)) (· = dig n) := EvP.ev (Ev.of (fun k => pinfoldref09_Dec.mono _ k) (dec_all ⟨n, h⟩)) rfl
theorem dig_size (n : Nat) : (dig n).size ≤ 2 := by
  unfold dig
  split <;> simp [ByteArray.size]
theorem u64_nat (n : Nat) (h : n < 100) : IntKind.u64.wrap (n : Int) = n := by
  unfold IntKind.wrap
  simp only [IntKind.bits, IntKind.signed]
  simp
  omega
theorem rdE {L : List S84} {i : Nat} (h : i < L.length) : rd_T84 L (i : Int) = L[i] := by simp [rd_T84, h]

theorem some_l0 (L : List S84) (hL : L.length ≤ 60) (t : Int) : ∀ (d i : Nat) (acc : List S84), L.length - i = d → i ≤ L.length → acc.length ≤ i →
    EvP (fun k => event_some.l0 k t acc L (L.length : Int) (i : Int)) (· = acc ++ (L.drop i).filter fun e => e.f1 == t) := by
  intro d
  induction d with
  | zero =>
    intro i acc hd hi ha
    obtain rfl : i = L.length := by omega
    refine EvP.succ ?_
    simp only [event_some.l0]
    exact EvP.neg (by omega) (EvP.now (by simp))
  | succ d ih =>
    intro i acc hd hi ha
    have hil : i < L.length := by omega
    refine EvP.succ ?_
    simp only [event_some.l0]
    rw [rdE hil, wrap_up (by omega), List.drop_eq_getElem_cons hil]
    refine EvP.pos (by omega) (EvP.pos (by omega) (EvP.pos (by omega) (EvP.bindS (b := (L[i].f1 == t)) rfl (EvP.ite (fun h => ?_) (fun h => ?_)))))
    · rw [List.filter_cons_of_pos (p := fun e : S84 => e.f1 == t) h]
      refine EvP.pos (by omega) ?_
      refine (ih (i + 1) (acc ++ [L[i]]) (by omega) (by omega) (by simp; omega)).mono ?_
      rintro r rfl
      simp
    · rw [List.filter_cons_of_neg (p := fun e : S84 => e.f1 == t) h]
      exact ih (i + 1) acc (by omega) (by omega) (by omega)
theorem task_f (L : List S84) (hL : L.length ≤ 60) (t : Int) : EvP (fun k => event_Task.f k L t) (· = L.filter fun e => e.f1 == t) := by
  simp only [event_Task.f, event_some.f]
  refine EvP.bind (some_l0 L hL t _ 0 [] rfl (by omega) (by simp)) ?_
  rintro r rfl
  exact EvP.now (by simp)
theorem someC_l0 (L : List S84) (hL : L.length ≤ 60) (kd t : Int) : ∀ (d i : Nat) (acc : List S84), L.length - i = d → i ≤ L.length → acc.length ≤ i →
    EvP (fun k => event_someCount.l0 k kd t acc L (L.length : Int) (i : Int)) (· = acc ++ (L.drop i).filter fun e => e.f0 == kd && e.f1 == t) := by
  intro d
  induction d with
  | zero =>
    intro i acc hd hi ha
    obtain rfl : i = L.length := by omega
    refine EvP.succ ?_
    simp only [event_someCount.l0]
    exact EvP.neg (by omega) (EvP.now (by simp))
  | succ d ih =>
    intro i acc hd hi ha
    have hil : i < L.length := by omega
    refine EvP.succ ?_
    simp only [event_someCount.l0]
    rw [rdE hil, wrap_up (by omega), List.drop_eq_getElem_cons hil]
    refine EvP.pos (by omega) (EvP.pos (by omega) (EvP.pos (by omega) (EvP.bindS (b := (L[i].f0 == kd && L[i].f1 == t)) rfl (EvP.ite (fun h => ?_) (fun h => ?_)))))
    · rw [List.filter_cons_of_pos (p := fun e : S84 => e.f0 == kd && e.f1 == t) h]
      refine EvP.pos (by omega) ?_
      refine (ih (i + 1) (acc ++ [L[i]]) (by omega) (by omega) (by simp; omega)).mono ?_
      rintro r rfl
      simp
    · rw [List.filter_cons_of_neg (p := fun e : S84 => e.f0 == kd && e.f1 == t) h]
      exact ih (i + 1) acc (by omega) (by omega) (by omega)
/-- how many events are of a kind and a task. -/
def cnt (L : List S84) (kd t : Int) : Nat := L.countP fun e => e.f0 == kd && e.f1 == t
theorem cnt_le (L : List S84) (kd t : Int) : cnt L kd t ≤ L.length := List.countP_le_length
theorem cnt_own (L : List S84) (kd t : Int) : cnt (L.filter fun e => e.f1 == t) kd t = cnt L kd t := by
  unfold cnt
  rw [List.countP_filter]
  apply List.countP_congr
  intro e _
  simp
theorem count_f (L : List S84) (hL : L.length ≤ 60) (kd t : Int) : EvP (fun k => event_Count.f k L kd t) (· = (cnt L kd t : Int)) := by
  simp only [event_Count.f, event_someCount.f]
  refine EvP.bind (someC_l0 L hL kd t _ 0 [] rfl (by omega) (by simp)) ?_
  rintro r rfl
  exact EvP.now (by simp [cnt, List.countP_eq_length_filter])
theorem cnt_drop {L : List S84} {i : Nat} (hil : i < L.length) (kd t : Int) : cnt (L.drop i) kd t = cnt (L.drop (i + 1)) kd t + (if L[i].f0 = kd ∧ L[i].f1 = t then 1 else 0) := by
  rw [List.drop_eq_getElem_cons hil]
  unfold cnt
  rw [List.countP_cons]
  congr 1
  simp
theorem countR_l0 (L : List S84) (hL : L.length ≤ 60) (kd t : Int) : ∀ (d i n : Nat), L.length - i = d → i ≤ L.length → n ≤ i →
    EvP (fun k => pinfoldref35_Count.l0 k kd t (n : Int) L (L.length : Int) (i : Int)) (· = ((n + cnt (L.drop i) kd t : Nat) : Int)) := by
  intro d
  induction d with
  | zero =>
    intro i n hd hi hn
    obtain rfl : i = L.length := by omega
    refine EvP.succ ?_
    simp only [pinfoldref35_Count.l0]
    exact EvP.neg (by omega) (EvP.now (by simp [cnt]))
  | succ d ih =>
    intro i n hd hi hn
    have hil : i < L.length := by omega
    refine EvP.succ ?_
    simp only [pinfoldref35_Count.l0]
    rw [rdE hil, wrap_up (i := i) (by omega), wrap_up (i := n) (by omega)]
    refine EvP.pos (by omega) (EvP.pos (by omega) (EvP.pos (by omega) (EvP.ite (fun h => EvP.ite (fun h2 => ?_) (fun h2 => ?_)) (fun h => ?_))))
    · refine (ih (i + 1) (n + 1) (by omega) (by omega) (by omega)).mono ?_
      rintro r rfl
      rw [cnt_drop hil, if_pos ⟨h, h2⟩]; push_cast; omega
    · refine (ih (i + 1) n (by omega) (by omega) (by omega)).mono ?_
      rintro r rfl
      rw [cnt_drop hil, if_neg (fun q => h2 q.2)]; rfl
    · refine (ih (i + 1) n (by omega) (by omega) (by omega)).mono ?_
      rintro r rfl
      rw [cnt_drop hil, if_neg (fun q => h q.1)]; rfl
theorem countR_f (L : List S84) (hL : L.length ≤ 60) (kd t : Int) : EvP (fun k => pinfoldref35_Count.f k L kd t) (· = (cnt L kd t : Int)) := by
  simp only [pinfoldref35_Count.f]
  have h := countR_l0 L hL kd t _ 0 0 rfl (by omega) (by omega)
  simpa using h

def KS : List Int := [3, 2, 4, 5, 8, 11]
def sp : ByteArray := ⟨#[32]⟩
/-- a task's line, as it is put together: behind s, for each kind a blank and the count. -/
def lineR (L : List S84) (t : Int) (s : ByteArray) (ks : List Int) : ByteArray := ks.foldl (fun s kd => s ++ (sp ++ dig (cnt L kd t))) s
def lineB (L : List S84) (t : Nat) : ByteArray := lineR L t (dig t) KS
theorem lineR_data (L : List S84) (t : Int) : ∀ (ks : List Int) (s : ByteArray), (lineR L t s ks).data.toList = s.data.toList ++ Lib.joinTail sp.data.toList (ks.map fun kd => (dig (cnt L kd t)).data.toList)
  | [], s => by simp [lineR, Lib.joinTail]
  | kd :: ks, s => by
    have h := lineR_data L t ks (s ++ (sp ++ dig (cnt L kd t)))
    simp only [lineR, List.foldl_cons] at h ⊢
    rw [h]
    simp [Lib.joinTail, ByteArray.data_append]
theorem lineR_size (L : List S84) (t : Int) : ∀ (ks : List Int) (s : ByteArray), (lineR L t s ks).size ≤ s.size + 3 * ks.length
  | [], s => by simp [lineR]
  | kd :: ks, s => by
    have h := lineR_size L t ks (s ++ (sp ++ dig (cnt L kd t)))
    have hd := dig_size (cnt L kd t)
    have hs : sp.size = 1 := rfl
    simp only [lineR, List.foldl_cons, List.length_cons] at h ⊢
    rw [ByteArray.size_append, ByteArray.size_append] at h
    omega
theorem join_line (L : List S84) (t : Nat) : strings_Join.f (dig t :: KS.map fun kd => dig (cnt L kd t)) sp = some (lineB L t) := by
  have e : joinB (dig t :: KS.map fun kd => dig (cnt L kd t)) sp = lineB L t := by
    have h := lineR_data L t KS (dig t)
    unfold joinB lineB
    rw [List.map_cons, Lib.join_cons, List.map_map]
    apply ByteArray.ext
    apply Array.toList_inj.1
    rw [h]
    rfl
  unfold strings_Join.f
  rw [e]
  have hz := lineR_size L t KS (dig t)
  have hd := dig_size t
  have hk : KS.length = 6 := rfl
  have hsz : (lineB L t).size ≤ 140737488355328 := by unfold lineB; omega
  exact if_pos ⟨by simp [KS], hsz⟩
theorem tableRow (L : List S84) (hL : L.length ≤ 60) (acc : List ByteArray) (hacc : acc.length ≤ 20) (t n : Nat) (ht : t < 20) (P : List ByteArray → Prop)
    (next : EvP (fun k => census_Table.l0 k L (acc ++ [lineB L t]) KS (n : Int) ((t + 1 : Nat) : Int)) P) :
    ∀ (d i : Nat), 6 - i = d → i ≤ 6 → EvP (fun k => census_Table.l1 k L acc KS (t : Int) (L.filter fun e => e.f1 == (t : Int)) (dig t :: (KS.take i).map fun kd => dig (cnt L kd t)) (n : Int) (t : Int) KS (KS.length : Int) (i : Int)) P := by
  have hK : KS.length = 6 := rfl
  intro d
  induction d with
  | zero =>
    intro i hd hi
    obtain rfl : i = 6 := by omega
    refine EvP.succ ?_
    simp only [census_Table.l1]
    refine EvP.neg (by omega) (EvP.bindS (join_line L t) (EvP.pos (by omega) ?_))
    rw [wrap_up (by omega)]
    exact next
  | succ d ih =>
    intro i hd hi
    have hil : i < KS.length := by omega
    refine EvP.succ ?_
    simp only [census_Table.l1]
    rw [rd_at hil, wrap_up (by omega)]
    have hf : (L.filter fun e => e.f1 == (t : Int)).length ≤ 60 := Nat.le_trans (List.length_filter_le _ _) hL
    refine EvP.pos (by omega) (EvP.pos (by omega) (EvP.pos (by omega) (EvP.bind (count_f _ hf KS[i] t) ?_)))
    rintro c rfl
    have hc := cnt_le L KS[i] t
    rw [cnt_own, u64_nat _ (by omega)]
    refine EvP.bind (digits_f _ (by omega)) ?_
    rintro s rfl
    refine EvP.pos (by simp; omega) ?_
    have st := ih (i + 1) (by omega) (by omega)
    rw [List.take_succ_eq_append_getElem hil, List.map_append] at st
    simpa using st
theorem table_l0 (L : List S84) (hL : L.length ≤ 60) (n : Nat) (hn : n ≤ 20) : ∀ (d t : Nat) (acc : List ByteArray), n - t = d → t ≤ n → acc.length = t →
    EvP (fun k => census_Table.l0 k L acc KS (n : Int) (t : Int)) (· = acc ++ (List.range' t (n - t)).map (lineB L)) := by
  intro d
  induction d with
  | zero =>
    intro t acc hd ht ha
    obtain rfl : t = n := by omega
    refine EvP.succ ?_
    simp only [census_Table.l0]
    exact EvP.neg (by omega) (EvP.now (by simp))
  | succ d ih =>
    intro t acc hd ht ha
    refine EvP.succ ?_
    simp only [census_Table.l0]
    rw [u64_nat t (by omega)]
    refine EvP.pos (by omega) (EvP.bind (task_f L hL t) ?_)
    rintro own rfl
    refine EvP.bind (digits_f t (by omega)) ?_
    rintro s rfl
    have e : (List.range' t (n - t)).map (lineB L) = lineB L t :: (List.range' (t + 1) (n - (t + 1))).map (lineB L) := by
      rw [show n - t = (n - (t + 1)) + 1 by omega, List.range'_succ]; rfl
    rw [e]
    have st := (ih (t + 1) (acc ++ [lineB L t]) (by omega) (by omega) (by simp [ha])).mono (Q := fun r => r = acc ++ lineB L t :: (List.range' (t + 1) (n - (t + 1))).map (lineB L)) (by rintro r rfl; simp)
    exact tableRow L hL acc (by omega) t n (by omega) _ st _ 0 rfl (by omega)
theorem line_l0 (L : List S84) (hL : L.length ≤ 60) (t : Nat) : ∀ (d i : Nat) (s : ByteArray), 6 - i = d → i ≤ 6 → s.size ≤ 2 + 3 * i →
    EvP (fun k => pinfoldref35_Line.l0 k L (t : Int) s KS (KS.length : Int) (i : Int)) (· = lineR L t s (KS.drop i)) := by
  have hK : KS.length = 6 := rfl
  intro d
  induction d with
  | zero =>
    intro i s hd hi hs
    obtain rfl : i = 6 := by omega
    refine EvP.succ ?_
    simp only [pinfoldref35_Line.l0]
    exact EvP.neg (by omega) (EvP.now rfl)
  | succ d ih =>
    intro i s hd hi hs
    have hil : i < KS.length := by omega
    refine EvP.succ ?_
    simp only [pinfoldref35_Line.l0]
    rw [rd_at hil, wrap_up (by omega), List.drop_eq_getElem_cons hil]
    refine EvP.pos (by omega) (EvP.pos (by omega) (EvP.pos (by omega) (EvP.bind (countR_f L hL KS[i] t) ?_)))
    rintro c rfl
    have hc := cnt_le L KS[i] t
    refine EvP.bind (dec_f _ (by omega)) ?_
    rintro x rfl
    have hd2 := dig_size (cnt L KS[i] t)
    have hs1 : sp.size = 1 := rfl
    have hz : (sp ++ dig (cnt L KS[i] t)).size ≤ 3 := by rw [ByteArray.size_append]; omega
    refine EvP.pos (by omega) (EvP.pos (by change s.size + (sp ++ dig (cnt L KS[i] t)).size ≤ _; omega) ?_)
    exact ih (i + 1) (s ++ (sp ++ dig (cnt L KS[i] t))) (by omega) (by omega) (by rw [ByteArray.size_append]; omega)
theorem line_f (L : List S84) (hL : L.length ≤ 60) (t : Nat) (ht : t < 20) : EvP (fun k => pinfoldref35_Line.f k L (t : Int)) (· = lineB L t) := by
  simp only [pinfoldref35_Line.f]
  refine EvP.bind (dec_f t (by omega)) ?_
  rintro s rfl
  refine EvP.bindS rfl ?_
  exact line_l0 L hL t _ 0 (dig t) rfl (by omega) (by have := dig_size t; omega)
end Go.Proofs.Ytidhcdifmcffcaa.PCen
