/-
Slices that the call itself made, in a world with unknown blocks behind the known ones ('ext'): what they hold, and append.
-/
import Derived.Test.YtkegdcnnankokaaExt
import Derived.Laws.AppendOwn
import Derived.Maps.AppendAt
namespace Go
set_option linter.unusedVariables false
set_option linter.unusedSimpArgs false
open Go.RowKit

/-- the slice value v with n elements of type e (size cells each) owns the cells xs, in a block behind block n0; os: the blocks from n0 on. -/
def OwnE (n0 : Nat) (os : Array Obj) (e : TypeId) (size : Nat) (v : Value) (n : Nat) (xs : List Value) : Prop :=
  xs.length = n * size ∧
  ((v = .slice none 0 0 ∧ n = 0) ∨
   ∃ g cap cur, v = .slice (some ⟨g, 0, none⟩) n cap ∧ n0 ≤ g ∧ os[g - n0]? = some (.cells cur e (0, 0)) ∧ n ≤ cap ∧ cap ≤ maxLen ∧ cur.size = cap * size ∧ cur.toList.take (n * size) = xs)

theorem World.ext_beyond (W : World) (os : Array Obj) (d g : Nat) (h : W.heap.size ≤ g) : (W.ext os d).heap[g]? = os[g - W.heap.size]? := Array.getElem?_append_right h
theorem World.ext_alloc (W : World) (os : Array Obj) (d : Nat) (o : Obj) : (W.ext os d).alloc o = W.ext (os.push o) d := by
  simp only [World.ext, World.alloc, Array.append_push]
theorem World.ext_self (W : World) : W = W.ext #[] W.drawn := by simp [World.ext]
theorem OwnE.row {W : World} {os : Array Obj} {e : TypeId} {size : Nat} {v : Value} {n : Nat} {xs : List Value} (h : OwnE W.heap.size os e size v n xs) (d : Nat) : (W.ext os d).ownsRow W.heap.size e size v n xs := by
  refine ⟨h.1, ?_⟩
  rcases h.2 with h2 | ⟨g, cap, cur, h1, h2, h3, h4⟩
  · exact .inl h2
  · exact .inr ⟨g, cap, cur, h1, h2, by rw [World.ext_beyond _ _ _ _ h2]; exact h3, h4⟩
theorem OwnE.of_row {W : World} {os : Array Obj} {d : Nat} {e : TypeId} {size : Nat} {v : Value} {n : Nat} {xs : List Value} (h : (W.ext os d).ownsRow W.heap.size e size v n xs) : OwnE W.heap.size os e size v n xs := by
  refine ⟨h.1, ?_⟩
  rcases h.2 with h2 | ⟨g, cap, cur, h1, h2, h3, h4⟩
  · exact .inl h2
  · exact .inr ⟨g, cap, cur, h1, h2, by rw [← World.ext_beyond W os d g h2]; exact h3, h4⟩
theorem OwnE.nil (n0 : Nat) (os : Array Obj) (e : TypeId) (size : Nat) : OwnE n0 os e size (.slice none 0 0) 0 [] := ⟨by simp, .inl ⟨rfl, rfl⟩⟩
theorem OwnE.app {n0 : Nat} {os : Array Obj} {e : TypeId} {size : Nat} {v : Value} {n : Nat} {xs : List Value} (h : OwnE n0 os e size v n xs) (os' : Array Obj) : OwnE n0 (os ++ os') e size v n xs := by
  refine ⟨h.1, ?_⟩
  rcases h.2 with h2 | ⟨g, cap, cur, h1, h2, h3, h4⟩
  · exact .inl h2
  · refine .inr ⟨g, cap, cur, h1, h2, ?_, h4⟩
    have := (Array.getElem?_eq_some_iff.1 h3).1
    rw [Array.getElem?_append_left this]; exact h3
/-- a row that a callee made, said of the blocks behind the caller's known ones. -/
theorem OwnE.behind {n0 : Nat} {os os' : Array Obj} {e : TypeId} {size : Nat} {v : Value} {n : Nat} {xs : List Value} (h : OwnE (n0 + os.size) os' e size v n xs) : OwnE n0 (os ++ os') e size v n xs := by
  refine ⟨h.1, ?_⟩
  rcases h.2 with h2 | ⟨g, cap, cur, h1, h2, h3, h4⟩
  · exact .inl h2
  · refine .inr ⟨g, cap, cur, h1, by omega, ?_, h4⟩
    rw [Array.getElem?_append_right (by omega), ← h3]; congr 1; omega
theorem OwnE.push {n0 : Nat} {os : Array Obj} {e : TypeId} {size : Nat} {v : Value} {n : Nat} {xs : List Value} (h : OwnE n0 os e size v n xs) (o : Obj) : OwnE n0 (os.push o) e size v n xs := by
  have := h.app #[o]
  simpa using this
theorem OwnE.lenv {n0 : Nat} {os : Array Obj} {e : TypeId} {size : Nat} {v : Value} {n : Nat} {xs : List Value} (h : OwnE n0 os e size v n xs) : ∃ A c, v = .slice A n c ∧ n ≤ c ∧ c ≤ maxLen := by
  rcases h.2 with ⟨h1, h2⟩ | ⟨g, cap, cur, h1, _, _, h4, h5, _⟩
  · subst h2; exact ⟨none, 0, h1, by omega, by omega⟩
  · exact ⟨_, cap, h1, h4, h5⟩
/-- what an own row holds at one of its cells. -/
theorem OwnE.cell {W : World} {os : Array Obj} {e : TypeId} {size : Nat} {v : Value} {n : Nat} {xs : List Value} (h : OwnE W.heap.size os e size v n xs) (hn : 0 < n) (hs : 0 < size) :
    ∃ g c, v = .slice (some ⟨g, 0, none⟩) n c ∧ n ≤ c ∧ c ≤ maxLen ∧ W.heap.size ≤ g ∧ ∀ d j (hj : j < xs.length), (W.ext os d).cell? ⟨g, j, none⟩ = some xs[j] := by
  rcases h.2 with ⟨_, h2⟩ | ⟨g, cap, cur, h1, h2, h3, h4, h5, h6, h7⟩
  · omega
  · refine ⟨g, cap, h1, h4, h5, h2, fun d j hj => ?_⟩
    unfold World.cell?
    simp only [World.ext_beyond _ _ _ _ h2, h3]
    subst h7
    have hj2 : j < cur.size := by simp at hj; omega
    simp [Array.getElem?_eq_getElem hj2]

theorem OwnE.row_at {W : World} {os : Array Obj} {e : TypeId} {size : Nat} {v : Value} {n : Nat} {xs : List Value} (h : OwnE W.heap.size os e size v n xs) (d n0 : Nat) (hle : n0 ≤ W.heap.size) : (W.ext os d).ownsRow n0 e size v n xs := by
  have := h.row d
  refine ⟨this.1, ?_⟩
  rcases this.2 with h2 | ⟨g, cap, cur, h1, h2, h3⟩
  · exact .inl h2
  · exact .inr ⟨g, cap, cur, h1, by omega, h3⟩
theorem own_ext {w W : World} {e : TypeId} {size : Nat} {v : Value} {n : Nat} {xs : List Value} (hb : Below w.heap.size w W) (h : W.ownsRow w.heap.size e size v n xs) : ∃ os d, W = w.ext os d ∧ OwnE w.heap.size os e size v n xs := by
  obtain ⟨os, d, rfl⟩ := World.ext_of_below hb
  exact ⟨os, d, rfl, OwnE.of_row h⟩
theorem own_nil_row (W : World) (n0 : Nat) (e : TypeId) (size : Nat) : W.ownsRow n0 e size (.slice none 0 0) 0 [] := ⟨by simp, .inl ⟨rfl, rfl⟩⟩

/-- but for the block of one row, the blocks are as they were. -/
def KeepsE (n0 : Nat) (os os' : Array Obj) (row : Option Nat) : Prop := ∀ k, k < os.size → some (n0 + k) ≠ row → os'[k]? = os[k]?
theorem KeepsE.own {n0 : Nat} {os os' : Array Obj} {row : Option Nat} {e : TypeId} {size : Nat} {v : Value} {n : Nat} {xs : List Value} (h : KeepsE n0 os os' row) (ho : OwnE n0 os e size v n xs) (hne : v.ownBlock = none ∨ v.ownBlock ≠ row) : OwnE n0 os' e size v n xs := by
  refine ⟨ho.1, ?_⟩
  rcases ho.2 with h2 | ⟨g, cap, cur, h1, h2, h3, h4⟩
  · exact .inl h2
  · refine .inr ⟨g, cap, cur, h1, h2, ?_, h4⟩
    have hlt := (Array.getElem?_eq_some_iff.1 h3).1
    rw [h (g - n0) hlt ?_]; exact h3
    rw [h1] at hne
    simp only [Value.ownBlock] at hne
    rcases hne with hne | hne
    · cases hne
    · rw [show n0 + (g - n0) = g by omega]; exact hne
/-- two rows of different types lie apart. -/
theorem OwnE.apart {n0 : Nat} {os : Array Obj} {e e' : TypeId} {s s' : Nat} {v v' : Value} {n n' : Nat} {xs xs' : List Value} (h : OwnE n0 os e s v n xs) (h' : OwnE n0 os e' s' v' n' xs') (hne : e ≠ e') : v.ownBlock = none ∨ v.ownBlock ≠ v'.ownBlock := by
  rcases h.2 with ⟨h2, _⟩ | ⟨g, cap, cur, h1, h2, h3, _⟩
  · subst h2; exact .inl rfl
  · right
    subst h1
    rcases h'.2 with ⟨k2, _⟩ | ⟨g', cap', cur', k1, k2, k3, _⟩
    · subst k2; simp [Value.ownBlock]
    · subst k1
      simp only [Value.ownBlock]
      intro he
      obtain rfl : g = g' := by simpa using he
      rw [h3] at k3
      simp at k3
      exact hne k3.2

section
variable {P : Program} {ops : Array Oper} {rest : List Oper} {o : Oper} {a : Act} {Q : Exit → Act → World → Prop}
/-- append of what lies in a new block to a row of the call's own. -/
theorem wpList_append_ext (W : World) (os : Array Obj) (d : Nat) (hgd : o.guard = none) (s x : Operand) (t e : TypeId) (z : Value) (size bytes : Nat)
    (ho : o.op = .call { callee := .builtin .append, args := #[s, x], argTypes := #[t, t] })
    (ht : P.underlying t = some (.slice e)) (hinfo : (P.info? e).map (fun i => (i.zero, i.size, i.bytes)) = some (some z, size, bytes)) (hzs : z.cells.size = size) (hsz : 0 < size) (hb0 : 0 < bytes)
    (v : Value) (n m : Nat) (xs news : List Value) (g : Nat) (hg : g = W.heap.size + os.size) (hs : a.eval s = v) (hx : a.eval x = .slice (some ⟨g, 0, none⟩) m m) (hl : news.length = m * size) (h1 : ∀ u ∈ news, u.oneCell' = true)
    (hown : OwnE W.heap.size os e size v n xs) (hbytes : (n + m) * bytes ≤ 140737488355328)
    (h : ∀ v' os' d', OwnE W.heap.size os' e size v' (n + m) (xs ++ news) → KeepsE W.heap.size os os' v.ownBlock → (v'.ownBlock = v.ownBlock ∨ ∃ b, v'.ownBlock = some b ∧ W.heap.size + os.size ≤ b) → wpList P ops Q rest (a.put o.dst v') (W.ext os' d')) :
    wpList P ops Q (o :: rest) a ((W.ext os d).alloc (.cells news.toArray e)) := by
  obtain ⟨i0, hi, hzz⟩ := Option.map_eq_some_iff.1 hinfo
  simp only [Prod.mk.injEq] at hzz
  obtain ⟨hz0, hz1, hz2⟩ := hzz
  have hlen : n + m ≤ 140737488355328 := Nat.le_trans (Nat.le_mul_of_pos_right _ hb0) hbytes
  have hsz1 : (W.ext os d).heap.size = W.heap.size + os.size := World.ext_size _ _ _
  have hnew : ((W.ext os d).alloc (.cells news.toArray e)).heap[g]? = some (.cells news.toArray e (0, 0)) := by
    rw [hg, ← hsz1]; exact Array.getElem?_push_size
  refine wpList_append_own_at ((W.ext os d).alloc (.cells news.toArray e)) hgd s x t ho W.heap.size e i0 z size bytes ht hi hz0 hz1 hz2 hzs hsz v n xs hs ((hown.row d).alloc _) ⟨g, 0, none⟩ m m news hx hl ?_ h1 (by simp only [maxLen]; omega) hbytes (by simp; omega) ?_
  · intro j u hj
    have : ((⟨g, 0, none⟩ : Addr).add j) = ⟨g, j, none⟩ := by unfold Addr.add; split <;> simp_all
    rw [this]
    unfold World.cell?
    simp only [hnew]
    simpa using hj
  · intro v1 w1 hown1 hg1 _ hat
    have hbl : Below W.heap.size W w1 := by
      have hb0' : Below W.heap.size W ((W.ext os d).alloc (.cells news.toArray e)) := (World.below_ext W os d).alloc (by omega) _
      refine hb0'.grown hg1 (by simp; omega) ?_
      intro k hk
      rcases hown.2 with ⟨h2, _⟩ | ⟨g', cap, cur, h2, h3, _⟩
      · subst h2; cases hk
      · subst h2; simp only [Value.ownBlock, Option.some.injEq] at hk; omega
    obtain ⟨os1, d1, rfl⟩ := World.ext_of_below hbl
    refine h v1 os1 d1 (OwnE.of_row hown1) ?_ ?_
    · intro k hk hne
      have hk1 : W.heap.size + k < ((W.ext os d).alloc (.cells news.toArray e)).heap.size := by simp; omega
      have := hg1.block (W.heap.size + k) hk1 hne
      rw [World.ext_beyond _ _ _ _ (by omega)] at this
      rw [show W.heap.size + k - W.heap.size = k by omega] at this
      rw [this, Below.heap_alloc _ _ _ (by rw [hsz1]; omega), World.ext_beyond _ _ _ _ (by omega)]
      congr 1; omega
    · rcases hat with hat | hat
      · exact .inl hat
      · refine .inr ⟨_, hat, ?_⟩
        simp; omega
end
end Go
