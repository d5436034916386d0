/- Words for slices that a call makes: append of one element, and how such a slice reads. -/
import Derived.Test.YthplabmbbfefeaaPlayA
import Derived.ArgAppend
import Derived.Laws.OwnMore
import Derived.Deep.Cut
import Derived.Deep.CutBlock
import Derived.StillTailTactics
namespace Go.Proofs.Ythplabmbbfefeaa
open Go.RowKit Go.Shelf
set_option linter.unusedVariables false

/-- slice type t has elements of type e, of so many cells and bytes -/
def SlT (t e size bytes : Nat) (z : Value) : Prop :=
  Try.prog.underlying t = some (.slice e) ∧ ((Try.prog.info? e).map fun i => (i.zero, i.size, i.bytes)) = some (some z, size, bytes) ∧ z.cells.size = size ∧ 0 < size

theorem own_mono {w : World} {base base' : Nat} {e : TypeId} {size n : Nat} {v : Value} {xs : List Value} (h : w.ownsRow base' e size v n xs) (hb : base ≤ base') : w.ownsRow base e size v n xs := by
  obtain ⟨h1, h2⟩ := h
  refine ⟨h1, ?_⟩
  rcases h2 with h2 | ⟨g, cap, cur, h3, h4, h5⟩
  · exact .inl h2
  · exact .inr ⟨g, cap, cur, h3, by omega, h5⟩

theorem own_below {w w' : World} {base B : Nat} {e : TypeId} {size n : Nat} {v : Value} {xs : List Value} (h : w.ownsRow base e size v n xs) (hb : Below B w w') (hB : w.heap.size ≤ B) : w'.ownsRow base e size v n xs := by
  obtain ⟨h1, h2⟩ := h
  refine ⟨h1, ?_⟩
  rcases h2 with h2 | ⟨g, cap, cur, h3, h4, h5, h6⟩
  · exact .inl h2
  · have hg : g < w.heap.size := by
      rcases Nat.lt_or_ge g w.heap.size with h | h
      · exact h
      · rw [Array.getElem?_eq_none h] at h5; cases h5
    exact .inr ⟨g, cap, cur, h3, h4, (hb.block g (by omega)).trans h5, h6⟩

theorem own_call {w w' : World} {base : Nat} {e : TypeId} {size n : Nat} {v : Value} {xs : List Value} (h : w.ownsRow base e size v n xs) (hb : Below w.heap.size w w') : w'.ownsRow base e size v n xs := own_below h hb (Nat.le_refl _)

/-- a slice of the call's own whose capacity is full, or not, with one element more -/
theorem wpList_app1 {W : World} {ops : Array Oper} {rest : List Oper} {o : Oper} {a : Act} {Q : Exit → Act → World → Prop} {t e size bytes : Nat} {z : Value} (hT : SlT t e size bytes z)
    (hgd : o.guard = none) (s x : Operand) (ho : o.op = .call { callee := .builtin .append, args := #[s, x], argTypes := #[t, t] })
    {base n c cc : Nat} {A : Option Addr} {xs : List Value} {vals : Array Value} (hs : a.eval s = .slice A n cc) (hown : ∃ cap, W.ownsRow base e size (.slice A n cap) n xs ∧ (cc = cap ∨ cc = n))
    (hx : a.eval x = .slice (some ⟨W.heap.size, 0, none⟩) 1 c) (hvals : vals.size = size) (h1 : ∀ u ∈ vals.toList, u.oneCell' = true) (hbase : base ≤ W.heap.size)
    (h63 : n + 1 ≤ 1048576) (hby : bytes ≤ 1024)
    (h : ∀ v' w', w'.ownsRow base e size v' (n + 1) (xs ++ vals.toList) → Below base W w' → (∀ g, g < W.heap.size → (∀ ad, A = some ad → ad.block ≠ g) → w'.heap[g]? = W.heap[g]?) → wpList Try.prog ops Q rest (a.put o.dst v') w') :
    wpList Try.prog ops Q (o :: rest) a (W.alloc (.cells vals e)) := by
  obtain ⟨hT1, hT2, hT3, hT4⟩ := hT
  obtain ⟨i0, hi, hz0, hz1, hz2⟩ := info_parts hT2
  obtain ⟨cap, hown, hcc⟩ := hown
  have hbytes : (n + 1) * bytes ≤ 140737488355328 := Nat.le_trans (Nat.mul_le_mul h63 hby) (by decide)
  have hnew : Blk (W.alloc (.cells vals e)) W.heap.size e vals := Blk.new _ _ _
  have hcell : ∀ j u, vals.toList[j]? = some u → (W.alloc (.cells vals e)).cell? ((⟨W.heap.size, 0, none⟩ : Addr).add j) = some u := by
    intro j u hu
    have : (⟨W.heap.size, 0, none⟩ : Addr).add j = ⟨W.heap.size, j, none⟩ := by
      unfold Addr.add; split <;> simp_all
    rw [this, hnew.cell]
    simpa using hu
  have hlen : vals.toList.length = 1 * size := by simp [hvals]
  by_cases hfull : cc = cap
  · subst hfull
    refine wpList_append_own (P := Try.prog) (W.alloc (.cells vals e)) hgd s x t ho base e i0 z size bytes hT1 hi hz0 hz1 hz2 hT3 hT4 _ n xs hs (hown.alloc _) ⟨W.heap.size, 0, none⟩ 1 c vals.toList hx hlen hcell h1 (by simp only [maxLen]; omega) hbytes (by simp; omega) ?_
    intro v' w' hown' hgrow _
    refine h v' w' hown' (((Below.refl _ _).alloc hbase _).grown hgrow (by simp; omega) fun k hk => ?_) fun g hg hne => ?_
    · exact (hown.lt k hk).1
    · refine (hgrow.block g (by simp; omega) fun hk => ?_).trans (Below.heap_alloc W _ g hg)
      cases A with
      | none => simp [Value.ownBlock] at hk
      | some ad => simp only [Value.ownBlock, Option.some.injEq] at hk; exact hne ad rfl hk.symm
  · have hcn : cc = n := hcc.resolve_left hfull
    subst hcn
    refine wpList_append_grows (P := Try.prog) (W.alloc (.cells vals e)) hgd s x t ho e i0 z size bytes hT1 hi hz0 hz1 hz2 hT3 hT4 A cc cc xs hs ?_ hown.1 ?_ ⟨W.heap.size, 0, none⟩ 1 c vals.toList hx hlen hcell h1 (by omega) (by simp only [maxLen]; omega) hbytes ?_
    · intro hA
      rcases hown.2 with ⟨h2, h3⟩ | ⟨g, cap', cur, h3, _⟩
      · exact ⟨h3, h3⟩
      · rw [hA] at h3; cases h3
    · intro b hb j u hu
      rcases hown.2 with ⟨h2, h3⟩ | ⟨g, cap', cur, h3, h4, h5, h6, h7, h8, h9⟩
      · rw [hb] at h2; cases h2
      · have hcl := World.ownsRow.cells (hown.alloc (.cells vals e)) (g := b.block) (by rw [hb]; rfl) j u hu
        have hb0 : b = ⟨g, 0, none⟩ := by
          rw [hb] at h3
          simp only [Value.slice.injEq, Option.some.injEq] at h3
          exact h3.1
        have hb1 : (⟨b.block, 0, none⟩ : Addr) = b := by rw [hb0]
        rw [hb1] at hcl
        exact hcl
    · intro v' w' hown' hgrow
      refine h v' w' (own_mono hown' (by simp; omega)) (((Below.refl _ _).alloc hbase _).grown hgrow (by simp; omega) fun k hk => by cases hk) fun g hg hne => ?_
      exact (hgrow.block g (by simp; omega) fun hk => by cases hk).trans (Below.heap_alloc W _ g hg)

theorem own_cap {w : World} {base : Nat} {e : TypeId} {size n m cap : Nat} {A : Option Addr} {xs : List Value} (h : w.ownsRow base e size (.slice A m cap) n xs) : m = n ∧ n ≤ cap ∧ cap ≤ 9223372036854775807 := by
  rcases h.2 with ⟨h1, h2⟩ | ⟨g, c, cur, h1, h2, h3, h4, h5, h6⟩
  · injection h1 with _ h3 h4
    subst h3 h4 h2
    omega
  · injection h1 with _ h7 h8
    subst h7 h8
    exact ⟨rfl, h4, by simpa only [maxLen] using h5⟩
theorem one_1 {k : IntKind} {n : Int} : ∀ u ∈ (#[Value.int k n] : Array Value).toList, u.oneCell' = true := by simp [Value.oneCell']
theorem one_2 {k k' : IntKind} {n n' : Int} : ∀ u ∈ (#[Value.int k n, Value.int k' n'] : Array Value).toList, u.oneCell' = true := by simp [Value.oneCell']
theorem one_3 {k k' k'' : IntKind} {n n' n'' : Int} : ∀ u ∈ (#[Value.int k n, Value.int k' n', Value.int k'' n''] : Array Value).toList, u.oneCell' = true := by simp [Value.oneCell']
theorem own_form {w : World} {base : Nat} {e : TypeId} {size n : Nat} {v : Value} {xs : List Value} (h : w.ownsRow base e size v n xs) : ∃ A cap, v = .slice A n cap := by
  rcases h.2 with ⟨h1, h2⟩ | ⟨g, c, cur, h1, _⟩
  · exact ⟨none, 0, by rw [h1, h2]⟩
  · exact ⟨_, _, h1⟩
theorem own_ne {w : World} {base : Nat} {e : TypeId} {size n cap : Nat} {A : Option Addr} {xs : List Value} {g : Nat} (h : w.ownsRow base e size (.slice A n cap) n xs) (hg : w.heap.size ≤ g) : ∀ ad, A = some ad → ad.block ≠ g := by
  intro ad ha
  have := (h.lt ad.block (by rw [ha]; rfl)).2
  omega
theorem ret_t3 {a a' : Value} {k k' : IntKind} {b b' c c' : Int} (h1 : a = a') (h2 : b = b') (h3 : c = c') : Ending.returned (.tuple #[a, .int k b, .int k' c]) = Ending.returned (.tuple #[a', .int k b', .int k' c']) := by rw [h1, h2, h3]
theorem ret_t2 {a a' : Value} {k' : IntKind} {c c' : Int} (h1 : a = a') (h3 : c = c') : Ending.returned (.tuple #[a, .int k' c]) = Ending.returned (.tuple #[a', .int k' c']) := by rw [h1, h3]
theorem ret_ii {k k' : IntKind} {a a' c c' : Int} (h1 : a = a') (h3 : c = c') : Ending.returned (.tuple #[.int k a, .int k' c]) = Ending.returned (.tuple #[.int k a', .int k' c']) := by rw [h1, h3]
theorem ret_v {a a' : Value} (h1 : a = a') : Ending.returned a = Ending.returned a' := by rw [h1]

def cellsOf {α : Type} (size : Nat) (cell : α → Nat → Value) (x : α) : List Value := (List.range size).map (cell x)

theorem flat_get {α : Type} (size : Nat) (cell : α → Nat → Value) (l : List α) : ∀ (i : Nat) (x : α), l[i]? = some x → ∀ j, j < size → (l.flatMap (cellsOf size cell))[i * size + j]? = some (cell x j) := by
  induction l with
  | nil => intro i x h; simp at h
  | cons y r ih =>
    intro i x h j hj
    have hlen : (cellsOf size cell y).length = size := by simp [cellsOf]
    cases i with
    | zero =>
      simp at h
      subst h
      rw [List.flatMap_cons, List.getElem?_append_left (by omega)]
      simp [cellsOf, hj]
    | succ i =>
      rw [List.getElem?_cons_succ] at h
      rw [List.flatMap_cons, List.getElem?_append_right (by rw [hlen, Nat.add_mul]; omega), hlen]
      rw [show (i + 1) * size + j - size = i * size + j by rw [Nat.add_mul]; omega]
      exact ih i x h j hj

theorem Arr.of_own {α : Type} {w : World} {base : Nat} {e : TypeId} {size : Nat} {v : Value} {l : List α} {cell : α → Nat → Value} (h : w.ownsRow base e size v l.length (l.flatMap (cellsOf size cell))) : Arr w w.heap.size size v l cell := by
  obtain ⟨h1, h2⟩ := h
  rcases h2 with ⟨hv, hn⟩ | ⟨g, cap, cur, hv, hg, hh, hc, hm, hs, ht⟩
  · refine ⟨none, 0, by rw [hv, hn], by omega, by omega, fun h => by omega⟩
  · refine ⟨some ⟨g, 0, none⟩, cap, hv, hc, by simpa only [maxLen] using hm, fun hl => ⟨g, 0, rfl, ?_, fun i x hx j hj => ?_⟩⟩
    · rcases Nat.lt_or_ge g w.heap.size with hlt | hge
      · exact hlt
      · rw [Array.getElem?_eq_none hge] at hh; cases hh
    · have hf := flat_get size cell l i x hx j hj
      rw [← ht, List.getElem?_take] at hf
      split at hf
      · have hb : Blk w g e cur := hh
        rw [hb.cell, Nat.zero_add]
        simpa using hf
      · cases hf

theorem own_snoc {α : Type} {w : World} {base : Nat} {e : TypeId} {size n : Nat} {v : Value} {l : List α} {cell : α → Nat → Value} {x : α} {vals : Array Value} (hn : n = l.length) (hv : vals.toList = cellsOf size cell x)
    (h : w.ownsRow base e size v (n + 1) (l.flatMap (cellsOf size cell) ++ vals.toList)) : w.ownsRow base e size v (l ++ [x]).length ((l ++ [x]).flatMap (cellsOf size cell)) := by
  subst hn
  simpa [hv] using h
end Go.Proofs.Ythplabmbbfefeaa
