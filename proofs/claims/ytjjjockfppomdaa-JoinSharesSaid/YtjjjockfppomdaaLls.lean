/- Lists of lists of steps in memory. -/
import Derived.Test.YtjjjockfppomdaaLvl
import Derived.Test.YtjjjockfppomdaaSml
import Derived.Test.YtjjjockfppomdaaWays
namespace Go.Proofs.Ytjjjockfppomdaa
open Go.RowKit Go.Shelf
set_option linter.unusedVariables false

def vcell (v : Value) (_ : Nat) : Value := v
theorem flat_v : ∀ vs : List Value, vs.flatMap (cellsOf 1 vcell) = vs
  | [] => rfl
  | v :: r => by
    rw [List.flatMap_cons, flat_v r]
    simp [cellsOf, List.range_succ, vcell]
theorem slT_ls : SlT 90 29 1 24 (.slice none 0 0) := ⟨Try.underlying90, by kernel_rfl, rfl, by omega⟩
/-- a slice of slices of steps -/
def LL (w : World) (v : Value) (ls : List (List St)) : Prop :=
  ∃ vs, Arr w w.heap.size 1 v vs vcell ∧ vs.length = ls.length ∧ ∀ (i : Nat) (l : List St), ls[i]? = some l → ∃ u : Value, vs[i]? = some u ∧ Arr w w.heap.size 2 u l stcell
theorem LL.below {w w' : World} {v : Value} {ls : List (List St)} (h : LL w v ls) (hb : Below w.heap.size w w') : LL w' v ls := by
  obtain ⟨vs, h1, h2, h3⟩ := h
  refine ⟨vs, (h1.below hb).more hb.size, h2, fun i l hl => ?_⟩
  obtain ⟨u, hu, ha⟩ := h3 i l hl
  exact ⟨u, hu, (ha.below hb).more hb.size⟩
theorem LL.form {w : World} {v : Value} {ls : List (List St)} (h : LL w v ls) : ∃ A cap, v = .slice A ls.length cap ∧ ls.length ≤ cap ∧ cap ≤ 9223372036854775807 := by
  obtain ⟨vs, ⟨A, cap, h1, h4, h5, -⟩, h2, -⟩ := h
  rw [h2] at h1 h4
  exact ⟨A, cap, h1, h4, h5⟩
theorem LL.at_ {w : World} {A : Option Addr} {n cap : Nat} {ls : List (List St)} (h : LL w (.slice A n cap) ls) {i : Nat} {l : List St} (hi : ls[i]? = some l) :
    ∃ b off lA lc, A = some ⟨b, off, none⟩ ∧ b < w.heap.size ∧ w.cell? ⟨b, off + i, none⟩ = some (.slice lA l.length lc) ∧ Arr w w.heap.size 2 (.slice lA l.length lc) l stcell := by
  obtain ⟨vs, h1, h2, h3⟩ := h
  have hil := (List.getElem?_eq_some_iff.1 hi).1
  obtain ⟨b, off, u, g1, g2, g3, g4⟩ := h1.at_ (k := i) (by omega)
  obtain ⟨u', hu, ha⟩ := h3 i l hi
  rw [g3] at hu
  injection hu with hu
  subst hu
  obtain ⟨lA, lc, rfl, -⟩ := id ha
  have := g4 0 (by omega)
  rw [Nat.mul_one] at this
  exact ⟨b, off, lA, lc, g1, g2, this, ha⟩
/-- a row of steps of the call's own -/
structure RowS (W : World) (b : Nat) (l : List St) : Prop where
  cell : ∀ i x, l[i]? = some x → ∀ j, j < 2 → W.cell? ⟨b, i * 2 + j, none⟩ = some (stcell x j)
  blk : ∃ cs, Blk W b 28 cs
theorem RowS.same {W W' : World} {b : Nat} {l : List St} (h : RowS W b l) (hk : W'.heap[b]? = W.heap[b]?) : RowS W' b l := by
  obtain ⟨h1, cs, h2⟩ := h
  have h3 : Blk W' b 28 cs := hk.trans h2
  exact ⟨fun i x hx j hj => by rw [h3.cell, ← h2.cell]; exact h1 i x hx j hj, cs, h3⟩
theorem RowS.lt {W : World} {b : Nat} {l : List St} (h : RowS W b l) : b < W.heap.size := by
  obtain ⟨-, cs, h2⟩ := h
  exact h2.lt
theorem RowS.arr {W : World} {b n cap : Nat} {l : List St} (h : RowS W b l) (hn : n = l.length) (h1 : l.length ≤ cap) (h2 : cap ≤ 9223372036854775807) : Arr W W.heap.size 2 (.slice (some ⟨b, 0, none⟩) n cap) l stcell := by
  subst hn
  have g2 := h.lt
  obtain ⟨g1, cs, -⟩ := h
  refine ⟨_, _, rfl, h1, h2, fun _ => ⟨b, 0, rfl, g2, fun i x hx j hj => ?_⟩⟩
  rw [Nat.zero_add]
  exact g1 i x hx j hj
theorem RowS.of_own {W : World} {base n : Nat} {v : Value} {l : List St} (h : W.ownsRow base 28 2 v n (l.flatMap (cellsOf 2 stcell))) (hn : n = l.length) (hpos : 0 < n) :
    ∃ b cap, v = .slice (some ⟨b, 0, none⟩) n cap ∧ RowS W b l ∧ base ≤ b ∧ n ≤ cap ∧ cap ≤ 9223372036854775807 := by
  rcases h.2 with ⟨_, h0⟩ | ⟨g, cap, cur, rfl, h1, h2, h3, h4, h5, h6⟩
  · omega
  · have hb : Blk W g 28 cur := h2
    refine ⟨g, cap, rfl, ⟨fun i x hx j hj => ?_, cur, hb⟩, h1, h3, h4⟩
    have := flat_get 2 stcell l i x hx j hj
    have hil := (List.getElem?_eq_some_iff.1 hx).1
    rw [← h6, List.getElem?_take, if_pos (by omega)] at this
    rw [hb.cell, ← this]
    simp
/-- the rows of a list of lists that grows -/
def NX (W : World) (vs : List Value) (ls : List (List St)) : Prop :=
  vs.length = ls.length ∧ ∀ (i : Nat) (l : List St), ls[i]? = some l → ∃ (b cap : Nat), vs[i]? = some (Value.slice (some ⟨b, 0, none⟩) l.length cap) ∧ RowS W b l ∧ l.length ≤ cap ∧ cap ≤ 9223372036854775807
theorem NX.keep {W W' : World} {vs : List Value} {ls : List (List St)} (h : NX W vs ls) (hk : ∀ b cs, Blk W b 28 cs → W'.heap[b]? = W.heap[b]?) : NX W' vs ls := by
  refine ⟨h.1, fun i l hl => ?_⟩
  obtain ⟨b, cap, h1, h2, h3, h4⟩ := h.2 i l hl
  obtain ⟨cs, hcs⟩ := h2.blk
  exact ⟨b, cap, h1, h2.same (hk b cs hcs), h3, h4⟩
theorem NX.snoc {W : World} {vs : List Value} {ls : List (List St)} (h : NX W vs ls) {b cap : Nat} {l : List St} (hr : RowS W b l) (h1 : l.length ≤ cap) (h2 : cap ≤ 9223372036854775807) : NX W (vs ++ [.slice (some ⟨b, 0, none⟩) l.length cap]) (ls ++ [l]) := by
  refine ⟨by simp [h.1], fun i m hm => ?_⟩
  by_cases hi : i < ls.length
  · rw [List.getElem?_append_left hi] at hm
    rw [List.getElem?_append_left (by rw [h.1]; exact hi)]
    exact h.2 i m hm
  · have hi2 := (List.getElem?_eq_some_iff.1 hm).1
    rw [List.length_append, List.length_singleton] at hi2
    obtain rfl : i = ls.length := by omega
    rw [List.getElem?_append_right (by omega), Nat.sub_self] at hm
    rw [List.getElem?_append_right (by rw [h.1]; omega), h.1, Nat.sub_self]
    simp only [List.getElem?_cons_zero, Option.some.injEq] at hm ⊢
    subst hm
    exact ⟨b, cap, rfl, hr, h1, h2⟩
/-- the list of lists that is made, as far as it is -/
structure NB (wl : World) (ls : List (List St)) (A : Option Addr) (cap : Nat) (vs : List Value) (W : World) : Prop where
  own : W.ownsRow wl.heap.size 29 1 (.slice A ls.length cap) ls.length vs
  nx : NX W vs ls
  bl : Below wl.heap.size wl W
section
variable {wl W W' : World} {ls : List (List St)} {A : Option Addr} {cap : Nat} {vs : List Value}
theorem NB.call (h : NB wl ls A cap vs W) (hb : Below W.heap.size W W') : NB wl ls A cap vs W' :=
  ⟨own_call h.own hb, h.nx.keep fun b cs hcs => hb.block b hcs.lt, h.bl.trans (hb.mono h.bl.size)⟩
theorem NB.ll (h : NB wl ls A cap vs W) : LL W (.slice A ls.length cap) ls := by
  have h1 : W.ownsRow wl.heap.size 29 1 (.slice A vs.length cap) vs.length (vs.flatMap (cellsOf 1 vcell)) := by
    rw [flat_v vs, h.nx.1]
    exact h.own
  have h2 := Arr.of_own h1
  rw [h.nx.1] at h2
  refine ⟨vs, h2, h.nx.1, fun i l hl => ?_⟩
  obtain ⟨b, cp, g1, g2, g3, g4⟩ := h.nx.2 i l hl
  exact ⟨_, g1, g2.arr rfl g3 g4⟩
theorem NB.nil_ (wl : World) : NB wl [] none 0 [] wl := ⟨by simpa using World.ownsRow_nil _ _ _ _, ⟨rfl, fun i l hl => by simp at hl⟩, Below.refl _ _⟩
theorem NB.app (h : NB wl ls A cap vs W) {w4 : World} {v' : Value} {b cp : Nat} {l : List St} (hr : RowS W b l) (h1 : l.length ≤ cp) (h2 : cp ≤ 9223372036854775807) (hb4 : Below wl.heap.size W w4)
    (hkeep : ∀ g, g < W.heap.size → (∀ ad, A = some ad → ad.block ≠ g) → w4.heap[g]? = W.heap[g]?)
    (hown : w4.ownsRow wl.heap.size 29 1 v' (ls.length + 1) (vs ++ (#[Value.slice (some ⟨b, 0, none⟩) l.length cp] : Array Value).toList)) :
    ∃ A' cap', v' = .slice A' (ls.length + 1) cap' ∧ NB wl (ls ++ [l]) A' cap' (vs ++ [.slice (some ⟨b, 0, none⟩) l.length cp]) w4 := by
  have hLL : (ls ++ [l]).length = ls.length + 1 := by simp
  obtain ⟨A', cap', rfl⟩ := own_form hown
  refine ⟨A', cap', rfl, by rw [hLL]; simpa using hown, ?_, h.bl.trans hb4⟩
  have hk : ∀ g cs, Blk W g 28 cs → w4.heap[g]? = W.heap[g]? := fun g cs hg => hkeep g hg.lt fun ad had e => by
    refine own_blk_ne h.own hg (by decide) ?_
    rw [had, ← e]
    rfl
  have h3 := h.nx.snoc hr h1 h2
  exact h3.keep hk
end
theorem one_sl {A : Option Addr} {n c : Nat} : ∀ u ∈ (#[Value.slice A n c] : Array Value).toList, u.oneCell' = true := by simp [Value.oneCell']
theorem one_sts (l : List St) : ∀ u ∈ l.flatMap (cellsOf 2 stcell), u.oneCell' = true := by
  intro u hu
  simp only [List.mem_flatMap, cellsOf, List.mem_map, List.mem_range] at hu
  obtain ⟨p, _, j, hj, rfl⟩ := hu
  have : j = 0 ∨ j = 1 := by omega
  rcases this with rfl | rfl <;> rfl
/-- the first list of lists: the one of no steps -/
theorem LL.first {W : World} {g h : Nat} {cs : Array Value} (h1 : Blk W g 28 cs) (h2 : Blk W h 29 #[.slice (some ⟨g, 0, none⟩) 0 0]) : LL W (.slice (some ⟨h, 0, none⟩) 1 1) [[]] := by
  refine ⟨[.slice (some ⟨g, 0, none⟩) 0 0], Arr.lit h2 h2.lt rfl (by simp) (by omega) (by simp [cellsOf, List.range_succ, vcell]), rfl, fun i l hl => ?_⟩
  have hi := (List.getElem?_eq_some_iff.1 hl).1
  simp only [List.length_singleton] at hi
  obtain rfl : i = 0 := by omega
  simp only [List.getElem?_cons_zero, Option.some.injEq] at hl
  subst hl
  exact ⟨_, rfl, _, _, rfl, Nat.le_refl _, by omega, fun h => absurd h (by simp)⟩
end Go.Proofs.Ytjjjockfppomdaa
