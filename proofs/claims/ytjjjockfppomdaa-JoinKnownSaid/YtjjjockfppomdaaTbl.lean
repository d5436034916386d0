/- The table: its cells. -/
import Derived.Test.YtjjjockfppomdaaChkA
namespace Go.Proofs.Ytjjjockfppomdaa
open Go.RowKit Go.Shelf
set_option linter.unusedVariables false

def fcell (V : Nat → Nat → Int) (i : Nat) : Value := .int .i64 (V (i / 16) (i % 16))
def tcells (c : Cyl) (pa : Option Addr) (pc : Nat) (sv : Value) (V : Nat → Nat → Int) (ga gu : Nat) : Array Value :=
  #[.slice pa c.pcs.length pc, .int .i64 c.off, .int .i64 c.slo, .int .i64 c.shi, sv] ++ ((List.range 256).map (fcell V)).toArray ++ #[.map (some ga), .map (some gu)]

theorem tcells_zero (p : Value) (o l h : Int) (a u : Value) :
    ((((((Try.zeroCells80.setIfInBounds 0 p).setIfInBounds 1 (.int .i64 o)).setIfInBounds 2 (.int .i64 l)).setIfInBounds 3 (.int .i64 h)).setIfInBounds 261 a).setIfInBounds 262 u) =
    #[p, .int .i64 o, .int .i64 l, .int .i64 h, .slice none 0 0] ++ ((List.range 256).map (fcell fun _ _ => 0)).toArray ++ #[a, u] := by
  kernel_rfl

section
variable {c : Cyl} {pa : Option Addr} {pc ga gu : Nat} {sv sv' : Value} {V V' : Nat → Nat → Int}
theorem tcells_size : (tcells c pa pc sv V ga gu).size = 263 := by simp [tcells]
theorem tget (i : Nat) :
    (tcells c pa pc sv V ga gu)[i]? = if i < 5 then (#[.slice pa c.pcs.length pc, .int .i64 c.off, .int .i64 c.slo, .int .i64 c.shi, sv] : Array Value)[i]? else if i < 261 then some (fcell V (i - 5)) else if i = 261 then some (.map (some ga)) else if i = 262 then some (.map (some gu)) else none := by
  have hs1 : (#[.slice pa c.pcs.length pc, .int .i64 c.off, .int .i64 c.slo, .int .i64 c.shi, sv] : Array Value).size = 5 := rfl
  have hs2 : (((List.range 256).map (fcell V)).toArray).size = 256 := by simp
  unfold tcells
  by_cases h5 : i < 5
  · rw [if_pos h5, Array.getElem?_append_left (by rw [Array.size_append, hs1, hs2]; omega), Array.getElem?_append_left (by rw [hs1]; omega)]
  · rw [if_neg h5]
    by_cases h6 : i < 261
    · rw [if_pos h6, Array.getElem?_append_left (by rw [Array.size_append, hs1, hs2]; omega), Array.getElem?_append_right (by rw [hs1]; omega), hs1]
      simp only [List.getElem?_toArray, List.getElem?_map]
      rw [List.getElem?_range (by omega)]
      rfl
    · rw [if_neg h6, Array.getElem?_append_right (by rw [Array.size_append, hs1, hs2]; omega), Array.size_append, hs1, hs2]
      by_cases h7 : i = 261
      · rw [if_pos h7, h7]; rfl
      · rw [if_neg h7]
        by_cases h8 : i = 262
        · rw [if_pos h8, h8]; rfl
        · rw [if_neg h8]
          exact Array.getElem?_eq_none (by simp; omega)
theorem tc_row (i k : Nat) (hi : i < 16) (hk : k < 16) : (tcells c pa pc sv V ga gu)[5 + i * 16 + k]? = some (.int .i64 (V i k)) := by
  have h2 : (5 + i * 16 + k - 5) / 16 = i := by omega
  have h3 : (5 + i * 16 + k - 5) % 16 = k := by omega
  rw [tget, if_neg (by omega), if_pos (by omega), fcell, h2, h3]
theorem tc_set (i k : Nat) (x : Int) (hi : i < 16) (hk : k < 16) (hV : ∀ i' k', i' < 16 → k' < 16 → V' i' k' = if i' = i ∧ k' = k then x else V i' k') :
    (tcells c pa pc sv V ga gu).setIfInBounds (5 + i * 16 + k) (.int .i64 x) = tcells c pa pc sv V' ga gu := by
  apply Array.ext_getElem?
  intro j
  rw [Array.getElem?_setIfInBounds, tget, tget, tcells_size]
  by_cases hj : 5 + i * 16 + k = j
  · subst hj
    have h2 : (5 + i * 16 + k - 5) / 16 = i := by omega
    have h3 : (5 + i * 16 + k - 5) % 16 = k := by omega
    rw [if_pos rfl, if_pos (by omega), if_neg (by omega), if_pos (by omega), fcell, h2, h3, hV i k hi hk, if_pos ⟨rfl, rfl⟩]
  · rw [if_neg hj]
    by_cases h5 : j < 5
    · rw [if_pos h5, if_pos h5]
    · rw [if_neg h5, if_neg h5]
      by_cases h6 : j < 261
      · rw [if_pos h6, if_pos h6, fcell, fcell, hV _ _ (by omega) (by omega), if_neg (by omega)]
      · rw [if_neg h6, if_neg h6]
theorem tc_sets : (tcells c pa pc sv V ga gu).setIfInBounds 4 sv' = tcells c pa pc sv' V ga gu := by
  apply Array.ext_getElem?
  intro j
  rw [Array.getElem?_setIfInBounds, tget, tget, tcells_size]
  by_cases hj : 4 = j
  · subst hj
    rw [if_pos rfl, if_pos (by omega), if_pos (by omega)]; rfl
  · rw [if_neg hj]
    by_cases h5 : j < 5
    · rw [if_pos h5, if_pos h5]
      rcases j with _ | _ | _ | _ | _ | j
      · rfl
      · rfl
      · rfl
      · rfl
      · omega
      · omega
    · rw [if_neg h5, if_neg h5]
end

/-- the cells of a table in block g -/
def TC (W : World) (g : Nat) (c : Cyl) (pa : Option Addr) (pc : Nat) (sv : Value) (V : Nat → Nat → Int) (ga gu : Nat) : Prop := Blk W g 80 (tcells c pa pc sv V ga gu)
section
variable {W W' : World} {g pc ga gu : Nat} {c : Cyl} {pa : Option Addr} {sv sv' : Value} {V V' : Nat → Nat → Int}
theorem TC.c5 (h : TC W g c pa pc sv V ga gu) :
    W.cell? ⟨g, 0, none⟩ = some (.slice pa c.pcs.length pc) ∧ W.cell? ⟨g, 1, none⟩ = some (.int .i64 c.off) ∧ W.cell? ⟨g, 2, none⟩ = some (.int .i64 c.slo) ∧ W.cell? ⟨g, 3, none⟩ = some (.int .i64 c.shi) ∧ W.cell? ⟨g, 4, none⟩ = some sv := by
  refine ⟨?_, ?_, ?_, ?_, ?_⟩ <;> (rw [Blk.cell h, tget]; rfl)
theorem TC.at_ (h : TC W g c pa pc sv V ga gu) {i k : Nat} (hi : i < 16) (hk : k < 16) : W.cell? ⟨g, 5 + i * 16 + k, none⟩ = some (.int .i64 (V i k)) := by
  rw [Blk.cell h]; exact tc_row i k hi hk
theorem TC.ma (h : TC W g c pa pc sv V ga gu) : W.cell? ⟨g, 261, none⟩ = some (.map (some ga)) := by
  rw [Blk.cell h, tget]; rfl
theorem TC.mu (h : TC W g c pa pc sv V ga gu) : W.cell? ⟨g, 262, none⟩ = some (.map (some gu)) := by
  rw [Blk.cell h, tget]; rfl
theorem TC.frozen (h : TC W g c pa pc sv V ga gu) (i : Nat) : W.frozen? ⟨g, i, none⟩ = false := Blk.frozen h i
theorem TC.lt (h : TC W g c pa pc sv V ga gu) : g < W.heap.size := Blk.lt h
theorem TC.call (h : TC W g c pa pc sv V ga gu) (hb : Below W.heap.size W W') : TC W' g c pa pc sv V ga gu := Blk.call h hb
theorem TC.belowB {B : Nat} (h : TC W g c pa pc sv V ga gu) (hb : Below B W W') (hg : g < B) : TC W' g c pa pc sv V ga gu := Blk.below h hb hg
theorem TC.set_ (h : TC W g c pa pc sv V ga gu) {i k : Nat} {x : Int} (hi : i < 16) (hk : k < 16) (hV : ∀ i' k', i' < 16 → k' < 16 → V' i' k' = if i' = i ∧ k' = k then x else V i' k') :
    TC (W.setCell ⟨g, 5 + i * 16 + k, none⟩ (.int .i64 x)) g c pa pc sv V' ga gu := by
  unfold TC
  rw [← tc_set (V := V) i k x hi hk hV]
  exact Blk.set_ h _ _
theorem TC.sets (h : TC W g c pa pc sv V ga gu) (sv' : Value) : TC (W.setCell ⟨g, 4, none⟩ sv') g c pa pc sv' V ga gu := by
  unfold TC
  rw [← tc_sets (sv := sv)]
  exact Blk.set_ h _ _
theorem TC.far (h : TC W g c pa pc sv V ga gu) {p : Addr} (hp : g ≠ p.block) (u : Value) : TC (W.setCell p u) g c pa pc sv V ga gu := Blk.far h hp u
end
end Go.Proofs.Ytjjjockfppomdaa
