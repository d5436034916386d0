/- The board: its cells, and the contracts of its small methods. -/
import Derived.Test.YthplabmbbfefeaaCyl
namespace Go.Proofs.Ythplabmbbfefeaa
open Go.RowKit Go.Shelf
set_option linter.unusedVariables false

def wcell (V : Nat → Nat → Int) (i : Nat) : Value := .int .i64 (V (i / 7) (i % 7))
def bcells (c : Cyl) (fa : Option Addr) (fc : Nat) (pa : Option Addr) (pc : Nat) (V : Nat → Nat → Int) (m : Value) : Array Value :=
  #[.int .i64 c.turns, .int .i64 c.long, .int .i64 c.plays, .slice fa c.frag.length fc, .slice pa c.pas.length pc] ++ ((List.range 217).map (wcell V)).toArray ++ #[m]

theorem bcells_zero (t l p : Int) (fa pa : Option Addr) (nf fc np pc : Nat) :
    (((((Try.zeroCells87.setIfInBounds 0 (.int .i64 t)).setIfInBounds 1 (.int .i64 l)).setIfInBounds 2 (.int .i64 p)).setIfInBounds 3 (.slice fa nf fc)).setIfInBounds 4 (.slice pa np pc)) =
    #[.int .i64 t, .int .i64 l, .int .i64 p, .slice fa nf fc, .slice pa np pc] ++ ((List.range 217).map (wcell fun _ _ => 0)).toArray ++ #[.map none] := by
  kernel_rfl

theorem bcells_size {c : Cyl} {fa pa : Option Addr} {fc pc : Nat} {V : Nat → Nat → Int} {m : Value} : (bcells c fa fc pa pc V m).size = 223 := by simp [bcells]

structure Board (W : World) (B g : Nat) (c : Cyl) (fa : Option Addr) (fc : Nat) (pa : Option Addr) (pc : Nat) (V : Nat → Nat → Int) (m : Value) : Prop where
  blk : Blk W g 87 (bcells c fa fc pa pc V m)
  fr : Arr W B 1 (.slice fa c.frag.length fc) c.frag icell
  ps : Arr W B 3 (.slice pa c.pas.length pc) c.pas pcell
  le : B ≤ g

theorem bget {c : Cyl} {fa pa : Option Addr} {fc pc : Nat} {V : Nat → Nat → Int} {m : Value} (i : Nat) :
    (bcells c fa fc pa pc V m)[i]? = if i < 5 then (#[.int .i64 c.turns, .int .i64 c.long, .int .i64 c.plays, .slice fa c.frag.length fc, .slice pa c.pas.length pc] : Array Value)[i]? else if i < 222 then some (wcell V (i - 5)) else if i = 222 then some m else none := by
  have hs1 : (#[.int .i64 c.turns, .int .i64 c.long, .int .i64 c.plays, .slice fa c.frag.length fc, .slice pa c.pas.length pc] : Array Value).size = 5 := rfl
  have hs2 : (((List.range 217).map (wcell V)).toArray).size = 217 := by simp
  unfold bcells
  by_cases h5 : i < 5
  · rw [if_pos h5, Array.getElem?_append_left (by rw [Array.size_append, hs1, hs2]; omega), Array.getElem?_append_left (by rw [hs1]; omega)]
  · rw [if_neg h5]
    by_cases h6 : i < 222
    · rw [if_pos h6, Array.getElem?_append_left (by rw [Array.size_append, hs1, hs2]; omega), Array.getElem?_append_right (by rw [hs1]; omega), hs1]
      simp only [List.getElem?_toArray, List.getElem?_map]
      rw [List.getElem?_range (by omega)]
      rfl
    · rw [if_neg h6, Array.getElem?_append_right (by rw [Array.size_append, hs1, hs2]; omega), Array.size_append, hs1, hs2]
      by_cases h7 : i = 222
      · rw [if_pos h7, h7]; rfl
      · rw [if_neg h7]
        exact Array.getElem?_eq_none (by simp; omega)

theorem bc_row {c : Cyl} {fa pa : Option Addr} {fc pc : Nat} {V : Nat → Nat → Int} {m : Value} (t k : Nat) (ht : t < 31) (hk : k < 7) : (bcells c fa fc pa pc V m)[5 + t * 7 + k]? = some (.int .i64 (V t k)) := by
  have h2 : (5 + t * 7 + k - 5) / 7 = t := by omega
  have h3 : (5 + t * 7 + k - 5) % 7 = k := by omega
  rw [bget, if_neg (by omega), if_pos (by omega), wcell, h2, h3]

theorem bc_set {c : Cyl} {fa pa : Option Addr} {fc pc : Nat} {V V' : Nat → Nat → Int} {m : Value} (t k : Nat) (x : Int) (ht : t < 31) (hk : k < 7) (hV : ∀ t' k', t' < 31 → k' < 7 → V' t' k' = if t' = t ∧ k' = k then x else V t' k') :
    (bcells c fa fc pa pc V m).setIfInBounds (5 + t * 7 + k) (.int .i64 x) = bcells c fa fc pa pc V' m := by
  apply Array.ext_getElem?
  intro i
  rw [Array.getElem?_setIfInBounds, bget, bget, bcells_size]
  by_cases hi : 5 + t * 7 + k = i
  · subst hi
    have h2 : (5 + t * 7 + k - 5) / 7 = t := by omega
    have h3 : (5 + t * 7 + k - 5) % 7 = k := by omega
    rw [if_pos rfl, if_pos (by omega), if_neg (by omega), if_pos (by omega), wcell, h2, h3, hV t k ht hk, if_pos ⟨rfl, rfl⟩]
  · rw [if_neg hi]
    by_cases h5 : i < 5
    · rw [if_pos h5, if_pos h5]
    · rw [if_neg h5, if_neg h5]
      by_cases h6 : i < 222
      · rw [if_pos h6, if_pos h6, wcell, wcell, hV _ _ (by omega) (by omega), if_neg (by omega)]
      · rw [if_neg h6, if_neg h6]

theorem bc_setm {c : Cyl} {fa pa : Option Addr} {fc pc : Nat} {V : Nat → Nat → Int} {m m' : Value} : (bcells c fa fc pa pc V m).setIfInBounds 222 m' = bcells c fa fc pa pc V m' := by
  apply Array.ext_getElem?
  intro i
  rw [Array.getElem?_setIfInBounds, bget, bget, bcells_size]
  by_cases hi : 222 = i
  · subst hi
    rw [if_pos rfl, if_pos (by omega), if_neg (by omega), if_neg (by omega), if_pos rfl]
  · rw [if_neg hi]
    by_cases h5 : i < 5
    · rw [if_pos h5, if_pos h5]
    · rw [if_neg h5, if_neg h5]
      by_cases h6 : i < 222
      · rw [if_pos h6, if_pos h6]
      · rw [if_neg h6, if_neg h6, if_neg (Ne.symm hi), if_neg (Ne.symm hi)]

section
variable {W W' : World} {B g : Nat} {c : Cyl} {fa pa : Option Addr} {fc pc : Nat} {V : Nat → Nat → Int} {m : Value}
theorem Board.c5 (h : Board W B g c fa fc pa pc V m) :
    W.cell? ⟨g, 0, none⟩ = some (.int .i64 c.turns) ∧ W.cell? ⟨g, 1, none⟩ = some (.int .i64 c.long) ∧ W.cell? ⟨g, 2, none⟩ = some (.int .i64 c.plays) ∧ W.cell? ⟨g, 3, none⟩ = some (.slice fa c.frag.length fc) ∧ W.cell? ⟨g, 4, none⟩ = some (.slice pa c.pas.length pc) := by
  refine ⟨?_, ?_, ?_, ?_, ?_⟩ <;> (rw [h.blk.cell, bget]; rfl)
theorem Board.at_ (h : Board W B g c fa fc pa pc V m) {t k : Nat} (ht : t < 31) (hk : k < 7) : W.cell? ⟨g, 5 + t * 7 + k, none⟩ = some (.int .i64 (V t k)) := by
  rw [h.blk.cell]; exact bc_row t k ht hk
theorem Board.mp (h : Board W B g c fa fc pa pc V m) : W.cell? ⟨g, 222, none⟩ = some m := by
  rw [h.blk.cell, bget]; rfl
theorem Board.frozen (h : Board W B g c fa fc pa pc V m) (i : Nat) : W.frozen? ⟨g, i, none⟩ = false := h.blk.frozen i
theorem Board.call (h : Board W B g c fa fc pa pc V m) (hb : Below W.heap.size W W') : Board W' B g c fa fc pa pc V m := by
  have h1 := h.le
  have h2 := h.blk.lt
  exact ⟨h.blk.call hb, h.fr.below (hb.mono (by omega)), h.ps.below (hb.mono (by omega)), h1⟩
theorem Board.belowB {B0 : Nat} (h : Board W B g c fa fc pa pc V m) (hb : Below B0 W W') (hg : g < B0) : Board W' B g c fa fc pa pc V m := by
  have h1 := h.le
  exact ⟨h.blk.below hb hg, h.fr.below (hb.mono (by omega)), h.ps.below (hb.mono (by omega)), h1⟩
theorem Board.alloc (h : Board W B g c fa fc pa pc V m) (o : Obj) : Board (W.alloc o) B g c fa fc pa pc V m := h.call ((Below.refl _ _).alloc (Nat.le_refl _) _)
theorem Board.drew (h : Board W B g c fa fc pa pc V m) : Board W.drew B g c fa fc pa pc V m := ⟨h.blk, h.fr, h.ps, h.le⟩
theorem Board.drewN (h : Board W B g c fa fc pa pc V m) (n : Nat) : Board (W.drewN n) B g c fa fc pa pc V m := ⟨h.blk, h.fr, h.ps, h.le⟩
theorem Arr.setCell {α : Type} {size : Nat} {v : Value} {l : List α} {cell : α → Nat → Value} (h : Arr W B size v l cell) {p : Addr} (hp : B ≤ p.block) (u : Value) : Arr (W.setCell p u) B size v l cell :=
  h.keep fun q hq => World.cell?_of_block (Below.heap_setCell W p u q.block (by omega))
theorem Board.set_ (h : Board W B g c fa fc pa pc V m) {V' : Nat → Nat → Int} {t k : Nat} {x : Int} (ht : t < 31) (hk : k < 7) (hV : ∀ t' k', t' < 31 → k' < 7 → V' t' k' = if t' = t ∧ k' = k then x else V t' k') :
    Board (W.setCell ⟨g, 5 + t * 7 + k, none⟩ (.int .i64 x)) B g c fa fc pa pc V' m := by
  refine ⟨?_, h.fr.setCell h.le _, h.ps.setCell h.le _, h.le⟩
  rw [← bc_set t k x ht hk hV]
  exact h.blk.set_ _ _
theorem Board.setm (h : Board W B g c fa fc pa pc V m) (m' : Value) : Board (W.setCell ⟨g, 222, none⟩ m') B g c fa fc pa pc V m' := by
  refine ⟨?_, h.fr.setCell h.le _, h.ps.setCell h.le _, h.le⟩
  rw [← bc_setm (m' := m')]
  exact h.blk.set_ _ _
theorem Board.far (h : Board W B g c fa fc pa pc V m) {p : Addr} (hp : g ≠ p.block) (hB : B ≤ p.block) (u : Value) : Board (W.setCell p u) B g c fa fc pa pc V m :=
  ⟨h.blk.far hp u, h.fr.setCell hB _, h.ps.setCell hB _, h.le⟩
theorem Board.same (h : Board W B g c fa fc pa pc V m) (hh : ∀ k, k ≤ g → W'.heap[k]? = W.heap[k]?) : Board W' B g c fa fc pa pc V m := by
  have hl := h.le
  exact ⟨(hh g (Nat.le_refl _)).trans h.blk, h.fr.keep fun p hp => World.cell?_of_block (hh _ (by omega)), h.ps.keep fun p hp => World.cell?_of_block (hh _ (by omega)), hl⟩
end

/-- a board somewhere -/
def BoardAt (W : World) (B g : Nat) (c : Cyl) (V : Nat → Nat → Int) (m : Value) : Prop := ∃ fa fc pa pc, Board W B g c fa fc pa pc V m

set_option maxRecDepth 100000 in
theorem newBoard_ok (v : Value) (c : Cyl) (w : World) (hv : CylV w w.heap.size v c) :
    Calls Try.prog 50 #[v] w fun r w' => r = .returned (.pointer (some ⟨w.heap.size + 1, 0, none⟩)) ∧ BoardAt w' w.heap.size (w.heap.size + 1) c (fun _ _ => 0) (.map none) ∧ w'.heap.size = w.heap.size + 2 ∧ Below w.heap.size w w' := by
  obtain ⟨fa, fc, pa, pc, rfl, hf, hp⟩ := hv.open_
  have hC := CB.new hf hp
  have hB := (Below.refl w.heap.size w).alloc (Nat.le_refl _) (.cells #[.int .i64 c.turns, .int .i64 c.long, .int .i64 c.plays, .slice fa c.frag.length fc, .slice pa c.pas.length pc] 25)
  obtain ⟨k0, k1, k2, k3, k4⟩ := hC.c5
  go_enter Try.func50, Try.ntmps50
  go_wp2
  go_ret
  refine ⟨rfl, ⟨fa, fc, pa, pc, ⟨?_, hC.fr.alloc (by simp) _, hC.ps.alloc (by simp) _, by omega⟩⟩, by simp, hB.alloc (by simp) _⟩
  rw [bcells_zero]
  have := Blk.new (w.alloc (.cells #[.int .i64 c.turns, .int .i64 c.long, .int .i64 c.plays, .slice fa c.frag.length fc, .slice pa c.pas.length pc] 25)) 87 (bcells c fa fc pa pc (fun _ _ => 0) (.map none))
  simpa [bcells] using this

theorem own_ok (i B g : Nat) (c : Cyl) (p : Pas) (V : Nat → Nat → Int) (m : Value) (w : World) (h : BoardAt w B g c V m) (hi : c.pas[i]? = some p) :
    Calls Try.prog 52 #[.pointer (some ⟨g,0,none⟩), .int .i64 i] w fun r w' => r = .returned (.int .i64 p.w) ∧ Below w.heap.size w w' := by
  obtain ⟨fa, fc, pa, pc, h⟩ := h
  obtain ⟨k0, k1, k2, k3, k4⟩ := h.c5
  have hlt : i < c.pas.length := (List.getElem?_eq_some_iff.1 hi).1
  have hl := h.ps.len_
  obtain ⟨b, off, x, rfl, hb, hx, hc⟩ := h.ps.at_ hlt
  rw [hi] at hx
  injection hx with hx
  subst hx
  have c2 := hc 2 (by omega)
  simp only [pcell] at c2
  obtain ⟨_, hl1, hl2⟩ := hl
  clear hc hi
  go_enter Try.func52, Try.ntmps52
  go_wp2
  go_ret
  exact ⟨rfl, Below.refl _ _⟩

theorem most_ok (B g t k : Nat) (c : Cyl) (V : Nat → Nat → Int) (m : Value) (w : World) (h : BoardAt w B g c V m) (ht : t < 31) (hk : k < 7) (h0 : c.turns = t) (h2 : c.plays = k) :
    Calls Try.prog 58 #[.pointer (some ⟨g,0,none⟩)] w fun r w' => r = .returned (.int .i64 (V t k)) ∧ Below w.heap.size w w' := by
  obtain ⟨fa, fc, pa, pc, h⟩ := h
  obtain ⟨k0, k1, k2, k3, k4⟩ := h.c5
  have c3 := h.at_ ht hk
  rw [h0] at k0
  rw [h2] at k2
  clear h0 h2
  go_enter Try.func58, Try.ntmps58
  go_wp2
  have a1 : (t:Int) < 31 := by omega
  have a2 : (k:Int) < 7 := by omega
  go_quiet (fail)
  go_wp2
  go_ret
  exact ⟨rfl, bdrewN (Below.refl _ _) _⟩
end Go.Proofs.Ythplabmbbfefeaa
