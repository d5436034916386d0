/- A list of numbers that grows behind a field of a struct of the call's own. -/
import Derived.Test.YthplabmbbfefeaaPlan
import Derived.Test.YthplabmbbfefeaaPlayH
import Derived.Test.YthplabmbbfefeaaWays
import Derived.Test.YthplabmbbfefeaaOut
namespace Go.Proofs.Ythplabmbbfefeaa
open Go.RowKit Go.Shelf
set_option linter.unusedVariables false

/-- the cylinder's own box lies at g0, a second one at g1 > g0; its field 3 holds a row of the call's own -/
structure MInv (wc : World) (g0 g1 : Nat) (c : Cyl) (fa : Option Addr) (fc : Nat) (pa : Option Addr) (pc : Nat) (L : List Int) (A : Option Addr) (cap : Nat) (wr : World) : Prop where
  cb : CB wr g0 g0 c fa fc pa pc
  x : Blk wr g1 25 #[.int .i64 c.turns, .int .i64 c.long, .int .i64 c.plays, .slice A L.length cap, .slice pa c.pas.length pc]
  own : wr.ownsRow wc.heap.size 3 1 (.slice A L.length cap) L.length (L.flatMap (cellsOf 1 icell))
  gr : wc.grownBy wr (some g1)
  lo : g0 < g1
  hi : g1 < wc.heap.size

section
variable {wc wr : World} {g0 g1 : Nat} {c : Cyl} {fa : Option Addr} {fc : Nat} {pa : Option Addr} {pc : Nat} {L : List Int} {A : Option Addr} {cap : Nat}
theorem MInv.drew (h : MInv wc g0 g1 c fa fc pa pc L A cap wr) : MInv wc g0 g1 c fa fc pa pc L A cap wr.drew :=
  ⟨h.cb.drew, h.x.drew, h.own, ⟨h.gr.os, h.gr.tape, h.gr.output, h.gr.size, h.gr.block⟩, h.lo, h.hi⟩
theorem MInv.fx (h : MInv wc g0 g1 c fa fc pa pc L A cap wr) : wr.cell? ⟨g1, 3, none⟩ = some (.slice A L.length cap) := by
  have := h.x.cell 3
  simpa using this
theorem MInv.app (h : MInv wc g0 g1 c fa fc pa pc L A cap wr) {w4 : World} {v' : Value} {y : Int} (hb4 : Below wc.heap.size wr w4)
    (hown : w4.ownsRow wc.heap.size 3 1 v' (L.length + 1) (L.flatMap (cellsOf 1 icell) ++ (#[.int .i64 y] : Array Value).toList)) :
    ∃ A' cap', v' = .slice A' (L.length + 1) cap' ∧ w4.cell? ⟨g1, 3, none⟩ = some (.slice A L.length cap) ∧ (∀ i, w4.frozen? ⟨g1, i, none⟩ = false) ∧
      MInv wc g0 g1 c fa fc pa pc (L ++ [y]) A' cap' (w4.setCell ⟨g1, 3, none⟩ (.slice A' (L.length + 1) cap')) := by
  have hLL : (L ++ [y]).length = L.length + 1 := by simp
  have hown5 := own_snoc (cell := icell) (x := y) rfl (by rfl) hown
  obtain ⟨A', cap', rfl⟩ := own_form hown5
  have hx4 : Blk w4 g1 _ _ := h.x.below hb4 h.hi
  have hs := hx4.set_ 3 (.slice A' (L ++ [y]).length cap')
  have hgr4 : wc.grownBy w4 (some g1) := ⟨hb4.os.trans h.gr.os, hb4.tape.trans h.gr.tape, hb4.output.trans h.gr.output, Nat.le_trans h.gr.size hb4.size, fun k hk hr => (hb4.block k hk).trans (h.gr.block k hk hr)⟩
  have hC4 := h.cb.belowB hb4 (Nat.lt_trans h.lo h.hi)
  rw [← hLL]
  refine ⟨A', cap', rfl, by have := hx4.cell 3; simpa using this, fun i => hx4.frozen i, ?_, by simpa using hs, hown5.kept (grown_setCell _) (.inr fun e => own_blk_ne hown5 hx4 (by decide) e.symm), grown_trans' hgr4 (grown_setCell _), h.lo, h.hi⟩
  exact hC4.belowB ((Below.refl (g0 + 1) w4).setCell (p := ⟨g1, 3, none⟩) h.lo _) (Nat.lt_succ_self _)
end
/-- a list of numbers in memory, cell by cell -/
theorem row_cell2 {w : World} {B n c : Nat} {A : Option Addr} {l : List Int} (h : Arr w B 1 (.slice A n c) l icell) {k : Nat} (hk : k < l.length) :
    ∃ b off x, A = some ⟨b, off, none⟩ ∧ b < B ∧ l[k]? = some x ∧ w.cell? ⟨b, off + k, none⟩ = some (.int .i64 x) := by
  obtain ⟨b, off, x, h1, h2, h3, h4⟩ := h.at_ hk
  have := h4 0 (by omega)
  rw [Nat.mul_one] at this
  exact ⟨b, off, x, h1, h2, h3, this⟩
theorem MInv.frc {wc wr : World} {g0 g1 : Nat} {c : Cyl} {fb fo : Nat} {fc : Nat} {pa : Option Addr} {pc : Nat} {L : List Int} {A : Option Addr} {cap : Nat} (h : MInv wc g0 g1 c (some ⟨fb, fo, none⟩) fc pa pc L A cap wr) {k : Nat} {x : Int} (hx : c.frag[k]? = some x) :
    wr.cell? ⟨fb, fo + k, none⟩ = some (.int .i64 x) := by
  obtain ⟨b, off, y, h1, h2, h3, h4⟩ := row_cell2 h.cb.fr (List.getElem?_eq_some_iff.1 hx).1
  injection h1 with h1
  injection h1 with h1 h5
  subst h1 h5
  rw [hx] at h3
  injection h3 with h3
  subst h3
  exact h4
theorem insF_ge {t x : Int} {r : List Int} (h : t < x) : insF t (x :: r) = t :: x :: r := by
  rw [insF, if_pos (by omega), if_pos h]
theorem insF_at {t x : Int} {r : List Int} (h : t ≤ x) (h2 : ¬ t < x) : insF t (x :: r) = x :: r := by
  rw [insF, if_pos h, if_neg h2]
theorem insF_lt {t x : Int} {r : List Int} (h : ¬ t ≤ x) : insF t (x :: r) = x :: insF t r := by
  rw [insF, if_neg h]
end Go.Proofs.Ythplabmbbfefeaa
