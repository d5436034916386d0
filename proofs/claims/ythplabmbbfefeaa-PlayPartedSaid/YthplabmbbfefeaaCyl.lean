/- A cylinder that lies in a box of the call's own. -/
import Derived.Test.YthplabmbbfefeaaPlayC
import Derived.Test.YthplabmbbfefeaaOwn
import Derived.Test.YthplabmbbfefeaaRegion
namespace Go.Proofs.Ythplabmbbfefeaa
open Go.RowKit Go.Shelf
set_option linter.unusedVariables false

theorem CylV.open_ {w : World} {B : Nat} {v : Value} {c : Cyl} (h : CylV w B v c) :
    ∃ fa fc pa pc, v = .agg #[.int .i64 c.turns, .int .i64 c.long, .int .i64 c.plays, .slice fa c.frag.length fc, .slice pa c.pas.length pc] ∧
      Arr w B 1 (.slice fa c.frag.length fc) c.frag icell ∧ Arr w B 3 (.slice pa c.pas.length pc) c.pas pcell := by
  obtain ⟨fv, pv, rfl, hf, hp⟩ := h
  have hf' := hf
  have hp' := hp
  obtain ⟨fa, fc, rfl, _⟩ := hf
  obtain ⟨pa, pc, rfl, _⟩ := hp
  exact ⟨fa, fc, pa, pc, rfl, hf', hp'⟩

/-- the cylinder's five cells are block g; its two lists lie below block B -/
structure CB (W : World) (B g : Nat) (c : Cyl) (fa : Option Addr) (fc : Nat) (pa : Option Addr) (pc : Nat) : Prop where
  blk : Blk W g 25 #[.int .i64 c.turns, .int .i64 c.long, .int .i64 c.plays, .slice fa c.frag.length fc, .slice pa c.pas.length pc]
  fr : Arr W B 1 (.slice fa c.frag.length fc) c.frag icell
  ps : Arr W B 3 (.slice pa c.pas.length pc) c.pas pcell
  le : B ≤ g

section
variable {W W' : World} {B g : Nat} {c : Cyl} {fa pa : Option Addr} {fc pc : Nat}
theorem CB.new {w : World} (hf : Arr w w.heap.size 1 (.slice fa c.frag.length fc) c.frag icell) (hp : Arr w w.heap.size 3 (.slice pa c.pas.length pc) c.pas pcell) :
    CB (w.alloc (.cells #[.int .i64 c.turns, .int .i64 c.long, .int .i64 c.plays, .slice fa c.frag.length fc, .slice pa c.pas.length pc] 25)) w.heap.size w.heap.size c fa fc pa pc :=
  ⟨Blk.new _ _ _, hf.alloc (Nat.le_refl _) _, hp.alloc (Nat.le_refl _) _, Nat.le_refl _⟩
theorem CB.cyl (h : CB W B g c fa fc pa pc) : CylV W W.heap.size (.agg #[.int .i64 c.turns, .int .i64 c.long, .int .i64 c.plays, .slice fa c.frag.length fc, .slice pa c.pas.length pc]) c :=
  ⟨_, _, rfl, h.fr.more (by have := h.le; have := h.blk.lt; omega), h.ps.more (by have := h.le; have := h.blk.lt; omega)⟩
theorem CB.call (h : CB W B g c fa fc pa pc) (hb : Below W.heap.size W W') : CB W' B g c fa fc pa pc := by
  have h1 := h.le
  have h2 := h.blk.lt
  exact ⟨h.blk.call hb, h.fr.below (hb.mono (by omega)), h.ps.below (hb.mono (by omega)), h1⟩
theorem CB.belowB {B0 : Nat} (h : CB W B g c fa fc pa pc) (hb : Below B0 W W') (hg : g < B0) : CB W' B g c fa fc pa pc := by
  have h1 := h.le
  exact ⟨h.blk.below hb hg, h.fr.below (hb.mono (by omega)), h.ps.below (hb.mono (by omega)), h1⟩
theorem CB.alloc (h : CB W B g c fa fc pa pc) (o : Obj) : CB (W.alloc o) B g c fa fc pa pc := h.call ((Below.refl _ _).alloc (Nat.le_refl _) _)
theorem CB.drew (h : CB W B g c fa fc pa pc) : CB W.drew B g c fa fc pa pc := ⟨h.blk, h.fr, h.ps, h.le⟩
theorem CB.drewN (h : CB W B g c fa fc pa pc) (n : Nat) : CB (W.drewN n) B g c fa fc pa pc := ⟨h.blk, h.fr, h.ps, h.le⟩
theorem CB.c5 (h : CB W B g c fa fc pa pc) :
    W.cell? ⟨g, 0, none⟩ = some (.int .i64 c.turns) ∧ W.cell? ⟨g, 1, none⟩ = some (.int .i64 c.long) ∧ W.cell? ⟨g, 2, none⟩ = some (.int .i64 c.plays) ∧ W.cell? ⟨g, 3, none⟩ = some (.slice fa c.frag.length fc) ∧ W.cell? ⟨g, 4, none⟩ = some (.slice pa c.pas.length pc) :=
  h.blk.c5
end

/-- an element of a list that a slice reads: its place, and its cells -/
theorem Arr.at_ {α : Type} {w : World} {B size n c : Nat} {A : Option Addr} {l : List α} {cell : α → Nat → Value} (h : Arr w B size (.slice A n c) l cell) {k : Nat} (hk : k < l.length) :
    ∃ b off x, A = some ⟨b, off, none⟩ ∧ b < B ∧ l[k]? = some x ∧ ∀ j, j < size → w.cell? ⟨b, off + k * size + j, none⟩ = some (cell x j) := by
  obtain ⟨A', c', hv, h1, h2, h3⟩ := h
  injection hv with hA _ _
  subst hA
  obtain ⟨b, off, ha, hb, hc⟩ := h3 (by omega)
  exact ⟨b, off, l[k], ha, hb, List.getElem?_eq_getElem hk, hc k _ (List.getElem?_eq_getElem hk)⟩
theorem Arr.len_ {α : Type} {w : World} {B size n c : Nat} {A : Option Addr} {l : List α} {cell : α → Nat → Value} (h : Arr w B size (.slice A n c) l cell) : n = l.length ∧ l.length ≤ c ∧ c ≤ 9223372036854775807 := by
  obtain ⟨A', c', hv, h1, h2, h3⟩ := h
  injection hv with _ hn hc
  subst hn hc
  exact ⟨rfl, h1, h2⟩

theorem cyl_valid {c : Cyl} (h : checkCyl c = 0) : argOk c = true ∧ fragOk c.turns (-1) c.frag = true ∧ c.pas.length ≤ 12 ∧ c.pas.all (pasOk c.turns) = true := by
  unfold checkCyl at h
  split at h
  · omega
  · split at h
    · omega
    · split at h
      · omega
      · split at h
        · omega
        · rename_i h1 h2 h3 h4
          exact ⟨by simpa using h1, by simpa using h2, by omega, by simpa using h4⟩
theorem cyl_bounds {c : Cyl} (h : checkCyl c = 0) : 1 ≤ c.turns ∧ c.turns ≤ 30 ∧ 1 ≤ c.long ∧ c.long ≤ c.turns ∧ 0 ≤ c.plays ∧ c.plays ≤ 6 := by
  have := (cyl_valid h).1
  simp only [argOk, Bool.and_eq_true, decide_eq_true_eq] at this
  omega
end Go.Proofs.Ythplabmbbfefeaa
