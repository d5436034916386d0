/- A cylinder as a value, and in a box of the call's own. -/
import Derived.Test.YtjjjockfppomdaaSlc
namespace Go.Proofs.Ytjjjockfppomdaa
open Go.RowKit Go.Shelf
set_option linter.unusedVariables false

def pccell (p : Pc) : Nat → Value
  | 0 => .int .i64 p.a.lo
  | 1 => .int .i64 p.a.hi
  | 2 => .int .i64 p.a.pl
  | 3 => .int .i64 p.b.lo
  | 4 => .int .i64 p.b.hi
  | 5 => .int .i64 p.b.pl
  | _ => .bool p.loose
def CylV (w : World) (B : Nat) (v : Value) (c : Cyl) : Prop :=
  ∃ pv, v = .agg #[pv, .int .i64 c.off, .int .i64 c.slo, .int .i64 c.shi] ∧ Arr w B 7 pv c.pcs pccell
theorem CylV.open_ {w : World} {B : Nat} {v : Value} {c : Cyl} (h : CylV w B v c) :
    ∃ pa pc, v = .agg #[.slice pa c.pcs.length pc, .int .i64 c.off, .int .i64 c.slo, .int .i64 c.shi] ∧ Arr w B 7 (.slice pa c.pcs.length pc) c.pcs pccell := by
  obtain ⟨pv, rfl, hp⟩ := h
  obtain ⟨pa, pc, rfl, -⟩ := id hp
  exact ⟨pa, pc, rfl, hp⟩
theorem CylV.below {w w' : World} {B : Nat} {v : Value} {c : Cyl} (h : CylV w B v c) (hb : Below B w w') : CylV w' B v c := by
  obtain ⟨pv, h1, h2⟩ := h
  exact ⟨pv, h1, h2.below hb⟩
theorem CylV.more {w : World} {B B' : Nat} {v : Value} {c : Cyl} (h : CylV w B v c) (hB : B ≤ B') : CylV w B' v c := by
  obtain ⟨pv, h1, h2⟩ := h
  exact ⟨pv, h1, h2.more hB⟩
structure CB (W : World) (B g : Nat) (c : Cyl) (pa : Option Addr) (pc : Nat) : Prop where
  blk : Blk W g 26 #[.slice pa c.pcs.length pc, .int .i64 c.off, .int .i64 c.slo, .int .i64 c.shi]
  ps : Arr W B 7 (.slice pa c.pcs.length pc) c.pcs pccell
  le : B ≤ g
section
variable {w W W' : World} {B g : Nat} {c : Cyl} {pa : Option Addr} {pc : Nat}
theorem CB.new (hp : Arr w w.heap.size 7 (.slice pa c.pcs.length pc) c.pcs pccell) :
    CB (w.alloc (.cells #[.slice pa c.pcs.length pc, .int .i64 c.off, .int .i64 c.slo, .int .i64 c.shi] 26)) w.heap.size w.heap.size c pa pc :=
  ⟨Blk.new _ _ _, hp.alloc (Nat.le_refl _) _, Nat.le_refl _⟩
theorem CB.cyl (h : CB W B g c pa pc) : CylV W W.heap.size (.agg #[.slice pa c.pcs.length pc, .int .i64 c.off, .int .i64 c.slo, .int .i64 c.shi]) c :=
  ⟨_, rfl, h.ps.more (by have := h.le; have := h.blk.lt; omega)⟩
theorem CB.call (h : CB W B g c pa pc) (hb : Below W.heap.size W W') : CB W' B g c pa pc := by
  have h1 := h.le
  have h2 := h.blk.lt
  exact ⟨h.blk.call hb, h.ps.below (hb.mono (by omega)), h1⟩
theorem CB.belowB {B0 : Nat} (h : CB W B g c pa pc) (hb : Below B0 W W') (hg : g < B0) : CB W' B g c pa pc := by
  have h1 := h.le
  exact ⟨h.blk.below hb hg, h.ps.below (hb.mono (by omega)), h1⟩
theorem CB.alloc (h : CB W B g c pa pc) (o : Obj) : CB (W.alloc o) B g c pa pc := h.call ((Below.refl _ _).alloc (Nat.le_refl _) _)
theorem CB.drew (h : CB W B g c pa pc) : CB W.drew B g c pa pc := ⟨h.blk, h.ps, h.le⟩
theorem CB.c4 (h : CB W B g c pa pc) :
    W.cell? ⟨g, 0, none⟩ = some (.slice pa c.pcs.length pc) ∧ W.cell? ⟨g, 1, none⟩ = some (.int .i64 c.off) ∧ W.cell? ⟨g, 2, none⟩ = some (.int .i64 c.slo) ∧ W.cell? ⟨g, 3, none⟩ = some (.int .i64 c.shi) := by
  simp [h.blk.cell]
end
/-- the cells of a piece -/
theorem piece_at {w : World} {B n pc : Nat} {pa : Option Addr} {l : List Pc} (h : Arr w B 7 (.slice pa n pc) l pccell) {k : Nat} (hk : k < l.length) :
    ∃ b off p, pa = some ⟨b, off, none⟩ ∧ b < B ∧ l[k]? = some p ∧
      w.cell? ⟨b, off + k * 7, none⟩ = some (.int .i64 p.a.lo) ∧ w.cell? ⟨b, off + k * 7 + 1, none⟩ = some (.int .i64 p.a.hi) ∧ w.cell? ⟨b, off + k * 7 + 2, none⟩ = some (.int .i64 p.a.pl) ∧
      w.cell? ⟨b, off + k * 7 + 3, none⟩ = some (.int .i64 p.b.lo) ∧ w.cell? ⟨b, off + k * 7 + 4, none⟩ = some (.int .i64 p.b.hi) ∧ w.cell? ⟨b, off + k * 7 + 5, none⟩ = some (.int .i64 p.b.pl) ∧
      w.cell? ⟨b, off + k * 7 + 6, none⟩ = some (.bool p.loose) := by
  obtain ⟨b, off, x, h1, h2, h3, h4⟩ := h.at_ hk
  exact ⟨b, off, x, h1, h2, h3, h4 0 (by omega), h4 1 (by omega), h4 2 (by omega), h4 3 (by omega), h4 4 (by omega), h4 5 (by omega), h4 6 (by omega)⟩
/-- what the checks look at, end by end -/
def okE (e : En) : Bool := (okR 0 1000 e.lo e.hi && decide (0 ≤ e.pl)) && decide (e.pl ≤ 100000)
theorem okP_eq (p : Pc) : okP p = (okE p.a && okE p.b) := by
  unfold okP okE okR
  rw [Bool.eq_iff_iff]
  simp only [Bool.and_eq_true, decide_eq_true_eq]
  omega
end Go.Proofs.Ytjjjockfppomdaa
