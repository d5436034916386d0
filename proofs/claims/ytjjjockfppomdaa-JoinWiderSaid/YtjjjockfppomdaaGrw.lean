/- A second cylinder of the call's own, whose pieces grow. -/
import Derived.Test.YtjjjockfppomdaaJsp
import Derived.Test.YtjjjockfppomdaaSml
import Derived.Test.YtjjjockfppomdaaWrk
namespace Go.Proofs.Ytjjjockfppomdaa
open Go.RowKit Go.Shelf
set_option linter.unusedVariables false

theorem slT_pc : SlT 22 62 7 56 (.agg #[.int .i64 0, .int .i64 0, .int .i64 0, .int .i64 0, .int .i64 0, .int .i64 0, .bool false]) := ⟨Try.underlying22, by kernel_rfl, rfl, by omega⟩
theorem one_pc {a b d e f g : Int} {t : Bool} : ∀ u ∈ (#[Value.int .i64 a, .int .i64 b, .int .i64 d, .int .i64 e, .int .i64 f, .int .i64 g, .bool t] : Array Value).toList, u.oneCell' = true := by simp [Value.oneCell']
/-- the cylinder's own box lies at g0, a second one at g1 > g0; its pieces are a row of the call's own -/
structure WI (wc : World) (g0 g1 : Nat) (c : Cyl) (pa : Option Addr) (pc : Nat) (off slo shi : Int) (L : List Pc) (A : Option Addr) (cap : Nat) (wr : World) : Prop where
  cb : CB wr g0 g0 c pa pc
  x : Blk wr g1 26 #[.slice A L.length cap, .int .i64 off, .int .i64 slo, .int .i64 shi]
  own : wr.ownsRow wc.heap.size 62 7 (.slice A L.length cap) L.length (L.flatMap (cellsOf 7 pccell))
  gr : wc.grownBy wr (some g1)
  lo : g0 < g1
  hi : g1 < wc.heap.size
section
variable {wc wr : World} {g0 g1 : Nat} {c : Cyl} {pa : Option Addr} {pc : Nat} {off slo shi : Int} {L : List Pc} {A : Option Addr} {cap : Nat}
theorem WI.call (h : WI wc g0 g1 c pa pc off slo shi L A cap wr) {w' : World} (hb : Below wr.heap.size wr w') : WI wc g0 g1 c pa pc off slo shi L A cap w' := by
  have h1 := h.gr.size
  exact ⟨h.cb.call hb, h.x.call hb, own_call h.own hb, ⟨hb.os.trans h.gr.os, hb.tape.trans h.gr.tape, hb.output.trans h.gr.output, Nat.le_trans h1 hb.size, fun k hk hr => (hb.block k (by omega)).trans (h.gr.block k hk hr)⟩, h.lo, h.hi⟩
theorem WI.fx (h : WI wc g0 g1 c pa pc off slo shi L A cap wr) : wr.cell? ⟨g1, 0, none⟩ = some (.slice A L.length cap) := by
  have := h.x.cell 0
  simpa using this
theorem WI.app (h : WI wc g0 g1 c pa pc off slo shi L A cap wr) {w4 : World} {v' : Value} {y : Pc} (hb4 : Below wc.heap.size wr w4)
    (hown : w4.ownsRow wc.heap.size 62 7 v' (L.length + 1) (L.flatMap (cellsOf 7 pccell) ++ (#[.int .i64 y.a.lo, .int .i64 y.a.hi, .int .i64 y.a.pl, .int .i64 y.b.lo, .int .i64 y.b.hi, .int .i64 y.b.pl, .bool y.loose] : Array Value).toList)) :
    ∃ A' cap', v' = .slice A' (L.length + 1) cap' ∧ w4.cell? ⟨g1, 0, none⟩ = some (.slice A L.length cap) ∧ (∀ i, w4.frozen? ⟨g1, i, none⟩ = false) ∧
      WI wc g0 g1 c pa pc off slo shi (L ++ [y]) A' cap' (w4.setCell ⟨g1, 0, none⟩ (.slice A' (L.length + 1) cap')) := by
  have hLL : (L ++ [y]).length = L.length + 1 := by simp
  have hown5 := own_snoc (cell := pccell) (x := y) rfl (by simp [cellsOf, List.range_succ, pccell]) hown
  obtain ⟨A', cap', rfl⟩ := own_form hown5
  have hx4 : Blk w4 g1 _ _ := h.x.below hb4 h.hi
  have hs := hx4.set_ 0 (.slice A' (L ++ [y]).length cap')
  have hgr4 : wc.grownBy w4 (some g1) := ⟨hb4.os.trans h.gr.os, hb4.tape.trans h.gr.tape, hb4.output.trans h.gr.output, Nat.le_trans h.gr.size hb4.size, fun k hk hr => (hb4.block k hk).trans (h.gr.block k hk hr)⟩
  have hC4 := h.cb.belowB hb4 (Nat.lt_trans h.lo h.hi)
  rw [← hLL]
  refine ⟨A', cap', rfl, by have := hx4.cell 0; simpa using this, fun i => hx4.frozen i, ?_, by simpa using hs, hown5.kept (grown_setCell _) (.inr fun e => own_blk_ne hown5 hx4 (by decide) e.symm), grown_trans' hgr4 (grown_setCell _), h.lo, h.hi⟩
  exact hC4.belowB ((Below.refl (g0 + 1) w4).setCell (p := ⟨g1, 0, none⟩) h.lo _) (Nat.lt_succ_self _)
end
/-- a cylinder in a box -/
structure WB (W : World) (g : Nat) (pv : Value) (d : Cyl) : Prop where
  blk : Blk W g 26 #[pv, .int .i64 d.off, .int .i64 d.slo, .int .i64 d.shi]
  cv : CylV W W.heap.size (.agg #[pv, .int .i64 d.off, .int .i64 d.slo, .int .i64 d.shi]) d
theorem WB.call {W W' : World} {g : Nat} {pv : Value} {d : Cyl} (h : WB W g pv d) (hb : Below W.heap.size W W') : WB W' g pv d := ⟨h.blk.call hb, (h.cv.below hb).more hb.size⟩
theorem WB.c4 {W : World} {g : Nat} {pv : Value} {d : Cyl} (h : WB W g pv d) : W.cell? ⟨g, 0, none⟩ = some pv ∧ W.cell? ⟨g, 1, none⟩ = some (.int .i64 d.off) ∧ W.cell? ⟨g, 2, none⟩ = some (.int .i64 d.slo) ∧ W.cell? ⟨g, 3, none⟩ = some (.int .i64 d.shi) := by
  simp [h.blk.cell]
theorem WI.wb {wc wr : World} {g0 g1 : Nat} {c : Cyl} {pa : Option Addr} {pc : Nat} {off slo shi : Int} {L : List Pc} {A : Option Addr} {cap : Nat} (h : WI wc g0 g1 c pa pc off slo shi L A cap wr) : WB wr g1 (.slice A L.length cap) ⟨L, off, slo, shi⟩ :=
  ⟨h.x, _, rfl, Arr.of_own h.own⟩
end Go.Proofs.Ytjjjockfppomdaa
