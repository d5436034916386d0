/- Contract of the laws' Cylinder. -/
import Derived.Test.YthplabmbbfefeaaLawA
namespace Go.Proofs.Ythplabmbbfefeaa
open Go.RowKit Go.Shelf
set_option linter.unusedVariables false

theorem Arr.lit {w : World} {B g n cap size : Nat} {t : TypeId} {cs : Array Value} {α : Type} {l : List α} {cell : α → Nat → Value} (h : Blk w g t cs) (hB : g < B) (hn : n = l.length) (h1 : l.length ≤ cap) (h2 : cap ≤ 9223372036854775807)
    (hc : cs.toList = l.flatMap (cellsOf size cell)) : Arr w B size (.slice (some ⟨g, 0, none⟩) n cap) l cell := by
  refine Arr.of_row (t := t) ?_ hn h1 h2 hB
  rw [← hc]
  simpa using h

set_option maxRecDepth 100000 in
set_option maxHeartbeats 1600000 in
theorem cylinder_ok (w : World) :
    Calls Try.prog 38 #[] w fun r w' => ∃ fa fc pa pc, r = .returned (.agg #[.int .i64 10, .int .i64 4, .int .i64 2, .slice fa 1 fc, .slice pa 5 pc]) ∧ CylV w' w'.heap.size (.agg #[.int .i64 10, .int .i64 4, .int .i64 2, .slice fa 1 fc, .slice pa 5 pc]) exC ∧ Below w.heap.size w w' := by
  go_enter Try.func38, Try.ntmps38
  go_upto_region 1 with (fail)
  have hx := Blk.new w 25 #[.int .i64 0, .int .i64 0, .int .i64 0, .slice none 0 0, .slice none 0 0]
  have hB := (Below.refl w.heap.size w).alloc (Nat.le_refl _) (.cells #[.int .i64 0, .int .i64 0, .int .i64 0, .slice none 0 0, .slice none 0 0] 25)
  generalize w.alloc (.cells #[.int .i64 0, .int .i64 0, .int .i64 0, .slice none 0 0, .slice none 0 0] 25) = W at *
  have hsW := hx.lt
  go_wp2_with fail
  refine (passage_ok 0 1 3 _).mono ?_
  rintro e w1 ⟨rfl, hb1⟩
  have hf := (Blk.new W 3 #[.int .i64 5]).call hb1
  have hbf := (Below.refl W.heap.size W).alloc (Nat.le_refl _) (.cells #[.int .i64 5] 3)
  have hbx := hbf.trans (hb1.mono hbf.size)
  have hx1 := hx.call hbx
  have hB1 := hB.trans (hbx.mono hB.size)
  clear hb1 hbf hbx hx hB
  go_wp2_with fail
  refine (passage_ok 1 3 5 _).mono ?_
  rintro e w2 ⟨rfl, hb2⟩
  go_wp2_with fail
  refine (passage_ok 3 4 4 _).mono ?_
  rintro e w3 ⟨rfl, hb3⟩
  go_wp2_with fail
  refine (passage_ok 6 9 6 _).mono ?_
  rintro e w4 ⟨rfl, hb4⟩
  go_wp2_with fail
  refine (passage_ok 4 6 9 _).mono ?_
  rintro e w5 ⟨rfl, hb5⟩
  have hb15 := bthen (bthen (bthen hb2 hb3) hb4) hb5
  have hf5 := hf.call hb15
  have hx5 := hx1.call hb15
  have hB5 := hB1.trans (hb15.mono hB1.size)
  clear hb2 hb3 hb4 hb5 hb15 hf hx1 hB1
  have z0 := hx5.cell 0
  have z1 := hx5.cell 1
  have z2 := hx5.cell 2
  have z3 := hx5.cell 3
  have z4 := hx5.cell 4
  simp at z0 z1 z2 z3 z4
  have y0 := hx5.frozen 0
  have y1 := hx5.frozen 1
  have y2 := hx5.frozen 2
  have y3 := hx5.frozen 3
  have y4 := hx5.frozen 4
  have hl5 := hx5.lt
  go_wp2
  have hf6 := (((((hf5).far (p := ⟨w.heap.size, 0, none⟩) (by simp; omega) (.int .i64 10)).far (p := ⟨w.heap.size, 1, none⟩) (by simp; omega) (.int .i64 4)).far (p := ⟨w.heap.size, 2, none⟩) (by simp; omega) (.int .i64 2)).far (p := ⟨w.heap.size, 3, none⟩) (by simp; omega) (.slice (some ⟨W.heap.size, 0, none⟩) 1 1)).far (p := ⟨w.heap.size, 4, none⟩) (by simp; omega) (.slice (some ⟨w5.heap.size, 0, none⟩) 5 5)
  have hx6 := (((((hx5).set_ 0 (.int .i64 10)).set_ 1 (.int .i64 4)).set_ 2 (.int .i64 2)).set_ 3 (.slice (some ⟨W.heap.size, 0, none⟩) 1 1)).set_ 4 (.slice (some ⟨w5.heap.size, 0, none⟩) 5 5)
  have hB6 := (((((hB5).setCell (p := ⟨w.heap.size, 0, none⟩) (Nat.le_refl _) (.int .i64 10)).setCell (p := ⟨w.heap.size, 1, none⟩) (Nat.le_refl _) (.int .i64 4)).setCell (p := ⟨w.heap.size, 2, none⟩) (Nat.le_refl _) (.int .i64 2)).setCell (p := ⟨w.heap.size, 3, none⟩) (Nat.le_refl _) (.slice (some ⟨W.heap.size, 0, none⟩) 1 1)).setCell (p := ⟨w.heap.size, 4, none⟩) (Nat.le_refl _) (.slice (some ⟨w5.heap.size, 0, none⟩) 5 5)
  have hs6 : ((((((w5).setCell ⟨w.heap.size, 0, none⟩ (.int .i64 10)).setCell ⟨w.heap.size, 1, none⟩ (.int .i64 4)).setCell ⟨w.heap.size, 2, none⟩ (.int .i64 2)).setCell ⟨w.heap.size, 3, none⟩ (.slice (some ⟨W.heap.size, 0, none⟩) 1 1)).setCell ⟨w.heap.size, 4, none⟩ (.slice (some ⟨w5.heap.size, 0, none⟩) 5 5)).heap.size = w5.heap.size := by simp [World.setCell]
  generalize (((((w5).setCell ⟨w.heap.size, 0, none⟩ (.int .i64 10)).setCell ⟨w.heap.size, 1, none⟩ (.int .i64 4)).setCell ⟨w.heap.size, 2, none⟩ (.int .i64 2)).setCell ⟨w.heap.size, 3, none⟩ (.slice (some ⟨W.heap.size, 0, none⟩) 1 1)).setCell ⟨w.heap.size, 4, none⟩ (.slice (some ⟨w5.heap.size, 0, none⟩) 5 5) = V5 at *
  have hbp := (Below.refl V5.heap.size V5).alloc (Nat.le_refl _) (.cells #[.int .i64 0, .int .i64 1, .int .i64 3, .int .i64 1, .int .i64 3, .int .i64 5, .int .i64 3, .int .i64 4, .int .i64 4, .int .i64 6, .int .i64 9, .int .i64 6, .int .i64 4, .int .i64 6, .int .i64 9] 49)
  have hp := Blk.new V5 49 #[.int .i64 0, .int .i64 1, .int .i64 3, .int .i64 1, .int .i64 3, .int .i64 5, .int .i64 3, .int .i64 4, .int .i64 4, .int .i64 6, .int .i64 9, .int .i64 6, .int .i64 4, .int .i64 6, .int .i64 9]
  have hf7 := hf6.call hbp
  have hx7 := hx6.call hbp
  have hB7 := hB6.trans (hbp.mono hB6.size)
  rw [hs6] at hp
  clear hf5 hx5 z0 z1 z2 z3 z4 y0 y1 y2 y3 y4 hf6 hx6 hbp hB6
  generalize V5.alloc (.cells #[.int .i64 0, .int .i64 1, .int .i64 3, .int .i64 1, .int .i64 3, .int .i64 5, .int .i64 3, .int .i64 4, .int .i64 4, .int .i64 6, .int .i64 9, .int .i64 6, .int .i64 4, .int .i64 6, .int .i64 9] 49) = W6 at *
  have t0 := hx7.cell 0
  have t1 := hx7.cell 1
  have t2 := hx7.cell 2
  have t3 := hx7.cell 3
  have t4 := hx7.cell 4
  simp at t0 t1 t2 t3 t4
  refine bodyPost_ret (v := .agg #[.int .i64 10, .int .i64 4, .int .i64 2, .slice (some ⟨W.heap.size, 0, none⟩) 1 1, .slice (some ⟨w5.heap.size, 0, none⟩) 5 5]) (by simp [results, Try.results38, go_sem, t0, t1, t2, t3, t4]) rfl ⟨_, _, _, _, rfl, ?_, hB7⟩
  exact ⟨_, _, rfl, Arr.lit hf7 hf7.lt rfl (by decide) (by decide) rfl, Arr.lit hp hp.lt rfl (by decide) (by decide) rfl⟩
end Go.Proofs.Ythplabmbbfefeaa
