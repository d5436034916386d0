/- The example cylinders: Piece, Cracked, whole. -/
import Derived.Test.YtjjjockfppomdaaLaw
namespace Go.Proofs.Ytjjjockfppomdaa
open Go.RowKit Go.Shelf
set_option linter.unusedVariables false

def exP (a b : Int) (l : Bool) : Pc := ⟨⟨a, a, 0⟩, ⟨b, b, 0⟩, l⟩
def exC : Cyl := ⟨[exP 1 2 false, exP 2 2 false, exP 2 3 false, exP 2 2 true], 0, 0, 0⟩
def exD : Cyl := ⟨[exP 1 2 false, exP 2 2 false, exP 2 3 false], 0, 0, 0⟩
abbrev pcV (p : Pc) : Value := .agg #[.int .i64 p.a.lo, .int .i64 p.a.hi, .int .i64 p.a.pl, .int .i64 p.b.lo, .int .i64 p.b.hi, .int .i64 p.b.pl, .bool p.loose]

set_option maxRecDepth 100000 in
set_option maxHeartbeats 1600000 in
theorem piece_ok (a b : Int) (l : Bool) (w : World) : Calls Try.prog 60 #[.int .i64 a, .int .i64 b, .bool l] w fun r w' => r = .returned (.agg #[.int .i64 a, .int .i64 a, .int .i64 0, .int .i64 b, .int .i64 b, .int .i64 0, .bool l]) ∧ Below w.heap.size w w' := by
  go_enter Try.func60, Try.ntmps60
  go_upto_region 1 with (fail)
  have hR := Blk.new w 62 #[.int .i64 0, .int .i64 0, .int .i64 0, .int .i64 0, .int .i64 0, .int .i64 0, .bool false]
  have hb := (Below.refl w.heap.size w).alloc (Nat.le_refl _) (.cells #[.int .i64 0, .int .i64 0, .int .i64 0, .int .i64 0, .int .i64 0, .int .i64 0, .bool false] 62)
  generalize w.alloc (.cells #[.int .i64 0, .int .i64 0, .int .i64 0, .int .i64 0, .int .i64 0, .int .i64 0, .bool false] 62) = W at *
  have r0 := hR.cell 0
  have r1 := hR.cell 1
  have r2 := hR.cell 2
  have r3 := hR.cell 3
  have r4 := hR.cell 4
  have r5 := hR.cell 5
  have r6 := hR.cell 6
  simp at r0 r1 r2 r3 r4 r5 r6
  have rz := fun i => hR.frozen i
  go_wp2
  have hR2 := ((((((hR.set_ 0 (.int .i64 a)).set_ 1 (.int .i64 a)).set_ 2 (.int .i64 0)).set_ 3 (.int .i64 b)).set_ 4 (.int .i64 b)).set_ 5 (.int .i64 0)).set_ 6 (.bool l)
  have hg := grown_trans' (grown_trans' (grown_trans' (grown_trans' (grown_trans' (grown_trans' (grown_setCell (w := W) (g := w.heap.size) (o := 0) (.int .i64 a)) (grown_setCell (o := 1) (.int .i64 a))) (grown_setCell (o := 2) (.int .i64 0))) (grown_setCell (o := 3) (.int .i64 b))) (grown_setCell (o := 4) (.int .i64 b))) (grown_setCell (o := 5) (.int .i64 0))) (grown_setCell (o := 6) (.bool l))
  simp only [List.setIfInBounds_toArray, List.set_cons_zero, List.set_cons_succ] at hR2
  clear r0 r1 r2 r3 r4 r5 r6 rz hR
  generalize ((((((W.setCell ⟨w.heap.size, 0, none⟩ (.int .i64 a)).setCell ⟨w.heap.size, 1, none⟩ (.int .i64 a)).setCell ⟨w.heap.size, 2, none⟩ (.int .i64 0)).setCell ⟨w.heap.size, 3, none⟩ (.int .i64 b)).setCell ⟨w.heap.size, 4, none⟩ (.int .i64 b)).setCell ⟨w.heap.size, 5, none⟩ (.int .i64 0)).setCell ⟨w.heap.size, 6, none⟩ (.bool l) = V at *
  have hb2 := hb.grown hg hb.size (fun ρ e => by injection e; omega)
  have r0 := hR2.cell 0
  have r1 := hR2.cell 1
  have r2 := hR2.cell 2
  have r3 := hR2.cell 3
  have r4 := hR2.cell 4
  have r5 := hR2.cell 5
  have r6 := hR2.cell 6
  simp at r0 r1 r2 r3 r4 r5 r6
  exact bodyPost_ret (v := .agg #[.int .i64 a, .int .i64 a, .int .i64 0, .int .i64 b, .int .i64 b, .int .i64 0, .bool l]) (by simp [results, Try.results60, go_sem, r0, r1, r2, r3, r4, r5, r6]) rfl ⟨rfl, hb2⟩

set_option maxRecDepth 100000 in
set_option maxHeartbeats 1600000 in
theorem cracked_ok (w : World) : Calls Try.prog 39 #[] w fun r w' => ∃ g, r = .returned (.agg #[.slice (some ⟨g, 0, none⟩) 4 4, .int .i64 0, .int .i64 0, .int .i64 0]) ∧ Arr w' w'.heap.size 7 (.slice (some ⟨g, 0, none⟩) 4 4) exC.pcs pccell ∧ Below w.heap.size w w' ∧ w.heap.size ≤ g := by
  go_enter Try.func39, Try.ntmps39
  go_upto_region 1 with (fail)
  have hR := Blk.new w 26 #[.slice none 0 0, .int .i64 0, .int .i64 0, .int .i64 0]
  have hb := (Below.refl w.heap.size w).alloc (Nat.le_refl _) (.cells #[.slice none 0 0, .int .i64 0, .int .i64 0, .int .i64 0] 26)
  generalize w.alloc (.cells #[.slice none 0 0, .int .i64 0, .int .i64 0, .int .i64 0] 26) = W at *
  go_wp2_with fail
  refine (piece_ok 1 2 false W).mono ?_
  rintro e w1 ⟨rfl, hb1⟩
  replace hR := hR.call hb1
  replace hb := hb.trans (hb1.mono hb.size)
  go_wp2_with fail
  refine (piece_ok 2 2 false w1).mono ?_
  rintro e w2 ⟨rfl, hb2⟩
  replace hR := hR.call hb2
  replace hb := hb.trans (hb2.mono hb.size)
  go_wp2_with fail
  refine (piece_ok 2 3 false w2).mono ?_
  rintro e w3 ⟨rfl, hb3⟩
  replace hR := hR.call hb3
  replace hb := hb.trans (hb3.mono hb.size)
  go_wp2_with fail
  refine (piece_ok 2 2 true w3).mono ?_
  rintro e w4 ⟨rfl, hb4⟩
  replace hR := hR.call hb4
  replace hb := hb.trans (hb4.mono hb.size)
  clear hb1 hb2 hb3 hb4
  have hwl := hR.lt
  have hge := hb.size
  have r0 := hR.cell 0
  have r1 := hR.cell 1
  have r2 := hR.cell 2
  have r3 := hR.cell 3
  simp at r0 r1 r2 r3
  have rz := fun i => hR.frozen i
  go_wp2
  have hR2 := (((hR.set_ 0 (.slice (some ⟨w4.heap.size, 0, none⟩) 4 4)).set_ 1 (.int .i64 0)).set_ 2 (.int .i64 0)).set_ 3 (.int .i64 0)
  have hg := grown_trans' (grown_trans' (grown_trans' (grown_setCell (w := w4) (g := w.heap.size) (o := 0) (.slice (some ⟨w4.heap.size, 0, none⟩) 4 4)) (grown_setCell (o := 1) (.int .i64 0))) (grown_setCell (o := 2) (.int .i64 0))) (grown_setCell (o := 3) (.int .i64 0))
  simp only [List.setIfInBounds_toArray, List.set_cons_zero, List.set_cons_succ] at hR2
  have hsz : ((((w4.setCell ⟨w.heap.size, 0, none⟩ (.slice (some ⟨w4.heap.size, 0, none⟩) 4 4)).setCell ⟨w.heap.size, 1, none⟩ (.int .i64 0)).setCell ⟨w.heap.size, 2, none⟩ (.int .i64 0)).setCell ⟨w.heap.size, 3, none⟩ (.int .i64 0)).heap.size = w4.heap.size := by simp [World.setCell]
  clear r0 r1 r2 r3 rz hR
  generalize (((w4.setCell ⟨w.heap.size, 0, none⟩ (.slice (some ⟨w4.heap.size, 0, none⟩) 4 4)).setCell ⟨w.heap.size, 1, none⟩ (.int .i64 0)).setCell ⟨w.heap.size, 2, none⟩ (.int .i64 0)).setCell ⟨w.heap.size, 3, none⟩ (.int .i64 0) = V at *
  have hbV := hb.grown hg hb.size (fun ρ e => by injection e; omega)
  have hS := Blk.new V 62 #[.int .i64 1, .int .i64 1, .int .i64 0, .int .i64 2, .int .i64 2, .int .i64 0, .bool false, .int .i64 2, .int .i64 2, .int .i64 0, .int .i64 2, .int .i64 2, .int .i64 0, .bool false, .int .i64 2, .int .i64 2, .int .i64 0, .int .i64 3, .int .i64 3, .int .i64 0, .bool false, .int .i64 2, .int .i64 2, .int .i64 0, .int .i64 2, .int .i64 2, .int .i64 0, .bool true]
  have hbA := (Below.refl V.heap.size V).alloc (Nat.le_refl _) (.cells #[.int .i64 1, .int .i64 1, .int .i64 0, .int .i64 2, .int .i64 2, .int .i64 0, .bool false, .int .i64 2, .int .i64 2, .int .i64 0, .int .i64 2, .int .i64 2, .int .i64 0, .bool false, .int .i64 2, .int .i64 2, .int .i64 0, .int .i64 3, .int .i64 3, .int .i64 0, .bool false, .int .i64 2, .int .i64 2, .int .i64 0, .int .i64 2, .int .i64 2, .int .i64 0, .bool true] 62)
  have hR5 := hR2.call hbA
  have hb5 := hbV.trans (hbA.mono hbV.size)
  generalize V.alloc (.cells #[.int .i64 1, .int .i64 1, .int .i64 0, .int .i64 2, .int .i64 2, .int .i64 0, .bool false, .int .i64 2, .int .i64 2, .int .i64 0, .int .i64 2, .int .i64 2, .int .i64 0, .bool false, .int .i64 2, .int .i64 2, .int .i64 0, .int .i64 3, .int .i64 3, .int .i64 0, .bool false, .int .i64 2, .int .i64 2, .int .i64 0, .int .i64 2, .int .i64 2, .int .i64 0, .bool true] 62) = W5 at *
  rw [hsz] at hS
  have hlt5 := hS.lt
  have r0 := hR5.cell 0
  have r1 := hR5.cell 1
  have r2 := hR5.cell 2
  have r3 := hR5.cell 3
  simp at r0 r1 r2 r3
  refine bodyPost_ret (v := .agg #[.slice (some ⟨w4.heap.size, 0, none⟩) 4 4, .int .i64 0, .int .i64 0, .int .i64 0]) (by simp [results, Try.results39, go_sem, r0, r1, r2, r3]) rfl ⟨w4.heap.size, rfl, ?_, hb5, hge⟩
  exact Arr.lit hS hlt5 rfl (by simp [exC]) (by omega) (by simp [exC, exP, cellsOf, List.range_succ, pccell])

set_option maxRecDepth 100000 in
set_option maxHeartbeats 1600000 in
theorem whole_ok (w : World) : Calls Try.prog 40 #[] w fun r w' => ∃ v, r = .returned v ∧ CylV w' w'.heap.size v exD ∧ Below w.heap.size w w' := by
  go_enter Try.func40, Try.ntmps40
  go_upto_region 1 with (fail)
  have hR := Blk.new w 26 #[.slice none 0 0, .int .i64 0, .int .i64 0, .int .i64 0]
  have hb := (Below.refl w.heap.size w).alloc (Nat.le_refl _) (.cells #[.slice none 0 0, .int .i64 0, .int .i64 0, .int .i64 0] 26)
  generalize w.alloc (.cells #[.slice none 0 0, .int .i64 0, .int .i64 0, .int .i64 0] 26) = W at *
  have hwW := hR.lt
  go_wp2_with fail
  refine (cracked_ok W).mono ?_
  rintro e w4 ⟨g, rfl, hA, hb4, hg4⟩
  replace hR := hR.call hb4
  replace hb := hb.trans (hb4.mono hb.size)
  have hwl := hR.lt
  have r0 := hR.cell 0
  have r1 := hR.cell 1
  have r2 := hR.cell 2
  have r3 := hR.cell 3
  simp at r0 r1 r2 r3
  have rz := fun i => hR.frozen i
  obtain ⟨gb, go, -, hgb, hgl, -, -⟩ := hA.at_ (k := 0) (by simp [exC])
  injection hgb with hgb
  injection hgb with hgb hgo
  subst hgb hgo
  have hfd : ∀ w', (Instr.field 26 (.agg #[.slice (some ⟨g, 0, none⟩) 4 4, .int .i64 0, .int .i64 0, .int .i64 0]) 0).run Try.prog w' = .ok (.slice (some ⟨g, 0, none⟩) 4 4) w' := fun w' => by kernel_rfl
  go_wp2
  have hR2 := (((hR.set_ 0 (.slice (some ⟨g, 0, none⟩) 3 4)).set_ 1 (.int .i64 0)).set_ 2 (.int .i64 0)).set_ 3 (.int .i64 0)
  have hg := grown_trans' (grown_trans' (grown_trans' (grown_setCell (w := w4) (g := w.heap.size) (o := 0) (.slice (some ⟨g, 0, none⟩) 3 4)) (grown_setCell (o := 1) (.int .i64 0))) (grown_setCell (o := 2) (.int .i64 0))) (grown_setCell (o := 3) (.int .i64 0))
  simp only [List.setIfInBounds_toArray, List.set_cons_zero, List.set_cons_succ] at hR2
  clear r0 r1 r2 r3 rz hR hfd
  generalize (((w4.setCell ⟨w.heap.size, 0, none⟩ (.slice (some ⟨g, 0, none⟩) 3 4)).setCell ⟨w.heap.size, 1, none⟩ (.int .i64 0)).setCell ⟨w.heap.size, 2, none⟩ (.int .i64 0)).setCell ⟨w.heap.size, 3, none⟩ (.int .i64 0) = V at *
  have hbV := hb.grown hg hb.size (fun ρ e => by injection e; omega)
  have hgV := hg.block g hgl (fun e => by injection e; omega)
  have hAV : Arr V V.heap.size 7 (.slice (some ⟨g, 0, none⟩) 3 4) exD.pcs pccell := by
    refine ⟨_, 4, rfl, by simp [exD], by omega, fun _ => ⟨g, 0, rfl, Nat.lt_of_lt_of_le hgl hg.size, fun k p hp j hj => ?_⟩⟩
    obtain ⟨b, off, q, h1, -, h3, h4⟩ := hA.at_ (k := k) (by have := (List.getElem?_eq_some_iff.1 hp).1; simp [exD, exC] at this ⊢; omega)
    injection h1 with h1
    injection h1 with h1 h5
    subst h1 h5
    have hq : q = p := by
      have : exC.pcs[k]? = exD.pcs[k]? := by
        have := (List.getElem?_eq_some_iff.1 hp).1
        simp only [exD, List.length_cons, List.length_nil] at this
        rcases k with _ | _ | _ | k
        · rfl
        · rfl
        · rfl
        · omega
      rw [this, hp] at h3
      injection h3 with h3
      exact h3.symm
    subst hq
    exact (World.cell?_of_block (a := ⟨g, 0 + k * 7 + j, none⟩) hgV).trans (h4 j hj)
  have r0 := hR2.cell 0
  have r1 := hR2.cell 1
  have r2 := hR2.cell 2
  have r3 := hR2.cell 3
  simp at r0 r1 r2 r3
  exact bodyPost_ret (v := .agg #[.slice (some ⟨g, 0, none⟩) 3 4, .int .i64 0, .int .i64 0, .int .i64 0]) (by simp [results, Try.results40, go_sem, r0, r1, r2, r3]) rfl ⟨_, rfl, ⟨_, rfl, hAV⟩, hbV⟩
end Go.Proofs.Ytjjjockfppomdaa
