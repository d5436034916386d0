/- The law PlayMore: the walk. -/
import Derived.Test.YthplabmbbfefeaaLawC
import Derived.Test.YthplabmbbfefeaaFewest
import Derived.Test.YthplabmbbfefeaaOut
import Derived.Test.YthplabmbbfefeaaMoreA
import Derived.Test.YthplabmbbfefeaaMoreB
namespace Go.Proofs.Ythplabmbbfefeaa
open Go.RowKit Go.Shelf
set_option linter.unusedVariables false

set_option maxRecDepth 100000 in
set_option maxHeartbeats 3200000 in
theorem lmore_ok (v : Value) (c : Cyl) (turn less : Int) (mp : Pas) (w : World) (hv : CylV w w.heap.size v c) (hx : (Lit.int .u8 turn).wf = true) (hy : (Lit.int .u8 less).wf = true) :
    Calls Try.prog 6 #[v, .int .u8 turn, .int .u8 less, .agg #[.int .i64 mp.a, .int .i64 mp.b, .int .i64 mp.w]] w fun r w' => r = .returned (.bool true) ∧ Below w.heap.size w w' := by
  have hx0 : 0 ≤ turn ∧ turn ≤ 255 := by
    have e1 : IntKind.u8.min = 0 := rfl
    have e2 : IntKind.u8.max = 255 := rfl
    simp only [Lit.wf, e1, e2, Bool.and_eq_true, decide_eq_true_eq] at hx
    exact hx
  have hy0 : 0 ≤ less ∧ less ≤ 255 := by
    have e1 : IntKind.u8.min = 0 := rfl
    have e2 : IntKind.u8.max = 255 := rfl
    simp only [Lit.wf, e1, e2, Bool.and_eq_true, decide_eq_true_eq] at hy
    exact hy
  clear hx hy
  obtain ⟨fa, fc, pa, pc, rfl, hf, hp⟩ := hv.open_
  have hC := CB.new hf hp
  have hB := (Below.refl w.heap.size w).alloc (Nat.le_refl _) (.cells #[.int .i64 c.turns, .int .i64 c.long, .int .i64 c.plays, .slice fa c.frag.length fc, .slice pa c.pas.length pc] 25)
  go_enter Try.func6, Try.ntmps6
  go_upto_region 1 with (fail)
  have hbM := (Below.refl (w.heap.size + 1) (w.alloc (.cells #[.int .i64 c.turns, .int .i64 c.long, .int .i64 c.plays, .slice fa c.frag.length fc, .slice pa c.pas.length pc] 25))).alloc (by simp) (.cells #[.int .i64 mp.a, .int .i64 mp.b, .int .i64 mp.w] 49)
  have hM : Blk ((w.alloc (.cells #[.int .i64 c.turns, .int .i64 c.long, .int .i64 c.plays, .slice fa c.frag.length fc, .slice pa c.pas.length pc] 25)).alloc (.cells #[.int .i64 mp.a, .int .i64 mp.b, .int .i64 mp.w] 49)) (w.heap.size + 1) 49 #[.int .i64 mp.a, .int .i64 mp.b, .int .i64 mp.w] := by
    have := Blk.new (w.alloc (.cells #[.int .i64 c.turns, .int .i64 c.long, .int .i64 c.plays, .slice fa c.frag.length fc, .slice pa c.pas.length pc] 25)) 49 #[.int .i64 mp.a, .int .i64 mp.b, .int .i64 mp.w]
    simpa using this
  replace hC := hC.alloc (.cells #[.int .i64 mp.a, .int .i64 mp.b, .int .i64 mp.w] 49)
  replace hB := hB.trans (hbM.mono (by omega))
  generalize (w.alloc (.cells #[.int .i64 c.turns, .int .i64 c.long, .int .i64 c.plays, .slice fa c.frag.length fc, .slice pa c.pas.length pc] 25)).alloc (.cells #[.int .i64 mp.a, .int .i64 mp.b, .int .i64 mp.w] 49) = W at *
  clear hbM hf hp hv
  obtain ⟨k0, k1, k2, k3, k4⟩ := hC.c5
  go_wp2_with fail
  refine (fine_ok _ c _ hC.cyl).mono ?_
  rintro e w1 ⟨rfl, hb1⟩
  replace hC := hC.call hb1
  replace hB := hB.trans ((hb1).mono hB.size)
  replace hM := hM.call hb1
  clear k0 k1 k2 k3 k4 hb1
  cases hg : fineB c
  · go_wp2_with fail
    refine (works_ok w1).mono ?_
    rintro e wz ⟨rfl, hbz⟩
    go_wp2
    go_ret
    exact ⟨rfl, hB.trans (hbz.mono hB.size)⟩
  · have h0 : checkCyl c = 0 := by
      unfold fineB at hg
      simp at hg
      exact hg.2
    have H0 := Lib.hid h0
    clear h0
    have HK : Hid (c.plays = (tK c : Int)) := (cyl_nat H0.out).2.1
    have HT : Hid (c.turns = (tT c : Int)) := (cyl_nat H0.out).1
    have hK6 : tK c ≤ 6 := (cyl_nat H0.out).2.2.2.2.1
    have hT30 : 1 ≤ c.turns ∧ c.turns ≤ 30 := by have := cyl_nat H0.out; omega
    have hL30 : 1 ≤ c.long ∧ c.long ≤ 30 := by have := cyl_nat H0.out; omega
    obtain ⟨k0, k1, k2, k3, k4⟩ := hC.c5
    go_wp2_with fail
    refine (worths_ok _ c _ hC.cyl).mono ?_
    rintro e w2 ⟨ov, rfl, hO, hb2⟩
    obtain ⟨ob, oo, oc, rfl, hob, ho1, ho2, hcell⟩ := hO.row (by rw [worthsOf_len H0.out]; omega)
    rw [worthsOf_len H0.out] at ho1
    rw [worthsOf_len H0.out, H0.out]
    have hW : Hid (∀ j, j ≤ tK c → w2.cell? ⟨ob, oo + j, none⟩ = some (.int .i64 (mostK c j))) := fun j hj => hcell j _ (worthsOf_get H0.out hj)
    have c0 := hW.out 0 (by omega)
    rw [mostK_zero H0.out, Nat.add_zero] at c0
    clear hcell hO
    replace hC := hC.call hb2
    replace hB := hB.trans ((hb2).mono hB.size)
    replace hM := hM.call hb2
    clear k0 k1 k2 k3 k4 hb2
    obtain ⟨k0, k1, k2, k3, k4⟩ := hC.c5
    rw [HK.out] at k2
    have e1 : IntKind.i64.wrap ((tK c : Int) + 1) = ((tK c + 1 : Nat) : Int) := by rw [IntKind.wrap_i64]; omega
    have q1 := hC.blk.lt
    have q2 := hM.lt
    go_upto_region 6 with (fail)
    go_cut [11, 12, 13] from 243 (fun x y z wx => ∃ g1 g2 g3, x = .pointer (some ⟨g1, 0, none⟩) ∧ y = .pointer (some ⟨g2, 0, none⟩) ∧ z = .pointer (some ⟨g3, 0, none⟩) ∧ w2.heap.size ≤ g1 ∧ w2.heap.size ≤ g2 ∧ w2.heap.size ≤ g3 ∧ g1 ≠ g2 ∧ g1 ≠ g3 ∧ g2 ≠ g3 ∧
      Blk wx g1 25 #[.int .i64 c.turns, .int .i64 c.long, .int .i64 c.plays, .slice fa c.frag.length fc, .slice pa c.pas.length pc] ∧ Blk wx g2 25 #[.int .i64 c.turns, .int .i64 c.long, .int .i64 c.plays, .slice fa c.frag.length fc, .slice pa c.pas.length pc] ∧
      Blk wx g3 25 #[.int .i64 c.turns, .int .i64 c.long, .int .i64 c.plays, .slice fa c.frag.length fc, .slice pa c.pas.length pc] ∧ Below w2.heap.size w2 wx)
    case first =>
      clear k0 k1 k2 k3 k4
      obtain ⟨k0, k1, k2, k3, k4⟩ := hC.c5
      have f0 := Ext.of k0
      have f1 := Ext.of k1
      have f2 := Ext.of k2
      have f3 := Ext.of k3
      have f4 := Ext.of k4
      clear k0 k1 k2 k3 k4 c0
      refine ways_start 9 (fun w' => ∃ x : Ext w2, w' = x.w) (by rfl) (by kernel_rfl) ?_
      have hxd : Below w2.heap.size w2 w2.drew := (Below.refl w2.heap.size w2).drew
      generalize w2.drew = wd at *
      refine ways_q 0 (by rfl) (by rfl) (by kernel_rfl) (by kernel_rfl) (by kernel_rfl) (by rfl) ⟨⟨wd, hxd⟩, rfl⟩ ?_
      intro K hK
      go_big_quiet_op
      go_big_quiet_on
      refine ways_q 1 (by rfl) (by rfl) (by kernel_rfl) (by kernel_rfl) (by kernel_rfl) (by rfl) ⟨⟨wd, hxd⟩, rfl⟩ ?_
      intro K hK
      go_big_quiet_op
      go_big_quiet_on
      refine ways_q 2 (by rfl) (by rfl) (by kernel_rfl) (by kernel_rfl) (by kernel_rfl) (by rfl) ⟨⟨wd, hxd⟩, rfl⟩ ?_
      intro K hK
      go_big_quiet_op
      go_big_quiet_on
      refine ways_3 3 4 5 (by kernel_rfl) ?_ ?_ ?_
      · refine ⟨_, _, (by rfl), (by rfl), ?_⟩
        intro K' hK'
        go_wp2
        have b1 := Blk.new wd 25 #[.int .i64 0, .int .i64 0, .int .i64 0, .slice none 0 0, .slice none 0 0]
        have hbb := (Below.refl (wd).heap.size wd).alloc (Nat.le_refl _) (.cells #[.int .i64 0, .int .i64 0, .int .i64 0, .slice none 0 0, .slice none 0 0] 25)
        have hxe := (hxd).trans (hbb.mono (hxd).size)
        have l_b1 := (b1).lt
        skip
        generalize (wd).alloc (.cells #[.int .i64 0, .int .i64 0, .int .i64 0, .slice none 0 0, .slice none 0 0] 25) = we at *
        refine hK' _ _ ⟨⟨⟨we, hxe⟩, rfl⟩, ?_⟩
        clear hK' K' hbb
        refine ways_2 4 5 (by kernel_rfl) ?_ ?_
        · refine ⟨_, _, (by rfl), (by rfl), ?_⟩
          intro K' hK'
          go_wp2
          have b2 := Blk.new we 25 #[.int .i64 0, .int .i64 0, .int .i64 0, .slice none 0 0, .slice none 0 0]
          have hbb := (Below.refl (we).heap.size we).alloc (Nat.le_refl _) (.cells #[.int .i64 0, .int .i64 0, .int .i64 0, .slice none 0 0, .slice none 0 0] 25)
          have hxf := (hxe).trans (hbb.mono (hxe).size)
          have l_b2 := (b2).lt
          replace b1 := b1.call hbb
          generalize (we).alloc (.cells #[.int .i64 0, .int .i64 0, .int .i64 0, .slice none 0 0, .slice none 0 0] 25) = wf at *
          refine hK' _ _ ⟨⟨⟨wf, hxf⟩, rfl⟩, ?_⟩
          clear hK' K' hbb
          refine ways_1 5 (by kernel_rfl) ?_
          refine ⟨_, _, (by rfl), (by rfl), ?_⟩
          intro K' hK'
          go_wp2
          have b3 := Blk.new wf 25 #[.int .i64 0, .int .i64 0, .int .i64 0, .slice none 0 0, .slice none 0 0]
          have hbb := (Below.refl (wf).heap.size wf).alloc (Nat.le_refl _) (.cells #[.int .i64 0, .int .i64 0, .int .i64 0, .slice none 0 0, .slice none 0 0] 25)
          have hxg := (hxf).trans (hbb.mono (hxf).size)
          have l_b3 := (b3).lt
          (replace b1 := b1.call hbb; replace b2 := b2.call hbb)
          generalize (wf).alloc (.cells #[.int .i64 0, .int .i64 0, .int .i64 0, .slice none 0 0, .slice none 0 0] 25) = wg at *
          refine hK' _ _ ⟨⟨⟨wg, hxg⟩, rfl⟩, ?_⟩
          clear hK' K' hbb
          have s1 := hxd.size
          refine ways_1 6 (by kernel_rfl) ?_
          obtain ⟨z0, z1, z2, z3, z4⟩ := (b1).c5
          have hfz := fun i => (b1).frozen i
          refine ⟨_, _, (by rfl), (by rfl), ?_⟩
          intro K' hK'
          go_wp2
          replace b2 := (b2).far5 (g := wd.heap.size) (by omega) (.int .i64 c.turns) (.int .i64 c.long) (.int .i64 c.plays) (.slice fa c.frag.length fc) (.slice pa c.pas.length pc)
          replace b3 := (b3).far5 (g := wd.heap.size) (by omega) (.int .i64 c.turns) (.int .i64 c.long) (.int .i64 c.plays) (.slice fa c.frag.length fc) (.slice pa c.pas.length pc)
          replace b1 := (b1).put5 (.int .i64 c.turns) (.int .i64 c.long) (.int .i64 c.plays) (.slice fa c.frag.length fc) (.slice pa c.pas.length pc)
          have hxh := below_put5 (g := wd.heap.size) hxg (by omega) (.int .i64 c.turns) (.int .i64 c.long) (.int .i64 c.plays) (.slice fa c.frag.length fc) (.slice pa c.pas.length pc)
          clear z0 z1 z2 z3 z4 hfz
          generalize ((((((wg).setCell ⟨wd.heap.size, 0, none⟩ (.int .i64 c.turns)).setCell ⟨wd.heap.size, 1, none⟩ (.int .i64 c.long)).setCell ⟨wd.heap.size, 2, none⟩ (.int .i64 c.plays)).setCell ⟨wd.heap.size, 3, none⟩ (.slice fa c.frag.length fc)).setCell ⟨wd.heap.size, 4, none⟩ (.slice pa c.pas.length pc)) = wh at *
          refine hK' _ _ ⟨⟨⟨wh, hxh⟩, rfl⟩, ?_⟩
          clear hK' K'
          refine ways_1 7 (by kernel_rfl) ?_
          obtain ⟨z0, z1, z2, z3, z4⟩ := (b2).c5
          have hfz := fun i => (b2).frozen i
          refine ⟨_, _, (by rfl), (by rfl), ?_⟩
          intro K' hK'
          go_wp2
          replace b1 := (b1).far5 (g := we.heap.size) (by omega) (.int .i64 c.turns) (.int .i64 c.long) (.int .i64 c.plays) (.slice fa c.frag.length fc) (.slice pa c.pas.length pc)
          replace b3 := (b3).far5 (g := we.heap.size) (by omega) (.int .i64 c.turns) (.int .i64 c.long) (.int .i64 c.plays) (.slice fa c.frag.length fc) (.slice pa c.pas.length pc)
          replace b2 := (b2).put5 (.int .i64 c.turns) (.int .i64 c.long) (.int .i64 c.plays) (.slice fa c.frag.length fc) (.slice pa c.pas.length pc)
          have hxi := below_put5 (g := we.heap.size) hxh (by omega) (.int .i64 c.turns) (.int .i64 c.long) (.int .i64 c.plays) (.slice fa c.frag.length fc) (.slice pa c.pas.length pc)
          clear z0 z1 z2 z3 z4 hfz
          generalize ((((((wh).setCell ⟨we.heap.size, 0, none⟩ (.int .i64 c.turns)).setCell ⟨we.heap.size, 1, none⟩ (.int .i64 c.long)).setCell ⟨we.heap.size, 2, none⟩ (.int .i64 c.plays)).setCell ⟨we.heap.size, 3, none⟩ (.slice fa c.frag.length fc)).setCell ⟨we.heap.size, 4, none⟩ (.slice pa c.pas.length pc)) = wi at *
          refine hK' _ _ ⟨⟨⟨wi, hxi⟩, rfl⟩, ?_⟩
          clear hK' K'
          refine ways_1 8 (by kernel_rfl) ?_
          obtain ⟨z0, z1, z2, z3, z4⟩ := (b3).c5
          have hfz := fun i => (b3).frozen i
          refine ⟨_, _, (by rfl), (by rfl), ?_⟩
          intro K' hK'
          go_wp2
          replace b1 := (b1).far5 (g := wf.heap.size) (by omega) (.int .i64 c.turns) (.int .i64 c.long) (.int .i64 c.plays) (.slice fa c.frag.length fc) (.slice pa c.pas.length pc)
          replace b2 := (b2).far5 (g := wf.heap.size) (by omega) (.int .i64 c.turns) (.int .i64 c.long) (.int .i64 c.plays) (.slice fa c.frag.length fc) (.slice pa c.pas.length pc)
          replace b3 := (b3).put5 (.int .i64 c.turns) (.int .i64 c.long) (.int .i64 c.plays) (.slice fa c.frag.length fc) (.slice pa c.pas.length pc)
          have hxj := below_put5 (g := wf.heap.size) hxi (by omega) (.int .i64 c.turns) (.int .i64 c.long) (.int .i64 c.plays) (.slice fa c.frag.length fc) (.slice pa c.pas.length pc)
          clear z0 z1 z2 z3 z4 hfz
          generalize ((((((wi).setCell ⟨wf.heap.size, 0, none⟩ (.int .i64 c.turns)).setCell ⟨wf.heap.size, 1, none⟩ (.int .i64 c.long)).setCell ⟨wf.heap.size, 2, none⟩ (.int .i64 c.plays)).setCell ⟨wf.heap.size, 3, none⟩ (.slice fa c.frag.length fc)).setCell ⟨wf.heap.size, 4, none⟩ (.slice pa c.pas.length pc)) = wj at *
          refine hK' _ _ ⟨⟨⟨wj, hxj⟩, rfl⟩, ?_⟩
          clear hK' K'
          refine ways_end (by kernel_rfl) ?_
          go_wp2
          go_meet
          case rel => exact ⟨wd.heap.size, we.heap.size, wf.heap.size, rfl, rfl, rfl, by omega, by omega, by omega, by omega, by omega, by omega, b1, b2, b3, hxj⟩
        · refine ⟨_, _, (by rfl), (by rfl), ?_⟩
          intro K' hK'
          go_wp2
          have b2 := Blk.new we 25 #[.int .i64 0, .int .i64 0, .int .i64 0, .slice none 0 0, .slice none 0 0]
          have hbb := (Below.refl (we).heap.size we).alloc (Nat.le_refl _) (.cells #[.int .i64 0, .int .i64 0, .int .i64 0, .slice none 0 0, .slice none 0 0] 25)
          have hxf := (hxe).trans (hbb.mono (hxe).size)
          have l_b2 := (b2).lt
          replace b1 := b1.call hbb
          generalize (we).alloc (.cells #[.int .i64 0, .int .i64 0, .int .i64 0, .slice none 0 0, .slice none 0 0] 25) = wf at *
          refine hK' _ _ ⟨⟨⟨wf, hxf⟩, rfl⟩, ?_⟩
          clear hK' K' hbb
          refine ways_1 4 (by kernel_rfl) ?_
          refine ⟨_, _, (by rfl), (by rfl), ?_⟩
          intro K' hK'
          go_wp2
          have b3 := Blk.new wf 25 #[.int .i64 0, .int .i64 0, .int .i64 0, .slice none 0 0, .slice none 0 0]
          have hbb := (Below.refl (wf).heap.size wf).alloc (Nat.le_refl _) (.cells #[.int .i64 0, .int .i64 0, .int .i64 0, .slice none 0 0, .slice none 0 0] 25)
          have hxg := (hxf).trans (hbb.mono (hxf).size)
          have l_b3 := (b3).lt
          (replace b1 := b1.call hbb; replace b2 := b2.call hbb)
          generalize (wf).alloc (.cells #[.int .i64 0, .int .i64 0, .int .i64 0, .slice none 0 0, .slice none 0 0] 25) = wg at *
          refine hK' _ _ ⟨⟨⟨wg, hxg⟩, rfl⟩, ?_⟩
          clear hK' K' hbb
          have s1 := hxd.size
          refine ways_1 6 (by kernel_rfl) ?_
          obtain ⟨z0, z1, z2, z3, z4⟩ := (b1).c5
          have hfz := fun i => (b1).frozen i
          refine ⟨_, _, (by rfl), (by rfl), ?_⟩
          intro K' hK'
          go_wp2
          replace b3 := (b3).far5 (g := wd.heap.size) (by omega) (.int .i64 c.turns) (.int .i64 c.long) (.int .i64 c.plays) (.slice fa c.frag.length fc) (.slice pa c.pas.length pc)
          replace b2 := (b2).far5 (g := wd.heap.size) (by omega) (.int .i64 c.turns) (.int .i64 c.long) (.int .i64 c.plays) (.slice fa c.frag.length fc) (.slice pa c.pas.length pc)
          replace b1 := (b1).put5 (.int .i64 c.turns) (.int .i64 c.long) (.int .i64 c.plays) (.slice fa c.frag.length fc) (.slice pa c.pas.length pc)
          have hxh := below_put5 (g := wd.heap.size) hxg (by omega) (.int .i64 c.turns) (.int .i64 c.long) (.int .i64 c.plays) (.slice fa c.frag.length fc) (.slice pa c.pas.length pc)
          clear z0 z1 z2 z3 z4 hfz
          generalize ((((((wg).setCell ⟨wd.heap.size, 0, none⟩ (.int .i64 c.turns)).setCell ⟨wd.heap.size, 1, none⟩ (.int .i64 c.long)).setCell ⟨wd.heap.size, 2, none⟩ (.int .i64 c.plays)).setCell ⟨wd.heap.size, 3, none⟩ (.slice fa c.frag.length fc)).setCell ⟨wd.heap.size, 4, none⟩ (.slice pa c.pas.length pc)) = wh at *
          refine hK' _ _ ⟨⟨⟨wh, hxh⟩, rfl⟩, ?_⟩
          clear hK' K'
          refine ways_1 7 (by kernel_rfl) ?_
          obtain ⟨z0, z1, z2, z3, z4⟩ := (b3).c5
          have hfz := fun i => (b3).frozen i
          refine ⟨_, _, (by rfl), (by rfl), ?_⟩
          intro K' hK'
          go_wp2
          replace b1 := (b1).far5 (g := wf.heap.size) (by omega) (.int .i64 c.turns) (.int .i64 c.long) (.int .i64 c.plays) (.slice fa c.frag.length fc) (.slice pa c.pas.length pc)
          replace b2 := (b2).far5 (g := wf.heap.size) (by omega) (.int .i64 c.turns) (.int .i64 c.long) (.int .i64 c.plays) (.slice fa c.frag.length fc) (.slice pa c.pas.length pc)
          replace b3 := (b3).put5 (.int .i64 c.turns) (.int .i64 c.long) (.int .i64 c.plays) (.slice fa c.frag.length fc) (.slice pa c.pas.length pc)
          have hxi := below_put5 (g := wf.heap.size) hxh (by omega) (.int .i64 c.turns) (.int .i64 c.long) (.int .i64 c.plays) (.slice fa c.frag.length fc) (.slice pa c.pas.length pc)
          clear z0 z1 z2 z3 z4 hfz
          generalize ((((((wh).setCell ⟨wf.heap.size, 0, none⟩ (.int .i64 c.turns)).setCell ⟨wf.heap.size, 1, none⟩ (.int .i64 c.long)).setCell ⟨wf.heap.size, 2, none⟩ (.int .i64 c.plays)).setCell ⟨wf.heap.size, 3, none⟩ (.slice fa c.frag.length fc)).setCell ⟨wf.heap.size, 4, none⟩ (.slice pa c.pas.length pc)) = wi at *
          refine hK' _ _ ⟨⟨⟨wi, hxi⟩, rfl⟩, ?_⟩
          clear hK' K'
          refine ways_1 8 (by kernel_rfl) ?_
          obtain ⟨z0, z1, z2, z3, z4⟩ := (b2).c5
          have hfz := fun i => (b2).frozen i
          refine ⟨_, _, (by rfl), (by rfl), ?_⟩
          intro K' hK'
          go_wp2
          replace b1 := (b1).far5 (g := we.heap.size) (by omega) (.int .i64 c.turns) (.int .i64 c.long) (.int .i64 c.plays) (.slice fa c.frag.length fc) (.slice pa c.pas.length pc)
          replace b3 := (b3).far5 (g := we.heap.size) (by omega) (.int .i64 c.turns) (.int .i64 c.long) (.int .i64 c.plays) (.slice fa c.frag.length fc) (.slice pa c.pas.length pc)
          replace b2 := (b2).put5 (.int .i64 c.turns) (.int .i64 c.long) (.int .i64 c.plays) (.slice fa c.frag.length fc) (.slice pa c.pas.length pc)
          have hxj := below_put5 (g := we.heap.size) hxi (by omega) (.int .i64 c.turns) (.int .i64 c.long) (.int .i64 c.plays) (.slice fa c.frag.length fc) (.slice pa c.pas.length pc)
          clear z0 z1 z2 z3 z4 hfz
          generalize ((((((wi).setCell ⟨we.heap.size, 0, none⟩ (.int .i64 c.turns)).setCell ⟨we.heap.size, 1, none⟩ (.int .i64 c.long)).setCell ⟨we.heap.size, 2, none⟩ (.int .i64 c.plays)).setCell ⟨we.heap.size, 3, none⟩ (.slice fa c.frag.length fc)).setCell ⟨we.heap.size, 4, none⟩ (.slice pa c.pas.length pc)) = wj at *
          refine hK' _ _ ⟨⟨⟨wj, hxj⟩, rfl⟩, ?_⟩
          clear hK' K'
          refine ways_end (by kernel_rfl) ?_
          go_wp2
          go_meet
          case rel => exact ⟨wd.heap.size, wf.heap.size, we.heap.size, rfl, rfl, rfl, by omega, by omega, by omega, by omega, by omega, by omega, b1, b3, b2, hxj⟩
      · refine ⟨_, _, (by rfl), (by rfl), ?_⟩
        intro K' hK'
        go_wp2
        have b1 := Blk.new wd 25 #[.int .i64 0, .int .i64 0, .int .i64 0, .slice none 0 0, .slice none 0 0]
        have hbb := (Below.refl (wd).heap.size wd).alloc (Nat.le_refl _) (.cells #[.int .i64 0, .int .i64 0, .int .i64 0, .slice none 0 0, .slice none 0 0] 25)
        have hxe := (hxd).trans (hbb.mono (hxd).size)
        have l_b1 := (b1).lt
        skip
        generalize (wd).alloc (.cells #[.int .i64 0, .int .i64 0, .int .i64 0, .slice none 0 0, .slice none 0 0] 25) = we at *
        refine hK' _ _ ⟨⟨⟨we, hxe⟩, rfl⟩, ?_⟩
        clear hK' K' hbb
        refine ways_2 3 5 (by kernel_rfl) ?_ ?_
        · refine ⟨_, _, (by rfl), (by rfl), ?_⟩
          intro K' hK'
          go_wp2
          have b2 := Blk.new we 25 #[.int .i64 0, .int .i64 0, .int .i64 0, .slice none 0 0, .slice none 0 0]
          have hbb := (Below.refl (we).heap.size we).alloc (Nat.le_refl _) (.cells #[.int .i64 0, .int .i64 0, .int .i64 0, .slice none 0 0, .slice none 0 0] 25)
          have hxf := (hxe).trans (hbb.mono (hxe).size)
          have l_b2 := (b2).lt
          replace b1 := b1.call hbb
          generalize (we).alloc (.cells #[.int .i64 0, .int .i64 0, .int .i64 0, .slice none 0 0, .slice none 0 0] 25) = wf at *
          refine hK' _ _ ⟨⟨⟨wf, hxf⟩, rfl⟩, ?_⟩
          clear hK' K' hbb
          refine ways_1 5 (by kernel_rfl) ?_
          refine ⟨_, _, (by rfl), (by rfl), ?_⟩
          intro K' hK'
          go_wp2
          have b3 := Blk.new wf 25 #[.int .i64 0, .int .i64 0, .int .i64 0, .slice none 0 0, .slice none 0 0]
          have hbb := (Below.refl (wf).heap.size wf).alloc (Nat.le_refl _) (.cells #[.int .i64 0, .int .i64 0, .int .i64 0, .slice none 0 0, .slice none 0 0] 25)
          have hxg := (hxf).trans (hbb.mono (hxf).size)
          have l_b3 := (b3).lt
          (replace b1 := b1.call hbb; replace b2 := b2.call hbb)
          generalize (wf).alloc (.cells #[.int .i64 0, .int .i64 0, .int .i64 0, .slice none 0 0, .slice none 0 0] 25) = wg at *
          refine hK' _ _ ⟨⟨⟨wg, hxg⟩, rfl⟩, ?_⟩
          clear hK' K' hbb
          have s1 := hxd.size
          refine ways_1 6 (by kernel_rfl) ?_
          obtain ⟨z0, z1, z2, z3, z4⟩ := (b2).c5
          have hfz := fun i => (b2).frozen i
          refine ⟨_, _, (by rfl), (by rfl), ?_⟩
          intro K' hK'
          go_wp2
          replace b1 := (b1).far5 (g := we.heap.size) (by omega) (.int .i64 c.turns) (.int .i64 c.long) (.int .i64 c.plays) (.slice fa c.frag.length fc) (.slice pa c.pas.length pc)
          replace b3 := (b3).far5 (g := we.heap.size) (by omega) (.int .i64 c.turns) (.int .i64 c.long) (.int .i64 c.plays) (.slice fa c.frag.length fc) (.slice pa c.pas.length pc)
          replace b2 := (b2).put5 (.int .i64 c.turns) (.int .i64 c.long) (.int .i64 c.plays) (.slice fa c.frag.length fc) (.slice pa c.pas.length pc)
          have hxh := below_put5 (g := we.heap.size) hxg (by omega) (.int .i64 c.turns) (.int .i64 c.long) (.int .i64 c.plays) (.slice fa c.frag.length fc) (.slice pa c.pas.length pc)
          clear z0 z1 z2 z3 z4 hfz
          generalize ((((((wg).setCell ⟨we.heap.size, 0, none⟩ (.int .i64 c.turns)).setCell ⟨we.heap.size, 1, none⟩ (.int .i64 c.long)).setCell ⟨we.heap.size, 2, none⟩ (.int .i64 c.plays)).setCell ⟨we.heap.size, 3, none⟩ (.slice fa c.frag.length fc)).setCell ⟨we.heap.size, 4, none⟩ (.slice pa c.pas.length pc)) = wh at *
          refine hK' _ _ ⟨⟨⟨wh, hxh⟩, rfl⟩, ?_⟩
          clear hK' K'
          refine ways_1 7 (by kernel_rfl) ?_
          obtain ⟨z0, z1, z2, z3, z4⟩ := (b1).c5
          have hfz := fun i => (b1).frozen i
          refine ⟨_, _, (by rfl), (by rfl), ?_⟩
          intro K' hK'
          go_wp2
          replace b2 := (b2).far5 (g := wd.heap.size) (by omega) (.int .i64 c.turns) (.int .i64 c.long) (.int .i64 c.plays) (.slice fa c.frag.length fc) (.slice pa c.pas.length pc)
          replace b3 := (b3).far5 (g := wd.heap.size) (by omega) (.int .i64 c.turns) (.int .i64 c.long) (.int .i64 c.plays) (.slice fa c.frag.length fc) (.slice pa c.pas.length pc)
          replace b1 := (b1).put5 (.int .i64 c.turns) (.int .i64 c.long) (.int .i64 c.plays) (.slice fa c.frag.length fc) (.slice pa c.pas.length pc)
          have hxi := below_put5 (g := wd.heap.size) hxh (by omega) (.int .i64 c.turns) (.int .i64 c.long) (.int .i64 c.plays) (.slice fa c.frag.length fc) (.slice pa c.pas.length pc)
          clear z0 z1 z2 z3 z4 hfz
          generalize ((((((wh).setCell ⟨wd.heap.size, 0, none⟩ (.int .i64 c.turns)).setCell ⟨wd.heap.size, 1, none⟩ (.int .i64 c.long)).setCell ⟨wd.heap.size, 2, none⟩ (.int .i64 c.plays)).setCell ⟨wd.heap.size, 3, none⟩ (.slice fa c.frag.length fc)).setCell ⟨wd.heap.size, 4, none⟩ (.slice pa c.pas.length pc)) = wi at *
          refine hK' _ _ ⟨⟨⟨wi, hxi⟩, rfl⟩, ?_⟩
          clear hK' K'
          refine ways_1 8 (by kernel_rfl) ?_
          obtain ⟨z0, z1, z2, z3, z4⟩ := (b3).c5
          have hfz := fun i => (b3).frozen i
          refine ⟨_, _, (by rfl), (by rfl), ?_⟩
          intro K' hK'
          go_wp2
          replace b2 := (b2).far5 (g := wf.heap.size) (by omega) (.int .i64 c.turns) (.int .i64 c.long) (.int .i64 c.plays) (.slice fa c.frag.length fc) (.slice pa c.pas.length pc)
          replace b1 := (b1).far5 (g := wf.heap.size) (by omega) (.int .i64 c.turns) (.int .i64 c.long) (.int .i64 c.plays) (.slice fa c.frag.length fc) (.slice pa c.pas.length pc)
          replace b3 := (b3).put5 (.int .i64 c.turns) (.int .i64 c.long) (.int .i64 c.plays) (.slice fa c.frag.length fc) (.slice pa c.pas.length pc)
          have hxj := below_put5 (g := wf.heap.size) hxi (by omega) (.int .i64 c.turns) (.int .i64 c.long) (.int .i64 c.plays) (.slice fa c.frag.length fc) (.slice pa c.pas.length pc)
          clear z0 z1 z2 z3 z4 hfz
          generalize ((((((wi).setCell ⟨wf.heap.size, 0, none⟩ (.int .i64 c.turns)).setCell ⟨wf.heap.size, 1, none⟩ (.int .i64 c.long)).setCell ⟨wf.heap.size, 2, none⟩ (.int .i64 c.plays)).setCell ⟨wf.heap.size, 3, none⟩ (.slice fa c.frag.length fc)).setCell ⟨wf.heap.size, 4, none⟩ (.slice pa c.pas.length pc)) = wj at *
          refine hK' _ _ ⟨⟨⟨wj, hxj⟩, rfl⟩, ?_⟩
          clear hK' K'
          refine ways_end (by kernel_rfl) ?_
          go_wp2
          go_meet
          case rel => exact ⟨we.heap.size, wd.heap.size, wf.heap.size, rfl, rfl, rfl, by omega, by omega, by omega, by omega, by omega, by omega, b2, b1, b3, hxj⟩
        · refine ⟨_, _, (by rfl), (by rfl), ?_⟩
          intro K' hK'
          go_wp2
          have b2 := Blk.new we 25 #[.int .i64 0, .int .i64 0, .int .i64 0, .slice none 0 0, .slice none 0 0]
          have hbb := (Below.refl (we).heap.size we).alloc (Nat.le_refl _) (.cells #[.int .i64 0, .int .i64 0, .int .i64 0, .slice none 0 0, .slice none 0 0] 25)
          have hxf := (hxe).trans (hbb.mono (hxe).size)
          have l_b2 := (b2).lt
          replace b1 := b1.call hbb
          generalize (we).alloc (.cells #[.int .i64 0, .int .i64 0, .int .i64 0, .slice none 0 0, .slice none 0 0] 25) = wf at *
          refine hK' _ _ ⟨⟨⟨wf, hxf⟩, rfl⟩, ?_⟩
          clear hK' K' hbb
          refine ways_1 3 (by kernel_rfl) ?_
          refine ⟨_, _, (by rfl), (by rfl), ?_⟩
          intro K' hK'
          go_wp2
          have b3 := Blk.new wf 25 #[.int .i64 0, .int .i64 0, .int .i64 0, .slice none 0 0, .slice none 0 0]
          have hbb := (Below.refl (wf).heap.size wf).alloc (Nat.le_refl _) (.cells #[.int .i64 0, .int .i64 0, .int .i64 0, .slice none 0 0, .slice none 0 0] 25)
          have hxg := (hxf).trans (hbb.mono (hxf).size)
          have l_b3 := (b3).lt
          (replace b1 := b1.call hbb; replace b2 := b2.call hbb)
          generalize (wf).alloc (.cells #[.int .i64 0, .int .i64 0, .int .i64 0, .slice none 0 0, .slice none 0 0] 25) = wg at *
          refine hK' _ _ ⟨⟨⟨wg, hxg⟩, rfl⟩, ?_⟩
          clear hK' K' hbb
          have s1 := hxd.size
          refine ways_1 6 (by kernel_rfl) ?_
          obtain ⟨z0, z1, z2, z3, z4⟩ := (b3).c5
          have hfz := fun i => (b3).frozen i
          refine ⟨_, _, (by rfl), (by rfl), ?_⟩
          intro K' hK'
          go_wp2
          replace b1 := (b1).far5 (g := wf.heap.size) (by omega) (.int .i64 c.turns) (.int .i64 c.long) (.int .i64 c.plays) (.slice fa c.frag.length fc) (.slice pa c.pas.length pc)
          replace b2 := (b2).far5 (g := wf.heap.size) (by omega) (.int .i64 c.turns) (.int .i64 c.long) (.int .i64 c.plays) (.slice fa c.frag.length fc) (.slice pa c.pas.length pc)
          replace b3 := (b3).put5 (.int .i64 c.turns) (.int .i64 c.long) (.int .i64 c.plays) (.slice fa c.frag.length fc) (.slice pa c.pas.length pc)
          have hxh := below_put5 (g := wf.heap.size) hxg (by omega) (.int .i64 c.turns) (.int .i64 c.long) (.int .i64 c.plays) (.slice fa c.frag.length fc) (.slice pa c.pas.length pc)
          clear z0 z1 z2 z3 z4 hfz
          generalize ((((((wg).setCell ⟨wf.heap.size, 0, none⟩ (.int .i64 c.turns)).setCell ⟨wf.heap.size, 1, none⟩ (.int .i64 c.long)).setCell ⟨wf.heap.size, 2, none⟩ (.int .i64 c.plays)).setCell ⟨wf.heap.size, 3, none⟩ (.slice fa c.frag.length fc)).setCell ⟨wf.heap.size, 4, none⟩ (.slice pa c.pas.length pc)) = wh at *
          refine hK' _ _ ⟨⟨⟨wh, hxh⟩, rfl⟩, ?_⟩
          clear hK' K'
          refine ways_1 7 (by kernel_rfl) ?_
          obtain ⟨z0, z1, z2, z3, z4⟩ := (b1).c5
          have hfz := fun i => (b1).frozen i
          refine ⟨_, _, (by rfl), (by rfl), ?_⟩
          intro K' hK'
          go_wp2
          replace b3 := (b3).far5 (g := wd.heap.size) (by omega) (.int .i64 c.turns) (.int .i64 c.long) (.int .i64 c.plays) (.slice fa c.frag.length fc) (.slice pa c.pas.length pc)
          replace b2 := (b2).far5 (g := wd.heap.size) (by omega) (.int .i64 c.turns) (.int .i64 c.long) (.int .i64 c.plays) (.slice fa c.frag.length fc) (.slice pa c.pas.length pc)
          replace b1 := (b1).put5 (.int .i64 c.turns) (.int .i64 c.long) (.int .i64 c.plays) (.slice fa c.frag.length fc) (.slice pa c.pas.length pc)
          have hxi := below_put5 (g := wd.heap.size) hxh (by omega) (.int .i64 c.turns) (.int .i64 c.long) (.int .i64 c.plays) (.slice fa c.frag.length fc) (.slice pa c.pas.length pc)
          clear z0 z1 z2 z3 z4 hfz
          generalize ((((((wh).setCell ⟨wd.heap.size, 0, none⟩ (.int .i64 c.turns)).setCell ⟨wd.heap.size, 1, none⟩ (.int .i64 c.long)).setCell ⟨wd.heap.size, 2, none⟩ (.int .i64 c.plays)).setCell ⟨wd.heap.size, 3, none⟩ (.slice fa c.frag.length fc)).setCell ⟨wd.heap.size, 4, none⟩ (.slice pa c.pas.length pc)) = wi at *
          refine hK' _ _ ⟨⟨⟨wi, hxi⟩, rfl⟩, ?_⟩
          clear hK' K'
          refine ways_1 8 (by kernel_rfl) ?_
          obtain ⟨z0, z1, z2, z3, z4⟩ := (b2).c5
          have hfz := fun i => (b2).frozen i
          refine ⟨_, _, (by rfl), (by rfl), ?_⟩
          intro K' hK'
          go_wp2
          replace b3 := (b3).far5 (g := we.heap.size) (by omega) (.int .i64 c.turns) (.int .i64 c.long) (.int .i64 c.plays) (.slice fa c.frag.length fc) (.slice pa c.pas.length pc)
          replace b1 := (b1).far5 (g := we.heap.size) (by omega) (.int .i64 c.turns) (.int .i64 c.long) (.int .i64 c.plays) (.slice fa c.frag.length fc) (.slice pa c.pas.length pc)
          replace b2 := (b2).put5 (.int .i64 c.turns) (.int .i64 c.long) (.int .i64 c.plays) (.slice fa c.frag.length fc) (.slice pa c.pas.length pc)
          have hxj := below_put5 (g := we.heap.size) hxi (by omega) (.int .i64 c.turns) (.int .i64 c.long) (.int .i64 c.plays) (.slice fa c.frag.length fc) (.slice pa c.pas.length pc)
          clear z0 z1 z2 z3 z4 hfz
          generalize ((((((wi).setCell ⟨we.heap.size, 0, none⟩ (.int .i64 c.turns)).setCell ⟨we.heap.size, 1, none⟩ (.int .i64 c.long)).setCell ⟨we.heap.size, 2, none⟩ (.int .i64 c.plays)).setCell ⟨we.heap.size, 3, none⟩ (.slice fa c.frag.length fc)).setCell ⟨we.heap.size, 4, none⟩ (.slice pa c.pas.length pc)) = wj at *
          refine hK' _ _ ⟨⟨⟨wj, hxj⟩, rfl⟩, ?_⟩
          clear hK' K'
          refine ways_end (by kernel_rfl) ?_
          go_wp2
          go_meet
          case rel => exact ⟨wf.heap.size, wd.heap.size, we.heap.size, rfl, rfl, rfl, by omega, by omega, by omega, by omega, by omega, by omega, b3, b1, b2, hxj⟩
      · refine ⟨_, _, (by rfl), (by rfl), ?_⟩
        intro K' hK'
        go_wp2
        have b1 := Blk.new wd 25 #[.int .i64 0, .int .i64 0, .int .i64 0, .slice none 0 0, .slice none 0 0]
        have hbb := (Below.refl (wd).heap.size wd).alloc (Nat.le_refl _) (.cells #[.int .i64 0, .int .i64 0, .int .i64 0, .slice none 0 0, .slice none 0 0] 25)
        have hxe := (hxd).trans (hbb.mono (hxd).size)
        have l_b1 := (b1).lt
        skip
        generalize (wd).alloc (.cells #[.int .i64 0, .int .i64 0, .int .i64 0, .slice none 0 0, .slice none 0 0] 25) = we at *
        refine hK' _ _ ⟨⟨⟨we, hxe⟩, rfl⟩, ?_⟩
        clear hK' K' hbb
        refine ways_2 3 4 (by kernel_rfl) ?_ ?_
        · refine ⟨_, _, (by rfl), (by rfl), ?_⟩
          intro K' hK'
          go_wp2
          have b2 := Blk.new we 25 #[.int .i64 0, .int .i64 0, .int .i64 0, .slice none 0 0, .slice none 0 0]
          have hbb := (Below.refl (we).heap.size we).alloc (Nat.le_refl _) (.cells #[.int .i64 0, .int .i64 0, .int .i64 0, .slice none 0 0, .slice none 0 0] 25)
          have hxf := (hxe).trans (hbb.mono (hxe).size)
          have l_b2 := (b2).lt
          replace b1 := b1.call hbb
          generalize (we).alloc (.cells #[.int .i64 0, .int .i64 0, .int .i64 0, .slice none 0 0, .slice none 0 0] 25) = wf at *
          refine hK' _ _ ⟨⟨⟨wf, hxf⟩, rfl⟩, ?_⟩
          clear hK' K' hbb
          refine ways_1 4 (by kernel_rfl) ?_
          refine ⟨_, _, (by rfl), (by rfl), ?_⟩
          intro K' hK'
          go_wp2
          have b3 := Blk.new wf 25 #[.int .i64 0, .int .i64 0, .int .i64 0, .slice none 0 0, .slice none 0 0]
          have hbb := (Below.refl (wf).heap.size wf).alloc (Nat.le_refl _) (.cells #[.int .i64 0, .int .i64 0, .int .i64 0, .slice none 0 0, .slice none 0 0] 25)
          have hxg := (hxf).trans (hbb.mono (hxf).size)
          have l_b3 := (b3).lt
          (replace b1 := b1.call hbb; replace b2 := b2.call hbb)
          generalize (wf).alloc (.cells #[.int .i64 0, .int .i64 0, .int .i64 0, .slice none 0 0, .slice none 0 0] 25) = wg at *
          refine hK' _ _ ⟨⟨⟨wg, hxg⟩, rfl⟩, ?_⟩
          clear hK' K' hbb
          have s1 := hxd.size
          refine ways_1 6 (by kernel_rfl) ?_
          obtain ⟨z0, z1, z2, z3, z4⟩ := (b2).c5
          have hfz := fun i => (b2).frozen i
          refine ⟨_, _, (by rfl), (by rfl), ?_⟩
          intro K' hK'
          go_wp2
          replace b3 := (b3).far5 (g := we.heap.size) (by omega) (.int .i64 c.turns) (.int .i64 c.long) (.int .i64 c.plays) (.slice fa c.frag.length fc) (.slice pa c.pas.length pc)
          replace b1 := (b1).far5 (g := we.heap.size) (by omega) (.int .i64 c.turns) (.int .i64 c.long) (.int .i64 c.plays) (.slice fa c.frag.length fc) (.slice pa c.pas.length pc)
          replace b2 := (b2).put5 (.int .i64 c.turns) (.int .i64 c.long) (.int .i64 c.plays) (.slice fa c.frag.length fc) (.slice pa c.pas.length pc)
          have hxh := below_put5 (g := we.heap.size) hxg (by omega) (.int .i64 c.turns) (.int .i64 c.long) (.int .i64 c.plays) (.slice fa c.frag.length fc) (.slice pa c.pas.length pc)
          clear z0 z1 z2 z3 z4 hfz
          generalize ((((((wg).setCell ⟨we.heap.size, 0, none⟩ (.int .i64 c.turns)).setCell ⟨we.heap.size, 1, none⟩ (.int .i64 c.long)).setCell ⟨we.heap.size, 2, none⟩ (.int .i64 c.plays)).setCell ⟨we.heap.size, 3, none⟩ (.slice fa c.frag.length fc)).setCell ⟨we.heap.size, 4, none⟩ (.slice pa c.pas.length pc)) = wh at *
          refine hK' _ _ ⟨⟨⟨wh, hxh⟩, rfl⟩, ?_⟩
          clear hK' K'
          refine ways_1 7 (by kernel_rfl) ?_
          obtain ⟨z0, z1, z2, z3, z4⟩ := (b3).c5
          have hfz := fun i => (b3).frozen i
          refine ⟨_, _, (by rfl), (by rfl), ?_⟩
          intro K' hK'
          go_wp2
          replace b2 := (b2).far5 (g := wf.heap.size) (by omega) (.int .i64 c.turns) (.int .i64 c.long) (.int .i64 c.plays) (.slice fa c.frag.length fc) (.slice pa c.pas.length pc)
          replace b1 := (b1).far5 (g := wf.heap.size) (by omega) (.int .i64 c.turns) (.int .i64 c.long) (.int .i64 c.plays) (.slice fa c.frag.length fc) (.slice pa c.pas.length pc)
          replace b3 := (b3).put5 (.int .i64 c.turns) (.int .i64 c.long) (.int .i64 c.plays) (.slice fa c.frag.length fc) (.slice pa c.pas.length pc)
          have hxi := below_put5 (g := wf.heap.size) hxh (by omega) (.int .i64 c.turns) (.int .i64 c.long) (.int .i64 c.plays) (.slice fa c.frag.length fc) (.slice pa c.pas.length pc)
          clear z0 z1 z2 z3 z4 hfz
          generalize ((((((wh).setCell ⟨wf.heap.size, 0, none⟩ (.int .i64 c.turns)).setCell ⟨wf.heap.size, 1, none⟩ (.int .i64 c.long)).setCell ⟨wf.heap.size, 2, none⟩ (.int .i64 c.plays)).setCell ⟨wf.heap.size, 3, none⟩ (.slice fa c.frag.length fc)).setCell ⟨wf.heap.size, 4, none⟩ (.slice pa c.pas.length pc)) = wi at *
          refine hK' _ _ ⟨⟨⟨wi, hxi⟩, rfl⟩, ?_⟩
          clear hK' K'
          refine ways_1 8 (by kernel_rfl) ?_
          obtain ⟨z0, z1, z2, z3, z4⟩ := (b1).c5
          have hfz := fun i => (b1).frozen i
          refine ⟨_, _, (by rfl), (by rfl), ?_⟩
          intro K' hK'
          go_wp2
          replace b2 := (b2).far5 (g := wd.heap.size) (by omega) (.int .i64 c.turns) (.int .i64 c.long) (.int .i64 c.plays) (.slice fa c.frag.length fc) (.slice pa c.pas.length pc)
          replace b3 := (b3).far5 (g := wd.heap.size) (by omega) (.int .i64 c.turns) (.int .i64 c.long) (.int .i64 c.plays) (.slice fa c.frag.length fc) (.slice pa c.pas.length pc)
          replace b1 := (b1).put5 (.int .i64 c.turns) (.int .i64 c.long) (.int .i64 c.plays) (.slice fa c.frag.length fc) (.slice pa c.pas.length pc)
          have hxj := below_put5 (g := wd.heap.size) hxi (by omega) (.int .i64 c.turns) (.int .i64 c.long) (.int .i64 c.plays) (.slice fa c.frag.length fc) (.slice pa c.pas.length pc)
          clear z0 z1 z2 z3 z4 hfz
          generalize ((((((wi).setCell ⟨wd.heap.size, 0, none⟩ (.int .i64 c.turns)).setCell ⟨wd.heap.size, 1, none⟩ (.int .i64 c.long)).setCell ⟨wd.heap.size, 2, none⟩ (.int .i64 c.plays)).setCell ⟨wd.heap.size, 3, none⟩ (.slice fa c.frag.length fc)).setCell ⟨wd.heap.size, 4, none⟩ (.slice pa c.pas.length pc)) = wj at *
          refine hK' _ _ ⟨⟨⟨wj, hxj⟩, rfl⟩, ?_⟩
          clear hK' K'
          refine ways_end (by kernel_rfl) ?_
          go_wp2
          go_meet
          case rel => exact ⟨we.heap.size, wf.heap.size, wd.heap.size, rfl, rfl, rfl, by omega, by omega, by omega, by omega, by omega, by omega, b2, b3, b1, hxj⟩
        · refine ⟨_, _, (by rfl), (by rfl), ?_⟩
          intro K' hK'
          go_wp2
          have b2 := Blk.new we 25 #[.int .i64 0, .int .i64 0, .int .i64 0, .slice none 0 0, .slice none 0 0]
          have hbb := (Below.refl (we).heap.size we).alloc (Nat.le_refl _) (.cells #[.int .i64 0, .int .i64 0, .int .i64 0, .slice none 0 0, .slice none 0 0] 25)
          have hxf := (hxe).trans (hbb.mono (hxe).size)
          have l_b2 := (b2).lt
          replace b1 := b1.call hbb
          generalize (we).alloc (.cells #[.int .i64 0, .int .i64 0, .int .i64 0, .slice none 0 0, .slice none 0 0] 25) = wf at *
          refine hK' _ _ ⟨⟨⟨wf, hxf⟩, rfl⟩, ?_⟩
          clear hK' K' hbb
          refine ways_1 3 (by kernel_rfl) ?_
          refine ⟨_, _, (by rfl), (by rfl), ?_⟩
          intro K' hK'
          go_wp2
          have b3 := Blk.new wf 25 #[.int .i64 0, .int .i64 0, .int .i64 0, .slice none 0 0, .slice none 0 0]
          have hbb := (Below.refl (wf).heap.size wf).alloc (Nat.le_refl _) (.cells #[.int .i64 0, .int .i64 0, .int .i64 0, .slice none 0 0, .slice none 0 0] 25)
          have hxg := (hxf).trans (hbb.mono (hxf).size)
          have l_b3 := (b3).lt
          (replace b1 := b1.call hbb; replace b2 := b2.call hbb)
          generalize (wf).alloc (.cells #[.int .i64 0, .int .i64 0, .int .i64 0, .slice none 0 0, .slice none 0 0] 25) = wg at *
          refine hK' _ _ ⟨⟨⟨wg, hxg⟩, rfl⟩, ?_⟩
          clear hK' K' hbb
          have s1 := hxd.size
          refine ways_1 6 (by kernel_rfl) ?_
          obtain ⟨z0, z1, z2, z3, z4⟩ := (b3).c5
          have hfz := fun i => (b3).frozen i
          refine ⟨_, _, (by rfl), (by rfl), ?_⟩
          intro K' hK'
          go_wp2
          replace b2 := (b2).far5 (g := wf.heap.size) (by omega) (.int .i64 c.turns) (.int .i64 c.long) (.int .i64 c.plays) (.slice fa c.frag.length fc) (.slice pa c.pas.length pc)
          replace b1 := (b1).far5 (g := wf.heap.size) (by omega) (.int .i64 c.turns) (.int .i64 c.long) (.int .i64 c.plays) (.slice fa c.frag.length fc) (.slice pa c.pas.length pc)
          replace b3 := (b3).put5 (.int .i64 c.turns) (.int .i64 c.long) (.int .i64 c.plays) (.slice fa c.frag.length fc) (.slice pa c.pas.length pc)
          have hxh := below_put5 (g := wf.heap.size) hxg (by omega) (.int .i64 c.turns) (.int .i64 c.long) (.int .i64 c.plays) (.slice fa c.frag.length fc) (.slice pa c.pas.length pc)
          clear z0 z1 z2 z3 z4 hfz
          generalize ((((((wg).setCell ⟨wf.heap.size, 0, none⟩ (.int .i64 c.turns)).setCell ⟨wf.heap.size, 1, none⟩ (.int .i64 c.long)).setCell ⟨wf.heap.size, 2, none⟩ (.int .i64 c.plays)).setCell ⟨wf.heap.size, 3, none⟩ (.slice fa c.frag.length fc)).setCell ⟨wf.heap.size, 4, none⟩ (.slice pa c.pas.length pc)) = wh at *
          refine hK' _ _ ⟨⟨⟨wh, hxh⟩, rfl⟩, ?_⟩
          clear hK' K'
          refine ways_1 7 (by kernel_rfl) ?_
          obtain ⟨z0, z1, z2, z3, z4⟩ := (b2).c5
          have hfz := fun i => (b2).frozen i
          refine ⟨_, _, (by rfl), (by rfl), ?_⟩
          intro K' hK'
          go_wp2
          replace b3 := (b3).far5 (g := we.heap.size) (by omega) (.int .i64 c.turns) (.int .i64 c.long) (.int .i64 c.plays) (.slice fa c.frag.length fc) (.slice pa c.pas.length pc)
          replace b1 := (b1).far5 (g := we.heap.size) (by omega) (.int .i64 c.turns) (.int .i64 c.long) (.int .i64 c.plays) (.slice fa c.frag.length fc) (.slice pa c.pas.length pc)
          replace b2 := (b2).put5 (.int .i64 c.turns) (.int .i64 c.long) (.int .i64 c.plays) (.slice fa c.frag.length fc) (.slice pa c.pas.length pc)
          have hxi := below_put5 (g := we.heap.size) hxh (by omega) (.int .i64 c.turns) (.int .i64 c.long) (.int .i64 c.plays) (.slice fa c.frag.length fc) (.slice pa c.pas.length pc)
          clear z0 z1 z2 z3 z4 hfz
          generalize ((((((wh).setCell ⟨we.heap.size, 0, none⟩ (.int .i64 c.turns)).setCell ⟨we.heap.size, 1, none⟩ (.int .i64 c.long)).setCell ⟨we.heap.size, 2, none⟩ (.int .i64 c.plays)).setCell ⟨we.heap.size, 3, none⟩ (.slice fa c.frag.length fc)).setCell ⟨we.heap.size, 4, none⟩ (.slice pa c.pas.length pc)) = wi at *
          refine hK' _ _ ⟨⟨⟨wi, hxi⟩, rfl⟩, ?_⟩
          clear hK' K'
          refine ways_1 8 (by kernel_rfl) ?_
          obtain ⟨z0, z1, z2, z3, z4⟩ := (b1).c5
          have hfz := fun i => (b1).frozen i
          refine ⟨_, _, (by rfl), (by rfl), ?_⟩
          intro K' hK'
          go_wp2
          replace b3 := (b3).far5 (g := wd.heap.size) (by omega) (.int .i64 c.turns) (.int .i64 c.long) (.int .i64 c.plays) (.slice fa c.frag.length fc) (.slice pa c.pas.length pc)
          replace b2 := (b2).far5 (g := wd.heap.size) (by omega) (.int .i64 c.turns) (.int .i64 c.long) (.int .i64 c.plays) (.slice fa c.frag.length fc) (.slice pa c.pas.length pc)
          replace b1 := (b1).put5 (.int .i64 c.turns) (.int .i64 c.long) (.int .i64 c.plays) (.slice fa c.frag.length fc) (.slice pa c.pas.length pc)
          have hxj := below_put5 (g := wd.heap.size) hxi (by omega) (.int .i64 c.turns) (.int .i64 c.long) (.int .i64 c.plays) (.slice fa c.frag.length fc) (.slice pa c.pas.length pc)
          clear z0 z1 z2 z3 z4 hfz
          generalize ((((((wi).setCell ⟨wd.heap.size, 0, none⟩ (.int .i64 c.turns)).setCell ⟨wd.heap.size, 1, none⟩ (.int .i64 c.long)).setCell ⟨wd.heap.size, 2, none⟩ (.int .i64 c.plays)).setCell ⟨wd.heap.size, 3, none⟩ (.slice fa c.frag.length fc)).setCell ⟨wd.heap.size, 4, none⟩ (.slice pa c.pas.length pc)) = wj at *
          refine hK' _ _ ⟨⟨⟨wj, hxj⟩, rfl⟩, ?_⟩
          clear hK' K'
          refine ways_end (by kernel_rfl) ?_
          go_wp2
          go_meet
          case rel => exact ⟨wf.heap.size, we.heap.size, wd.heap.size, rfl, rfl, rfl, by omega, by omega, by omega, by omega, by omega, by omega, b3, b2, b1, hxj⟩
    case rest =>
      obtain ⟨g1, g2, g3, rfl, rfl, rfl, hg1, hg2, hg3, n12, n13, n23, B1, B2, B3, hb3⟩ := hcut
      have hW3 : Hid (∀ j, j ≤ tK c → wc.cell? ⟨ob, oo + j, none⟩ = some (.int .i64 (mostK c j))) := fun j hj => (hb3.cell (p := ⟨ob, oo + j, none⟩) hob).trans (hW.out j hj)
      have hob3 : ob < wc.heap.size := Nat.lt_of_lt_of_le hob hb3.size
      have hobg : ob < g1 ∧ ob < g2 ∧ ob < g3 := by omega
      replace hC := hC.call hb3
      replace hB := hB.trans (hb3.mono hB.size)
      replace hM := hM.call hb3
      have q5 : w.heap.size + 1 < g1 ∧ w.heap.size + 1 < g2 ∧ w.heap.size + 1 < g3 := by omega
      clear hb3 hW q1 q2 hob k0 k1 k2 k3 k4 c0 hg1 hg2 hg3
      have hfl : c.frag.length ≤ 40 := by
        unfold fineB greatB at hg
        simp at hg
        omega
      obtain ⟨t, ht⟩ : ∃ t : Int, turn % c.turns = t := ⟨_, rfl⟩
      have t0 : 0 ≤ t := by rw [← ht]; exact Int.emod_nonneg _ (by omega)
      have t1 : t < c.turns := by rw [← ht]; exact Int.emod_lt_of_pos _ (by omega)
      have t2 : turn.tmod c.turns = t := by rw [Int.tmod_eq_emod_of_nonneg (by omega)]; exact ht
      have t3 : IntKind.i64.wrap t = t := by rw [IntKind.wrap_i64]; omega
      have t4 : IntKind.i64.wrap turn = turn := by rw [IntKind.wrap_i64]; omega
      clear ht
      have hfz := fun i => B1.frozen i
      obtain ⟨x0, x1, x2, x3, x4⟩ := B1.c5
      obtain ⟨k0, k1, k2, k3, k4⟩ := hC.c5
      go_upto_region 9 with (fail)
      have hI : MInv wc w.heap.size g1 c fa fc pa pc [] none 0 (wc.setCell ⟨g1, 3, none⟩ (.slice none 0 0)) :=
        ⟨hC.belowB ((Below.refl (w.heap.size + 1) wc).setCell (p := ⟨g1, 3, none⟩) (by show w.heap.size + 1 ≤ g1; omega) _) (Nat.lt_succ_self _), by have := B1.set_ 3 (.slice none 0 0); simpa using this, by simpa using World.ownsRow_nil _ _ _ _, grown_setCell _, by omega, B1.lt⟩
      clear hfz x0 x1 x2 x3 x4 k0 k1 k2 k3 k4
      generalize wc.setCell ⟨g1, 3, none⟩ (.slice none 0 0) = wd at *
      go_wp2
      go_loopw [15, 16] (fun d i wr => ∃ (k : Nat) (b : Bool) (L : List Int) (A : Option Addr) (cap : Nat), k ≤ c.frag.length ∧ i = .int .i64 k ∧ d = .bool b ∧ MInv wc w.heap.size g1 c fa fc pa pc L A cap wr ∧ L.length ≤ k + 1 ∧ (b = false → L.length ≤ k) ∧
        insF t c.frag = L ++ (if b = true then c.frag.drop k else insF t (c.frag.drop k))) (fun _ i _ => c.frag.length - (intOf i).toNat)
      case atStart => exact ⟨0, false, [], none, 0, by omega, rfl, rfl, hI, by simp, by simp, by simp⟩
      case round =>
        obtain ⟨k, b, L, A, cap, hk, rfl, rfl, hI, hL, hLb, hins⟩ := hrel
        have hcap := own_cap hI.own
        have ek : IntKind.i64.wrap ((k : Int) + 1) = ((k + 1 : Nat) : Int) := by rw [IntKind.wrap_i64]; omega
        by_cases hk1 : k < c.frag.length
        · have d1 : decide (k < c.frag.length) = true := by simpa using hk1
          have d1' : decide ((k : Int) < (c.frag.length : Int)) = true := by simp; omega
          obtain ⟨fb, fo, x, hfa, hfb, hx1, hx2⟩ := row_cell2 hI.cb.fr hk1
          subst hfa
          have HD : Hid (c.frag.drop k = x :: c.frag.drop (k + 1)) := by
            obtain ⟨h1, h2⟩ := List.getElem?_eq_some_iff.1 hx1
            rw [Hid, List.drop_eq_getElem_cons h1, h2]
          have HI := Lib.hid hins
          have HX1 := Lib.hid hx1
          clear hins hx1
          obtain ⟨k0, k1, k2, k3, k4⟩ := hI.cb.c5
          have fx := hI.fx
          cases b
          · have hL5 := hLb rfl
            clear hLb
            by_cases hxt : t ≤ x
            · have d2 : decide (t ≤ x) = true := by simpa using hxt
              by_cases hxt2 : t < x
              · have d3 : decide (t < x) = true := by simpa using hxt2
                have HJ : Hid (insF t c.frag = ((L ++ [t]) ++ [x]) ++ c.frag.drop (k + 1)) := by
                  rw [Hid, HI.out, if_neg (by simp), HD.out, insF_ge hxt2]
                  simp
                have hL2 : ((L ++ [t]) ++ [x]).length = (L ++ [t]).length + 1 := by simp
                have hL3 : (L ++ [t]).length = L.length + 1 := by simp
                clear HI HD
                go_wp2_with (at_builtin; refine wpList_app1 slT_int rfl (.tmp 84) (.tmp 86) rfl (A := A) (cc := cap) rfl ⟨cap, hI.own, .inl rfl⟩ rfl rfl one_1 hI.gr.size ?_ ?_ ?_)
                any_goals omega
                intro v4 w4 hown4 hb4 hkeep
                obtain ⟨A4, cap4, rfl, fx4, fz4, hI4⟩ := hI.app (y := t) hb4 hown4
                clear hkeep hown4
                clear k0 k1 k2 k3 k4 fx hx2 hI
                go_upto_region 17 with (fail)
                rw [← hL3] at hI4 ⊢
                generalize w4.setCell ⟨g1, 3, none⟩ (.slice A4 (L ++ [t]).length cap4) = wr at *
                clear fx4 fz4
                generalize L ++ [t] = L at *
                obtain ⟨A, hA4⟩ : ∃ A, A = A4 := ⟨_, rfl⟩
                rw [← hA4] at hI4 ⊢
                obtain ⟨cap, hc4⟩ : ∃ cap, cap = cap4 := ⟨_, rfl⟩
                rw [← hc4] at hI4 ⊢
                clear hA4 hc4 hcap
                have hL6 : L.length ≤ k + 1 := by omega
                clear hL3
                have hI := hI4
                clear hI4
                have hx2 := hI.frc HX1.out
                have hcap := own_cap hI.own
                obtain ⟨k0, k1, k2, k3, k4⟩ := hI.cb.c5
                have fx := hI.fx
                obtain ⟨wv, hwv⟩ : ∃ wv : World, wv = wr := ⟨_, rfl⟩
                rw [← hwv] at hI hx2 k0 k1 k2 k3 k4 fx
                rw [← hwv]
                clear hwv
                obtain ⟨F, hF⟩ : ∃ F : World → Prop, (∀ w', F w' ↔ (w'.cell? ⟨g1, 3, none⟩ = some (.slice A L.length cap) ∧ w'.cell? ⟨w.heap.size, 3, none⟩ = some (.slice (some ⟨fb, fo, none⟩) c.frag.length fc) ∧ w'.cell? ⟨fb, fo + k, none⟩ = some (.int .i64 x))) := ⟨_, fun _ => Iff.rfl⟩
                have hF0 : F wv := (hF wv).2 ⟨fx, k3, hx2⟩
                haveI : Nonempty (SubW F) := ⟨⟨wv, hF0⟩⟩
                have f0 : ∀ y : SubW F, y.w.cell? ⟨g1, 3, none⟩ = some (.slice A L.length cap) := fun y => ((hF y.w).1 y.h).1
                have f1 : ∀ y : SubW F, y.w.cell? ⟨w.heap.size, 3, none⟩ = some (.slice (some ⟨fb, fo, none⟩) c.frag.length fc) := fun y => ((hF y.w).1 y.h).2.1
                have f2 : ∀ y : SubW F, y.w.cell? ⟨fb, fo + k, none⟩ = some (.int .i64 x) := fun y => ((hF y.w).1 y.h).2.2
                have hFd : F wv.drew := (hF wv.drew).2 ⟨fx, k3, hx2⟩
                have hFa : ∀ o, F (wv.drew.alloc o) := fun o => (hF _).2 ⟨(World.cell?_alloc_lt _ _ _ (cell_lt fx)).trans fx, (World.cell?_alloc_lt _ _ _ (cell_lt k3)).trans k3, (World.cell?_alloc_lt _ _ _ (cell_lt hx2)).trans hx2⟩
                have HF := Lib.hid hF
                have hId := hI.drew
                clear hF fx k0 k1 k2 k3 k4 hx2
                refine wp_region_sched (C := fun w' => ∃ y : SubW F, w' = y.w) [(0, true), (1, true), (2, true), (3, true), (4, true), (5, true), (6, true), (7, false), (8, false), (9, true), (10, false)] (by kernel_rfl) (by kernel_rfl) ⟨⟨wv.drew, hFd⟩, rfl⟩ ?_
                refine sched_q (by rfl) (by rfl) ?_
                intro K hK
                go_big_quiet_op
                go_big_quiet_on
                refine sched_q (by rfl) (by rfl) ?_
                intro K hK
                go_big_quiet_op
                go_big_quiet_on
                refine sched_q (by rfl) (by rfl) ?_
                intro K hK
                go_big_quiet_op
                go_big_quiet_on
                refine sched_q (by rfl) (by rfl) ?_
                intro K hK
                go_big_quiet_op
                go_big_quiet_on
                refine sched_q (by rfl) (by rfl) ?_
                intro K hK
                go_big_quiet_op
                go_big_quiet_on
                refine sched_q (by rfl) (by rfl) ?_
                intro K hK
                go_big_quiet_op
                go_big_quiet_on
                refine sched_q (by rfl) (by rfl) ?_
                intro K hK
                go_big_quiet_op
                go_big_quiet_on
                refine sched_c (by rfl) (by rfl) ?_
                intro K' hK'
                go_wp2
                refine hK' _ _ ⟨.inr ⟨⟨_, hFa _⟩, rfl⟩, ?_⟩
                clear hK' K'
                refine sched_c (by rfl) (by rfl) ?_
                intro K' hK'
                refine wpList_app1 slT_int rfl (.tmp 90) (.tmp 96) rfl (A := A) (cc := cap) rfl ⟨cap, hId.own, .inl rfl⟩ rfl rfl one_1 hId.gr.size ?_ ?_ ?_
                · omega
                · omega
                intro v4 w4 hown4 hb4 hkeep
                obtain ⟨A4, cap4, rfl, fx4, fz4, hI4⟩ := hId.app (y := x) hb4 hown4
                have hF4 : F w4 := (HF.out w4).2 ⟨fx4, (hb4.cell (p := ⟨w.heap.size, 3, none⟩) (Nat.lt_trans hI.lo hI.hi)).trans (HF.out _ |>.1 hFd).2.1, (hb4.cell (p := ⟨fb, fo + k, none⟩) (Nat.lt_trans hfb (Nat.lt_trans hI.lo hI.hi))).trans (HF.out _ |>.1 hFd).2.2⟩
                clear hkeep hown4
                go_wp2
                refine hK' _ _ ⟨.inr ⟨⟨_, hF4⟩, rfl⟩, ?_⟩
                clear hK' K'
                refine sched_q (by rfl) (by rfl) ?_
                intro K hK
                go_big_quiet_op
                go_big_quiet_on
                refine sched_c (by rfl) (by rfl) ?_
                intro K' hK'
                go_wp2
                refine hK' _ _ ⟨(by first | exact .inl rfl | exact .inl trivial), ?_⟩
                clear hK' K'
                refine sched_nil ?_
                clear f0 f1 f2 hFd hFa hF0 this HF hF4 F fx4 fz4 hId
                go_wp2
                go_roundw
                case rel => exact ⟨k + 1, true, L ++ [x], A4, cap4, by omega, by go_num, rfl, hI4, by omega, by simp; try omega, by rw [if_pos rfl]; exact HJ.out⟩
                case measure => (simp [intOf]; try omega)
              · have d3 : decide (t < x) = false := by simpa using hxt2
                have HJ : Hid (insF t c.frag = (L ++ [x]) ++ c.frag.drop (k + 1)) := by
                  rw [Hid, HI.out, if_neg (by simp), HD.out, insF_at hxt hxt2]
                  simp
                have hL2 : (L ++ [x]).length = L.length + 1 := by simp
                clear HI HD
                go_upto_region 17 with (fail)
                obtain ⟨wv, hwv⟩ : ∃ wv : World, wv = wr := ⟨_, rfl⟩
                rw [← hwv] at hI hx2 k0 k1 k2 k3 k4 fx
                rw [← hwv]
                clear hwv
                obtain ⟨F, hF⟩ : ∃ F : World → Prop, (∀ w', F w' ↔ (w'.cell? ⟨g1, 3, none⟩ = some (.slice A L.length cap) ∧ w'.cell? ⟨w.heap.size, 3, none⟩ = some (.slice (some ⟨fb, fo, none⟩) c.frag.length fc) ∧ w'.cell? ⟨fb, fo + k, none⟩ = some (.int .i64 x))) := ⟨_, fun _ => Iff.rfl⟩
                have hF0 : F wv := (hF wv).2 ⟨fx, k3, hx2⟩
                haveI : Nonempty (SubW F) := ⟨⟨wv, hF0⟩⟩
                have f0 : ∀ y : SubW F, y.w.cell? ⟨g1, 3, none⟩ = some (.slice A L.length cap) := fun y => ((hF y.w).1 y.h).1
                have f1 : ∀ y : SubW F, y.w.cell? ⟨w.heap.size, 3, none⟩ = some (.slice (some ⟨fb, fo, none⟩) c.frag.length fc) := fun y => ((hF y.w).1 y.h).2.1
                have f2 : ∀ y : SubW F, y.w.cell? ⟨fb, fo + k, none⟩ = some (.int .i64 x) := fun y => ((hF y.w).1 y.h).2.2
                have hFd : F wv.drew := (hF wv.drew).2 ⟨fx, k3, hx2⟩
                have hFa : ∀ o, F (wv.drew.alloc o) := fun o => (hF _).2 ⟨(World.cell?_alloc_lt _ _ _ (cell_lt fx)).trans fx, (World.cell?_alloc_lt _ _ _ (cell_lt k3)).trans k3, (World.cell?_alloc_lt _ _ _ (cell_lt hx2)).trans hx2⟩
                have HF := Lib.hid hF
                have hId := hI.drew
                clear hF fx k0 k1 k2 k3 k4 hx2
                refine wp_region_sched (C := fun w' => ∃ y : SubW F, w' = y.w) [(0, true), (1, true), (2, true), (3, true), (4, true), (5, true), (6, true), (7, false), (8, false), (9, true), (10, false)] (by kernel_rfl) (by kernel_rfl) ⟨⟨wv.drew, hFd⟩, rfl⟩ ?_
                refine sched_q (by rfl) (by rfl) ?_
                intro K hK
                go_big_quiet_op
                go_big_quiet_on
                refine sched_q (by rfl) (by rfl) ?_
                intro K hK
                go_big_quiet_op
                go_big_quiet_on
                refine sched_q (by rfl) (by rfl) ?_
                intro K hK
                go_big_quiet_op
                go_big_quiet_on
                refine sched_q (by rfl) (by rfl) ?_
                intro K hK
                go_big_quiet_op
                go_big_quiet_on
                refine sched_q (by rfl) (by rfl) ?_
                intro K hK
                go_big_quiet_op
                go_big_quiet_on
                refine sched_q (by rfl) (by rfl) ?_
                intro K hK
                go_big_quiet_op
                go_big_quiet_on
                refine sched_q (by rfl) (by rfl) ?_
                intro K hK
                go_big_quiet_op
                go_big_quiet_on
                refine sched_c (by rfl) (by rfl) ?_
                intro K' hK'
                go_wp2
                refine hK' _ _ ⟨.inr ⟨⟨_, hFa _⟩, rfl⟩, ?_⟩
                clear hK' K'
                refine sched_c (by rfl) (by rfl) ?_
                intro K' hK'
                refine wpList_app1 slT_int rfl (.tmp 90) (.tmp 96) rfl (A := A) (cc := cap) rfl ⟨cap, hId.own, .inl rfl⟩ rfl rfl one_1 hId.gr.size ?_ ?_ ?_
                · omega
                · omega
                intro v4 w4 hown4 hb4 hkeep
                obtain ⟨A4, cap4, rfl, fx4, fz4, hI4⟩ := hId.app (y := x) hb4 hown4
                have hF4 : F w4 := (HF.out w4).2 ⟨fx4, (hb4.cell (p := ⟨w.heap.size, 3, none⟩) (Nat.lt_trans hI.lo hI.hi)).trans (HF.out _ |>.1 hFd).2.1, (hb4.cell (p := ⟨fb, fo + k, none⟩) (Nat.lt_trans hfb (Nat.lt_trans hI.lo hI.hi))).trans (HF.out _ |>.1 hFd).2.2⟩
                clear hkeep hown4
                go_wp2
                refine hK' _ _ ⟨.inr ⟨⟨_, hF4⟩, rfl⟩, ?_⟩
                clear hK' K'
                refine sched_q (by rfl) (by rfl) ?_
                intro K hK
                go_big_quiet_op
                go_big_quiet_on
                refine sched_c (by rfl) (by rfl) ?_
                intro K' hK'
                go_wp2
                refine hK' _ _ ⟨(by first | exact .inl rfl | exact .inl trivial), ?_⟩
                clear hK' K'
                refine sched_nil ?_
                clear f0 f1 f2 hFd hFa hF0 this HF hF4 F fx4 fz4 hId
                go_wp2
                go_roundw
                case rel => exact ⟨k + 1, true, L ++ [x], A4, cap4, by omega, by go_num, rfl, hI4, by omega, by simp; try omega, by rw [if_pos rfl]; exact HJ.out⟩
                case measure => (simp [intOf]; try omega)
            · have d2 : decide (t ≤ x) = false := by simpa using hxt
              have HJ : Hid (insF t c.frag = (L ++ [x]) ++ insF t (c.frag.drop (k + 1))) := by
                rw [Hid, HI.out, if_neg (by simp), HD.out, insF_lt hxt]
                simp
              have hL2 : (L ++ [x]).length = L.length + 1 := by simp
              clear HI HD
              go_upto_region 17 with (fail)
              obtain ⟨wv, hwv⟩ : ∃ wv : World, wv = wr := ⟨_, rfl⟩
              rw [← hwv] at hI hx2 k0 k1 k2 k3 k4 fx
              rw [← hwv]
              clear hwv
              obtain ⟨F, hF⟩ : ∃ F : World → Prop, (∀ w', F w' ↔ (w'.cell? ⟨g1, 3, none⟩ = some (.slice A L.length cap) ∧ w'.cell? ⟨w.heap.size, 3, none⟩ = some (.slice (some ⟨fb, fo, none⟩) c.frag.length fc) ∧ w'.cell? ⟨fb, fo + k, none⟩ = some (.int .i64 x))) := ⟨_, fun _ => Iff.rfl⟩
              have hF0 : F wv := (hF wv).2 ⟨fx, k3, hx2⟩
              haveI : Nonempty (SubW F) := ⟨⟨wv, hF0⟩⟩
              have f0 : ∀ y : SubW F, y.w.cell? ⟨g1, 3, none⟩ = some (.slice A L.length cap) := fun y => ((hF y.w).1 y.h).1
              have f1 : ∀ y : SubW F, y.w.cell? ⟨w.heap.size, 3, none⟩ = some (.slice (some ⟨fb, fo, none⟩) c.frag.length fc) := fun y => ((hF y.w).1 y.h).2.1
              have f2 : ∀ y : SubW F, y.w.cell? ⟨fb, fo + k, none⟩ = some (.int .i64 x) := fun y => ((hF y.w).1 y.h).2.2
              have hFd : F wv.drew := (hF wv.drew).2 ⟨fx, k3, hx2⟩
              have hFa : ∀ o, F (wv.drew.alloc o) := fun o => (hF _).2 ⟨(World.cell?_alloc_lt _ _ _ (cell_lt fx)).trans fx, (World.cell?_alloc_lt _ _ _ (cell_lt k3)).trans k3, (World.cell?_alloc_lt _ _ _ (cell_lt hx2)).trans hx2⟩
              have HF := Lib.hid hF
              have hId := hI.drew
              clear hF fx k0 k1 k2 k3 k4 hx2
              refine wp_region_sched (C := fun w' => ∃ y : SubW F, w' = y.w) [(0, true), (1, true), (2, true), (3, true), (4, true), (5, true), (6, true), (7, false), (8, false), (9, true), (10, false)] (by kernel_rfl) (by kernel_rfl) ⟨⟨wv.drew, hFd⟩, rfl⟩ ?_
              refine sched_q (by rfl) (by rfl) ?_
              intro K hK
              go_big_quiet_op
              go_big_quiet_on
              refine sched_q (by rfl) (by rfl) ?_
              intro K hK
              go_big_quiet_op
              go_big_quiet_on
              refine sched_q (by rfl) (by rfl) ?_
              intro K hK
              go_big_quiet_op
              go_big_quiet_on
              refine sched_q (by rfl) (by rfl) ?_
              intro K hK
              go_big_quiet_op
              go_big_quiet_on
              refine sched_q (by rfl) (by rfl) ?_
              intro K hK
              go_big_quiet_op
              go_big_quiet_on
              refine sched_q (by rfl) (by rfl) ?_
              intro K hK
              go_big_quiet_op
              go_big_quiet_on
              refine sched_q (by rfl) (by rfl) ?_
              intro K hK
              go_big_quiet_op
              go_big_quiet_on
              refine sched_c (by rfl) (by rfl) ?_
              intro K' hK'
              go_wp2
              refine hK' _ _ ⟨.inr ⟨⟨_, hFa _⟩, rfl⟩, ?_⟩
              clear hK' K'
              refine sched_c (by rfl) (by rfl) ?_
              intro K' hK'
              refine wpList_app1 slT_int rfl (.tmp 90) (.tmp 96) rfl (A := A) (cc := cap) rfl ⟨cap, hId.own, .inl rfl⟩ rfl rfl one_1 hId.gr.size ?_ ?_ ?_
              · omega
              · omega
              intro v4 w4 hown4 hb4 hkeep
              obtain ⟨A4, cap4, rfl, fx4, fz4, hI4⟩ := hId.app (y := x) hb4 hown4
              have hF4 : F w4 := (HF.out w4).2 ⟨fx4, (hb4.cell (p := ⟨w.heap.size, 3, none⟩) (Nat.lt_trans hI.lo hI.hi)).trans (HF.out _ |>.1 hFd).2.1, (hb4.cell (p := ⟨fb, fo + k, none⟩) (Nat.lt_trans hfb (Nat.lt_trans hI.lo hI.hi))).trans (HF.out _ |>.1 hFd).2.2⟩
              clear hkeep hown4
              go_wp2
              refine hK' _ _ ⟨.inr ⟨⟨_, hF4⟩, rfl⟩, ?_⟩
              clear hK' K'
              refine sched_q (by rfl) (by rfl) ?_
              intro K hK
              go_big_quiet_op
              go_big_quiet_on
              refine sched_c (by rfl) (by rfl) ?_
              intro K' hK'
              go_wp2
              refine hK' _ _ ⟨(by first | exact .inl rfl | exact .inl trivial), ?_⟩
              clear hK' K'
              refine sched_nil ?_
              clear f0 f1 f2 hFd hFa hF0 this HF hF4 F fx4 fz4 hId
              go_wp2
              go_roundw
              case rel => exact ⟨k + 1, false, L ++ [x], A4, cap4, by omega, by go_num, rfl, hI4, by omega, by simp; try omega, by rw [if_neg (by simp)]; exact HJ.out⟩
              case measure => (simp [intOf]; try omega)
          · have HJ : Hid (insF t c.frag = (L ++ [x]) ++ c.frag.drop (k + 1)) := by
              rw [Hid, HI.out, if_pos rfl, HD.out]
              simp
            have hL2 : (L ++ [x]).length = L.length + 1 := by simp
            clear HI HD
            go_upto_region 17 with (fail)
            obtain ⟨wv, hwv⟩ : ∃ wv : World, wv = wr := ⟨_, rfl⟩
            rw [← hwv] at hI hx2 k0 k1 k2 k3 k4 fx
            rw [← hwv]
            clear hwv
            obtain ⟨F, hF⟩ : ∃ F : World → Prop, (∀ w', F w' ↔ (w'.cell? ⟨g1, 3, none⟩ = some (.slice A L.length cap) ∧ w'.cell? ⟨w.heap.size, 3, none⟩ = some (.slice (some ⟨fb, fo, none⟩) c.frag.length fc) ∧ w'.cell? ⟨fb, fo + k, none⟩ = some (.int .i64 x))) := ⟨_, fun _ => Iff.rfl⟩
            have hF0 : F wv := (hF wv).2 ⟨fx, k3, hx2⟩
            haveI : Nonempty (SubW F) := ⟨⟨wv, hF0⟩⟩
            have f0 : ∀ y : SubW F, y.w.cell? ⟨g1, 3, none⟩ = some (.slice A L.length cap) := fun y => ((hF y.w).1 y.h).1
            have f1 : ∀ y : SubW F, y.w.cell? ⟨w.heap.size, 3, none⟩ = some (.slice (some ⟨fb, fo, none⟩) c.frag.length fc) := fun y => ((hF y.w).1 y.h).2.1
            have f2 : ∀ y : SubW F, y.w.cell? ⟨fb, fo + k, none⟩ = some (.int .i64 x) := fun y => ((hF y.w).1 y.h).2.2
            have hFd : F wv.drew := (hF wv.drew).2 ⟨fx, k3, hx2⟩
            have hFa : ∀ o, F (wv.drew.alloc o) := fun o => (hF _).2 ⟨(World.cell?_alloc_lt _ _ _ (cell_lt fx)).trans fx, (World.cell?_alloc_lt _ _ _ (cell_lt k3)).trans k3, (World.cell?_alloc_lt _ _ _ (cell_lt hx2)).trans hx2⟩
            have HF := Lib.hid hF
            have hId := hI.drew
            clear hF fx k0 k1 k2 k3 k4 hx2
            refine wp_region_sched (C := fun w' => ∃ y : SubW F, w' = y.w) [(0, true), (1, true), (2, true), (3, true), (4, true), (5, true), (6, true), (7, false), (8, false), (9, true), (10, false)] (by kernel_rfl) (by kernel_rfl) ⟨⟨wv.drew, hFd⟩, rfl⟩ ?_
            refine sched_q (by rfl) (by rfl) ?_
            intro K hK
            go_big_quiet_op
            go_big_quiet_on
            refine sched_q (by rfl) (by rfl) ?_
            intro K hK
            go_big_quiet_op
            go_big_quiet_on
            refine sched_q (by rfl) (by rfl) ?_
            intro K hK
            go_big_quiet_op
            go_big_quiet_on
            refine sched_q (by rfl) (by rfl) ?_
            intro K hK
            go_big_quiet_op
            go_big_quiet_on
            refine sched_q (by rfl) (by rfl) ?_
            intro K hK
            go_big_quiet_op
            go_big_quiet_on
            refine sched_q (by rfl) (by rfl) ?_
            intro K hK
            go_big_quiet_op
            go_big_quiet_on
            refine sched_q (by rfl) (by rfl) ?_
            intro K hK
            go_big_quiet_op
            go_big_quiet_on
            refine sched_c (by rfl) (by rfl) ?_
            intro K' hK'
            go_wp2
            refine hK' _ _ ⟨.inr ⟨⟨_, hFa _⟩, rfl⟩, ?_⟩
            clear hK' K'
            refine sched_c (by rfl) (by rfl) ?_
            intro K' hK'
            refine wpList_app1 slT_int rfl (.tmp 90) (.tmp 96) rfl (A := A) (cc := cap) rfl ⟨cap, hId.own, .inl rfl⟩ rfl rfl one_1 hId.gr.size ?_ ?_ ?_
            · omega
            · omega
            intro v4 w4 hown4 hb4 hkeep
            obtain ⟨A4, cap4, rfl, fx4, fz4, hI4⟩ := hId.app (y := x) hb4 hown4
            have hF4 : F w4 := (HF.out w4).2 ⟨fx4, (hb4.cell (p := ⟨w.heap.size, 3, none⟩) (Nat.lt_trans hI.lo hI.hi)).trans (HF.out _ |>.1 hFd).2.1, (hb4.cell (p := ⟨fb, fo + k, none⟩) (Nat.lt_trans hfb (Nat.lt_trans hI.lo hI.hi))).trans (HF.out _ |>.1 hFd).2.2⟩
            clear hkeep hown4
            go_wp2
            refine hK' _ _ ⟨.inr ⟨⟨_, hF4⟩, rfl⟩, ?_⟩
            clear hK' K'
            refine sched_q (by rfl) (by rfl) ?_
            intro K hK
            go_big_quiet_op
            go_big_quiet_on
            refine sched_c (by rfl) (by rfl) ?_
            intro K' hK'
            go_wp2
            refine hK' _ _ ⟨(by first | exact .inl rfl | exact .inl trivial), ?_⟩
            clear hK' K'
            refine sched_nil ?_
            clear f0 f1 f2 hFd hFa hF0 this HF hF4 F fx4 fz4 hId
            go_wp2
            go_roundw
            case rel => exact ⟨k + 1, true, L ++ [x], A4, cap4, by omega, by go_num, rfl, hI4, by omega, by simp; try omega, by rw [if_pos rfl]; exact HJ.out⟩
            case measure => (simp [intOf]; try omega)
        · have d1 : decide (k < c.frag.length) = false := by simpa using hk1
          have d1' : decide ((k : Int) < (c.frag.length : Int)) = false := by simp; omega
          obtain rfl : k = c.frag.length := by omega
          rw [List.drop_length] at hins
          obtain ⟨k0, k1, k2, k3, k4⟩ := hI.cb.c5
          go_upto_if 100 with (fail)
          go_cut [] from 243 (fun wx => ∃ A cap, MInv wc w.heap.size g1 c fa fc pa pc (insF t c.frag) A cap wx)
          case first =>
            have HI := Lib.hid hins
            clear hins
            cases b
            · have HJ : Hid (insF t c.frag = L ++ [t]) := HI.out
              have fx := hI.fx
              go_wp2_with (at_builtin; refine wpList_app1 slT_int rfl (.tmp 102) (.tmp 104) rfl (A := A) (cc := cap) rfl ⟨cap, hI.own, .inl rfl⟩ rfl rfl one_1 hI.gr.size ?_ ?_ ?_)
              any_goals omega
              intro v4 w4 hown4 hb4 hkeep
              obtain ⟨A4, cap4, rfl, fx4, fz4, hI4⟩ := hI.app (y := t) hb4 hown4
              clear hkeep hown4
              go_wp2
              go_meet
              case rel =>
                rw [HJ.out]
                exact ⟨A4, cap4, hI4⟩
            · have HJ : Hid (insF t c.frag = L) := by rw [Hid, HI.out, if_pos rfl, List.append_nil]
              go_wp2
              go_meet
              case rel =>
                rw [HJ.out]
                exact ⟨A, cap, hI⟩
          case rest =>
            clear hins hcap hL hLb hI k0 k1 k2 k3 k4 hk ek hk1 d1 d1'
            obtain ⟨A, cap, hI⟩ := hcut
            obtain ⟨we, hwe⟩ : ∃ we : World, we = wc := ⟨_, rfl⟩
            rw [← hwe] at hI ⊢
            clear hwe wc
            have B1 := hI.x
            replace B2 := B2.grown hI.gr (by simp; omega)
            replace B3 := B3.grown hI.gr (by simp; omega)
            replace hM := hM.grown hI.gr (by simp; omega)
            have hW4 : Hid (∀ j, j ≤ tK c → we.cell? ⟨ob, oo + j, none⟩ = some (.int .i64 (mostK c j))) := fun j hj => (World.cell?_of_block (hI.gr.block ob hob3 (by simp; omega))).trans (hW3.out j hj)
            have hob4 : ob < we.heap.size := Nat.lt_of_lt_of_le hob3 hI.gr.size
            replace hB := hB.grown hI.gr hB.size (fun k hk => by injection hk; omega)
            have hfr := hI.own
            have q6 : g1 < we.heap.size := B1.lt
            replace hC := hI.cb
            clear hI hW3 hob3
            obtain ⟨m, hm⟩ : ∃ m : Int, less % 8 = m := ⟨_, rfl⟩
            have m0 : 0 ≤ m := by rw [← hm]; exact Int.emod_nonneg _ (by omega)
            have m1 : m < 8 := by rw [← hm]; exact Int.emod_lt_of_pos _ (by omega)
            have m2 : less.tmod 8 = m := by rw [Int.tmod_eq_emod_of_nonneg (by omega)]; exact hm
            have m3 : IntKind.i64.wrap m = m := by rw [IntKind.wrap_i64]; omega
            have m4 : IntKind.i64.wrap less = less := by rw [IntKind.wrap_i64]; omega
            have m5 : IntKind.i64.wrap (c.long - m) = c.long - m := by rw [IntKind.wrap_i64]; omega
            clear hm
            have hfz := fun i => B2.frozen i
            obtain ⟨x0, x1, x2, x3, x4⟩ := B2.c5
            obtain ⟨k0, k1, k2, k3, k4⟩ := hC.c5
            go_upto_region 21 with (fail)
            have y1 := Blk.set_ B2 1 (.int .i64 (max 1 (c.long - m)))
            have B2' : Blk (we.setCell ⟨g2, 1, none⟩ (.int .i64 (max 1 (c.long - m)))) g2 25 #[.int .i64 c.turns, .int .i64 (max 1 (c.long - m)), .int .i64 c.plays, .slice fa c.frag.length fc, .slice pa c.pas.length pc] := by simpa using y1
            replace B1 := B1.far (p := ⟨g2, 1, none⟩) (by show g1 ≠ g2; omega) (.int .i64 (max 1 (c.long - m)))
            replace B3 := B3.far (p := ⟨g2, 1, none⟩) (by show g3 ≠ g2; omega) (.int .i64 (max 1 (c.long - m)))
            replace hM := hM.far (p := ⟨g2, 1, none⟩) (by show w.heap.size + 1 ≠ g2; omega) (.int .i64 (max 1 (c.long - m)))
            have hsz : (we.setCell ⟨g2, 1, none⟩ (.int .i64 (max 1 (c.long - m)))).heap.size = we.heap.size := by simp [World.setCell]
            replace hW4 : Hid (∀ j, j ≤ tK c → (we.setCell ⟨g2, 1, none⟩ (.int .i64 (max 1 (c.long - m)))).cell? ⟨ob, oo + j, none⟩ = some (.int .i64 (mostK c j))) := fun j hj => (World.cell?_of_block (Below.heap_setCell we ⟨g2, 1, none⟩ _ ob (by show ob ≠ g2; omega))).trans (hW4.out j hj)
            replace hB := hB.setCell (p := ⟨g2, 1, none⟩) (by show w.heap.size ≤ g2; omega) (.int .i64 (max 1 (c.long - m)))
            replace hC := hC.belowB ((Below.refl (w.heap.size + 1) we).setCell (p := ⟨g2, 1, none⟩) (by show w.heap.size + 1 ≤ g2; omega) (.int .i64 (max 1 (c.long - m)))) (Nat.lt_succ_self _)
            replace hfr := hfr.kept (grown_setCell (g := g2) (o := 1) (.int .i64 (max 1 (c.long - m)))) (.inr fun e => own_blk_ne hfr B2 (by decide) e.symm)
            rw [← hsz] at hob4 q6
            clear B2 y1 hfz x0 x1 x2 x3 x4 k0 k1 k2 k3 k4
            generalize we.setCell ⟨g2, 1, none⟩ (.int .i64 (max 1 (c.long - m))) = wf at *
            clear hsz
            have hmq := hM.cell 0
            have hmr := hM.cell 1
            have hms := hM.cell 2
            simp at hmq hmr hms
            obtain ⟨-, -, -, -, k4⟩ := hC.c5
            go_cut [] from 243 (fun wx => ∃ A' cap', Blk wx g3 25 #[.int .i64 c.turns, .int .i64 c.long, .int .i64 c.plays, .slice fa c.frag.length fc, .slice A' (c.pas.length + 1) cap'] ∧
              wx.ownsRow wf.heap.size 49 3 (.slice A' (c.pas.length + 1) cap') (c.pas.length + 1) ((c.pas ++ [mp]).flatMap (cellsOf 3 pcell)) ∧ wf.grownBy wx (some g3))
            case first =>
              obtain ⟨F, hF⟩ : ∃ F : World → Prop, (∀ w', F w' ↔ (w'.cell? ⟨w.heap.size, 4, none⟩ = some (.slice pa c.pas.length pc) ∧ w'.cell? ⟨w.heap.size + 1, 0, none⟩ = some (.int .i64 mp.a) ∧ w'.cell? ⟨w.heap.size + 1, 1, none⟩ = some (.int .i64 mp.b) ∧ w'.cell? ⟨w.heap.size + 1, 2, none⟩ = some (.int .i64 mp.w))) := ⟨_, fun _ => Iff.rfl⟩
              have hF0 : F wf := (hF wf).2 ⟨k4, hmq, hmr, hms⟩
              haveI : Nonempty (SubW F) := ⟨⟨wf, hF0⟩⟩
              have f0 : ∀ y : SubW F, y.w.cell? ⟨w.heap.size, 4, none⟩ = some (.slice pa c.pas.length pc) := fun y => ((hF y.w).1 y.h).1
              have f1 : ∀ y : SubW F, y.w.cell? ⟨w.heap.size + 1, 0, none⟩ = some (.int .i64 mp.a) := fun y => ((hF y.w).1 y.h).2.1
              have f2 : ∀ y : SubW F, y.w.cell? ⟨w.heap.size + 1, 1, none⟩ = some (.int .i64 mp.b) := fun y => ((hF y.w).1 y.h).2.2.1
              have f3 : ∀ y : SubW F, y.w.cell? ⟨w.heap.size + 1, 2, none⟩ = some (.int .i64 mp.w) := fun y => ((hF y.w).1 y.h).2.2.2
              have hn1 := hC.blk.lt
              have hn2 := hM.lt
              have hFB : Hid (∀ {w' : World}, Below wf.heap.size wf w' → F w') := fun {w'} hb => (hF w').2 ⟨(hb.cell (p := ⟨w.heap.size, 4, none⟩) hn1).trans k4, (hb.cell (p := ⟨w.heap.size + 1, 0, none⟩) hn2).trans hmq, (hb.cell (p := ⟨w.heap.size + 1, 1, none⟩) hn2).trans hmr, (hb.cell (p := ⟨w.heap.size + 1, 2, none⟩) hn2).trans hms⟩
              have HF := Lib.hid hF
              clear hF k4 hmq hmr hms
              refine ways_start 9 (fun w' => ∃ y : SubW F, w' = y.w) (by rfl) (by kernel_rfl) ?_
              have hxd : Below wf.heap.size wf wf.drew := (Below.refl wf.heap.size wf).drew
              generalize wf.drew = wd at *
              refine ways_q 1 (by rfl) (by rfl) (by kernel_rfl) (by kernel_rfl) (by kernel_rfl) (by rfl) ⟨⟨wd, hFB.out hxd⟩, rfl⟩ ?_
              intro K hK
              go_big_quiet_op
              go_big_quiet_on
              refine ways_q 2 (by rfl) (by rfl) (by kernel_rfl) (by kernel_rfl) (by kernel_rfl) (by rfl) ⟨⟨wd, hFB.out hxd⟩, rfl⟩ ?_
              intro K hK
              go_big_quiet_op
              go_big_quiet_on
              refine ways_q 4 (by rfl) (by rfl) (by kernel_rfl) (by kernel_rfl) (by kernel_rfl) (by rfl) ⟨⟨wd, hFB.out hxd⟩, rfl⟩ ?_
              intro K hK
              go_big_quiet_op
              go_big_quiet_on
              have HPS : Hid (∀ {w' : World}, Below wf.heap.size wf w' → Arr w' w.heap.size 3 (.slice pa c.pas.length pc) c.pas pcell) := fun {w'} hb => hC.ps.below (hb.mono (Nat.le_of_lt hn1))
              have hn12 : c.pas.length ≤ 12 := ((valid_iff c).1 H0.out).2.2.1
              refine ways_2 0 5 (by kernel_rfl) ?_ ?_
              · refine ⟨_, _, (by rfl), (by rfl), ?_⟩
                intro K' hK'
                go_wp2
                have hbb := (Below.refl (wd).heap.size wd).alloc (Nat.le_refl _) (.cells #[] 49)
                have hxe := (hxd).trans (hbb.mono (hxd).size)
                have hR := own_empty wd wf.heap.size 49 3 (hxd).size
                have l_R := (Blk.new wd 49 #[]).lt
                skip
                generalize (wd).alloc (.cells #[] 49) = we at *
                refine hK' _ _ ⟨⟨⟨we, hFB.out hxe⟩, rfl⟩, ?_⟩
                clear hK' K' hbb
                refine ways_2 3 5 (by kernel_rfl) ?_ ?_
                · refine ⟨_, _, (by rfl), (by rfl), ?_⟩
                  intro K' hK'
                  refine wpList_appArr slT_pas rfl (.tmp 115) (.tmp 117) rfl rfl hR rfl (HPS.out hxe) (one_pas c.pas) (hxe).size ?_ ?_ ?_
                  · have := hn12; omega
                  · omega
                  intro v3 wg hR3 hb3 hgr3
                  have hxg := (hxe).trans hb3
                  rw [Nat.zero_add, List.nil_append] at hR3
                  obtain ⟨A3, cap3, rfl⟩ := own_form hR3
                  skip
                  go_wp2
                  refine hK' _ _ ⟨⟨⟨wg, hFB.out hxg⟩, rfl⟩, ?_⟩
                  clear hK' K'
                  refine ways_1 5 (by kernel_rfl) ?_
                  refine ⟨_, _, (by rfl), (by rfl), ?_⟩
                  intro K' hK'
                  go_wp2
                  have hbb := (Below.refl (wg).heap.size wg).alloc (Nat.le_refl _) (.cells #[.int .i64 mp.a, .int .i64 mp.b, .int .i64 mp.w] 49)
                  have hxh := (hxg).trans (hbb.mono (hxg).size)
                  have hP := Blk.new wg 49 #[.int .i64 mp.a, .int .i64 mp.b, .int .i64 mp.w]
                  have l_P := hP.lt
                  (replace hR3 := own_call hR3 hbb)
                  generalize (wg).alloc (.cells #[.int .i64 mp.a, .int .i64 mp.b, .int .i64 mp.w] 49) = wh at *
                  refine hK' _ _ ⟨⟨⟨wh, hFB.out hxh⟩, rfl⟩, ?_⟩
                  clear hK' K' hbb
                  refine ways_1 6 (by kernel_rfl) ?_
                  refine ⟨_, _, (by rfl), (by rfl), ?_⟩
                  intro K' hK'
                  refine wpList_appArr slT_pas rfl (.tmp 118) (.tmp 120) rfl rfl hR3 rfl (Arr.one3 hP) (one_pas [mp]) (hxh).size ?_ ?_ ?_
                  · have := hn12; simp; omega
                  · omega
                  intro v6 wi hR6 hb6 hgr6
                  have hxi := (hxh).trans hb6
                  rw [show c.pas.length + [mp].length = c.pas.length + 1 from rfl, ← List.flatMap_append] at hR6
                  obtain ⟨A6, cap6, rfl⟩ := own_form hR6
                  go_wp2
                  refine hK' _ _ ⟨⟨⟨wi, hFB.out hxi⟩, rfl⟩, ?_⟩
                  clear hK' K'
                  refine ways_q 7 (by rfl) (by rfl) (by kernel_rfl) (by kernel_rfl) (by kernel_rfl) (by rfl) ⟨⟨wi, hFB.out hxi⟩, rfl⟩ ?_
                  intro K hK
                  go_big_quiet_op
                  go_big_quiet_on
                  have B7 := B3.call hxi
                  have hfz := fun i => B7.frozen i
                  obtain ⟨x0, x1, x2, x3, x4⟩ := B7.c5
                  refine ways_1 8 (by kernel_rfl) ?_
                  refine ⟨_, _, (by rfl), (by rfl), ?_⟩
                  intro K' hK'
                  go_wp2
                  have hF9 : F ((wi).setCell ⟨g3, 4, none⟩ (.slice A6 (c.pas.length + 1) cap6)) := by
                    have h9 := (HF.out wi).1 (hFB.out hxi)
                    exact (HF.out _).2 ⟨(World.cell?_of_block (Below.heap_setCell wi ⟨g3, 4, none⟩ _ w.heap.size (by show w.heap.size ≠ g3; omega))).trans h9.1, (World.cell?_of_block (Below.heap_setCell wi ⟨g3, 4, none⟩ _ (w.heap.size + 1) (by show w.heap.size + 1 ≠ g3; omega))).trans h9.2.1, (World.cell?_of_block (Below.heap_setCell wi ⟨g3, 4, none⟩ _ (w.heap.size + 1) (by show w.heap.size + 1 ≠ g3; omega))).trans h9.2.2.1, (World.cell?_of_block (Below.heap_setCell wi ⟨g3, 4, none⟩ _ (w.heap.size + 1) (by show w.heap.size + 1 ≠ g3; omega))).trans h9.2.2.2⟩
                  refine hK' _ _ ⟨⟨⟨_, hF9⟩, rfl⟩, ?_⟩
                  clear hK' K'
                  refine ways_end (by kernel_rfl) ?_
                  go_wp2
                  go_meet
                  case rel =>
                    have B9 := B7.set_ 4 (.slice A6 (c.pas.length + 1) cap6)
                    exact ⟨A6, cap6, by simpa using B9, hR6.kept (grown_setCell _) (.inr fun e => own_blk_ne hR6 B7 (by decide) e.symm), grown_trans' (grown_call hxi _) (grown_setCell _)⟩
                · refine ⟨_, _, (by rfl), (by rfl), ?_⟩
                  intro K' hK'
                  go_wp2
                  have hbb := (Below.refl (we).heap.size we).alloc (Nat.le_refl _) (.cells #[.int .i64 mp.a, .int .i64 mp.b, .int .i64 mp.w] 49)
                  have hxg := (hxe).trans (hbb.mono (hxe).size)
                  have hP := Blk.new we 49 #[.int .i64 mp.a, .int .i64 mp.b, .int .i64 mp.w]
                  have l_P := hP.lt
                  (replace hR := own_call hR hbb)
                  generalize (we).alloc (.cells #[.int .i64 mp.a, .int .i64 mp.b, .int .i64 mp.w] 49) = wg at *
                  refine hK' _ _ ⟨⟨⟨wg, hFB.out hxg⟩, rfl⟩, ?_⟩
                  clear hK' K' hbb
                  refine ways_1 3 (by kernel_rfl) ?_
                  refine ⟨_, _, (by rfl), (by rfl), ?_⟩
                  intro K' hK'
                  refine wpList_appArr slT_pas rfl (.tmp 115) (.tmp 117) rfl rfl hR rfl (HPS.out hxg) (one_pas c.pas) (hxg).size ?_ ?_ ?_
                  · have := hn12; omega
                  · omega
                  intro v3 wh hR3 hb3 hgr3
                  have hxh := (hxg).trans hb3
                  rw [Nat.zero_add, List.nil_append] at hR3
                  obtain ⟨A3, cap3, rfl⟩ := own_form hR3
                  (replace hP := hP.grown hgr3 (ne_own (by omega)))
                  go_wp2
                  refine hK' _ _ ⟨⟨⟨wh, hFB.out hxh⟩, rfl⟩, ?_⟩
                  clear hK' K'
                  refine ways_1 6 (by kernel_rfl) ?_
                  refine ⟨_, _, (by rfl), (by rfl), ?_⟩
                  intro K' hK'
                  refine wpList_appArr slT_pas rfl (.tmp 118) (.tmp 120) rfl rfl hR3 rfl (Arr.one3 hP) (one_pas [mp]) (hxh).size ?_ ?_ ?_
                  · have := hn12; simp; omega
                  · omega
                  intro v6 wi hR6 hb6 hgr6
                  have hxi := (hxh).trans hb6
                  rw [show c.pas.length + [mp].length = c.pas.length + 1 from rfl, ← List.flatMap_append] at hR6
                  obtain ⟨A6, cap6, rfl⟩ := own_form hR6
                  go_wp2
                  refine hK' _ _ ⟨⟨⟨wi, hFB.out hxi⟩, rfl⟩, ?_⟩
                  clear hK' K'
                  refine ways_q 7 (by rfl) (by rfl) (by kernel_rfl) (by kernel_rfl) (by kernel_rfl) (by rfl) ⟨⟨wi, hFB.out hxi⟩, rfl⟩ ?_
                  intro K hK
                  go_big_quiet_op
                  go_big_quiet_on
                  have B7 := B3.call hxi
                  have hfz := fun i => B7.frozen i
                  obtain ⟨x0, x1, x2, x3, x4⟩ := B7.c5
                  refine ways_1 8 (by kernel_rfl) ?_
                  refine ⟨_, _, (by rfl), (by rfl), ?_⟩
                  intro K' hK'
                  go_wp2
                  have hF9 : F ((wi).setCell ⟨g3, 4, none⟩ (.slice A6 (c.pas.length + 1) cap6)) := by
                    have h9 := (HF.out wi).1 (hFB.out hxi)
                    exact (HF.out _).2 ⟨(World.cell?_of_block (Below.heap_setCell wi ⟨g3, 4, none⟩ _ w.heap.size (by show w.heap.size ≠ g3; omega))).trans h9.1, (World.cell?_of_block (Below.heap_setCell wi ⟨g3, 4, none⟩ _ (w.heap.size + 1) (by show w.heap.size + 1 ≠ g3; omega))).trans h9.2.1, (World.cell?_of_block (Below.heap_setCell wi ⟨g3, 4, none⟩ _ (w.heap.size + 1) (by show w.heap.size + 1 ≠ g3; omega))).trans h9.2.2.1, (World.cell?_of_block (Below.heap_setCell wi ⟨g3, 4, none⟩ _ (w.heap.size + 1) (by show w.heap.size + 1 ≠ g3; omega))).trans h9.2.2.2⟩
                  refine hK' _ _ ⟨⟨⟨_, hF9⟩, rfl⟩, ?_⟩
                  clear hK' K'
                  refine ways_end (by kernel_rfl) ?_
                  go_wp2
                  go_meet
                  case rel =>
                    have B9 := B7.set_ 4 (.slice A6 (c.pas.length + 1) cap6)
                    exact ⟨A6, cap6, by simpa using B9, hR6.kept (grown_setCell _) (.inr fun e => own_blk_ne hR6 B7 (by decide) e.symm), grown_trans' (grown_call hxi _) (grown_setCell _)⟩
              · refine ⟨_, _, (by rfl), (by rfl), ?_⟩
                intro K' hK'
                go_wp2
                have hbb := (Below.refl (wd).heap.size wd).alloc (Nat.le_refl _) (.cells #[.int .i64 mp.a, .int .i64 mp.b, .int .i64 mp.w] 49)
                have hxe := (hxd).trans (hbb.mono (hxd).size)
                have hP := Blk.new wd 49 #[.int .i64 mp.a, .int .i64 mp.b, .int .i64 mp.w]
                have l_P := hP.lt
                skip
                generalize (wd).alloc (.cells #[.int .i64 mp.a, .int .i64 mp.b, .int .i64 mp.w] 49) = we at *
                refine hK' _ _ ⟨⟨⟨we, hFB.out hxe⟩, rfl⟩, ?_⟩
                clear hK' K' hbb
                refine ways_1 0 (by kernel_rfl) ?_
                refine ⟨_, _, (by rfl), (by rfl), ?_⟩
                intro K' hK'
                go_wp2
                have hbb := (Below.refl (we).heap.size we).alloc (Nat.le_refl _) (.cells #[] 49)
                have hxg := (hxe).trans (hbb.mono (hxe).size)
                have hR := own_empty we wf.heap.size 49 3 (hxe).size
                have l_R := (Blk.new we 49 #[]).lt
                (replace hP := hP.call hbb)
                generalize (we).alloc (.cells #[] 49) = wg at *
                refine hK' _ _ ⟨⟨⟨wg, hFB.out hxg⟩, rfl⟩, ?_⟩
                clear hK' K' hbb
                refine ways_1 3 (by kernel_rfl) ?_
                refine ⟨_, _, (by rfl), (by rfl), ?_⟩
                intro K' hK'
                refine wpList_appArr slT_pas rfl (.tmp 115) (.tmp 117) rfl rfl hR rfl (HPS.out hxg) (one_pas c.pas) (hxg).size ?_ ?_ ?_
                · have := hn12; omega
                · omega
                intro v3 wh hR3 hb3 hgr3
                have hxh := (hxg).trans hb3
                rw [Nat.zero_add, List.nil_append] at hR3
                obtain ⟨A3, cap3, rfl⟩ := own_form hR3
                (replace hP := hP.grown hgr3 (ne_own (by omega)))
                go_wp2
                refine hK' _ _ ⟨⟨⟨wh, hFB.out hxh⟩, rfl⟩, ?_⟩
                clear hK' K'
                refine ways_1 6 (by kernel_rfl) ?_
                refine ⟨_, _, (by rfl), (by rfl), ?_⟩
                intro K' hK'
                refine wpList_appArr slT_pas rfl (.tmp 118) (.tmp 120) rfl rfl hR3 rfl (Arr.one3 hP) (one_pas [mp]) (hxh).size ?_ ?_ ?_
                · have := hn12; simp; omega
                · omega
                intro v6 wi hR6 hb6 hgr6
                have hxi := (hxh).trans hb6
                rw [show c.pas.length + [mp].length = c.pas.length + 1 from rfl, ← List.flatMap_append] at hR6
                obtain ⟨A6, cap6, rfl⟩ := own_form hR6
                go_wp2
                refine hK' _ _ ⟨⟨⟨wi, hFB.out hxi⟩, rfl⟩, ?_⟩
                clear hK' K'
                refine ways_q 7 (by rfl) (by rfl) (by kernel_rfl) (by kernel_rfl) (by kernel_rfl) (by rfl) ⟨⟨wi, hFB.out hxi⟩, rfl⟩ ?_
                intro K hK
                go_big_quiet_op
                go_big_quiet_on
                have B7 := B3.call hxi
                have hfz := fun i => B7.frozen i
                obtain ⟨x0, x1, x2, x3, x4⟩ := B7.c5
                refine ways_1 8 (by kernel_rfl) ?_
                refine ⟨_, _, (by rfl), (by rfl), ?_⟩
                intro K' hK'
                go_wp2
                have hF9 : F ((wi).setCell ⟨g3, 4, none⟩ (.slice A6 (c.pas.length + 1) cap6)) := by
                  have h9 := (HF.out wi).1 (hFB.out hxi)
                  exact (HF.out _).2 ⟨(World.cell?_of_block (Below.heap_setCell wi ⟨g3, 4, none⟩ _ w.heap.size (by show w.heap.size ≠ g3; omega))).trans h9.1, (World.cell?_of_block (Below.heap_setCell wi ⟨g3, 4, none⟩ _ (w.heap.size + 1) (by show w.heap.size + 1 ≠ g3; omega))).trans h9.2.1, (World.cell?_of_block (Below.heap_setCell wi ⟨g3, 4, none⟩ _ (w.heap.size + 1) (by show w.heap.size + 1 ≠ g3; omega))).trans h9.2.2.1, (World.cell?_of_block (Below.heap_setCell wi ⟨g3, 4, none⟩ _ (w.heap.size + 1) (by show w.heap.size + 1 ≠ g3; omega))).trans h9.2.2.2⟩
                refine hK' _ _ ⟨⟨⟨_, hF9⟩, rfl⟩, ?_⟩
                clear hK' K'
                refine ways_end (by kernel_rfl) ?_
                go_wp2
                go_meet
                case rel =>
                  have B9 := B7.set_ 4 (.slice A6 (c.pas.length + 1) cap6)
                  exact ⟨A6, cap6, by simpa using B9, hR6.kept (grown_setCell _) (.inr fun e => own_blk_ne hR6 B7 (by decide) e.symm), grown_trans' (grown_call hxi _) (grown_setCell _)⟩
            case rest =>
              obtain ⟨Az, capz, BZ, hRz, hgz⟩ := hcut
              obtain ⟨wx, hwx⟩ : ∃ wx : World, wx = wc := ⟨_, rfl⟩
              rw [← hwx] at BZ hRz hgz ⊢
              clear hwx wc
              replace B1 := B1.grown hgz (by simp; omega)
              replace B2' := B2'.grown hgz (by simp; omega)
              replace hM := hM.grown hgz (by simp; omega)
              replace hfr := hfr.kept hgz (.inr fun e => own_blk_ne hfr B3 (by decide) e.symm)
              replace hW4 : Hid (∀ j, j ≤ tK c → wx.cell? ⟨ob, oo + j, none⟩ = some (.int .i64 (mostK c j))) := fun j hj => (World.cell?_of_block (hgz.block ob hob4 (by simp; omega))).trans (hW4.out j hj)
              replace hob4 := Nat.lt_of_lt_of_le hob4 hgz.size
              have hps : Arr wx wx.heap.size 3 (.slice pa c.pas.length pc) c.pas pcell := by
                have hb9 : Below w.heap.size wf wx := (Below.refl w.heap.size wf).grown hgz (Nat.le_of_lt hC.blk.lt) (fun k hk => by injection hk; omega)
                have h9 := hC.ps.below hb9
                exact h9.more (Nat.le_trans (Nat.le_of_lt hC.blk.lt) hgz.size)
              have hfs : Arr wx wx.heap.size 1 (.slice fa c.frag.length fc) c.frag icell := by
                have hb9 : Below w.heap.size wf wx := (Below.refl w.heap.size wf).grown hgz (Nat.le_of_lt hC.blk.lt) (fun k hk => by injection hk; omega)
                have h9 := hC.fr.below hb9
                exact h9.more (Nat.le_trans (Nat.le_of_lt hC.blk.lt) hgz.size)
              replace hB := hB.grown hgz hB.size (fun k hk => by injection hk; omega)
              have V1 := cyl_moreF (Arr.of_own hfr) hps
              have V2 := cyl_lessL (m := m) hfs hps
              have V3 := cyl_moreP hfs hRz
              have C1 : Hid (checkCyl (moreF c t) = 0) := moreF_valid H0.out t0 t1
              have C2 : Hid (checkCyl (lessL c m) = 0) := lessL_valid H0.out m0
              obtain ⟨x0, x1, x2, x3, x4⟩ := B1.c5
              clear hRz hfr hps hfs hC B3 hmq hmr hms k4 hgz q6
              go_wp2_with fail
              refine (worths_ok _ (moreF c t) _ V1).mono ?_
              rintro e wy ⟨ov, rfl, hO, hb2⟩
              have hka : tK (moreF c t) = tK c := rfl
              have hkb : tK (lessL c m) = tK c := rfl
              have hkd : tK (moreP c mp) = tK c := rfl
              obtain ⟨ab, ao, ac, rfl, hab, ha1, ha2, hcell⟩ := hO.row (by rw [worthsOf_len C1.out]; omega)
              rw [worthsOf_len C1.out, hka, C1.out]
              have HA : Hid (∀ j, j ≤ tK c → wy.cell? ⟨ab, ao + j, none⟩ = some (.int .i64 (mostK (moreF c t) j))) := fun j hj => hcell j _ (worthsOf_get C1.out hj)
              replace hW4 : Hid (∀ j, j ≤ tK c → wy.cell? ⟨ob, oo + j, none⟩ = some (.int .i64 (mostK c j))) := fun j hj => (hb2.cell (p := ⟨ob, oo + j, none⟩) hob4).trans (hW4.out j hj)
              replace hob4 := Nat.lt_of_lt_of_le hob4 hb2.size
              replace B2' := B2'.call hb2
              replace BZ := BZ.call hb2
              replace hM := hM.call hb2
              replace V2 := (V2.below hb2).more hb2.size
              replace V3 := (V3.below hb2).more hb2.size
              replace hB := hB.trans (hb2.mono hB.size)
              clear hO hcell hb2 V1 x0 x1 x2 x3 x4 B1
              obtain ⟨x0, x1, x2, x3, x4⟩ := B2'.c5
              go_wp2_with fail
              refine (worths_ok _ (lessL c m) _ V2).mono ?_
              rintro e wz ⟨ov, rfl, hO, hb2⟩
              obtain ⟨bb, bo, bc, rfl, hbb, hb1, hb3, hcell⟩ := hO.row (by rw [worthsOf_len C2.out]; omega)
              rw [worthsOf_len C2.out, hkb, C2.out]
              have HBB : Hid (∀ j, j ≤ tK c → wz.cell? ⟨bb, bo + j, none⟩ = some (.int .i64 (mostK (lessL c m) j))) := fun j hj => hcell j _ (worthsOf_get C2.out hj)
              replace HA : Hid (∀ j, j ≤ tK c → wz.cell? ⟨ab, ao + j, none⟩ = some (.int .i64 (mostK (moreF c t) j))) := fun j hj => (hb2.cell (p := ⟨ab, ao + j, none⟩) hab).trans (HA.out j hj)
              replace hW4 : Hid (∀ j, j ≤ tK c → wz.cell? ⟨ob, oo + j, none⟩ = some (.int .i64 (mostK c j))) := fun j hj => (hb2.cell (p := ⟨ob, oo + j, none⟩) hob4).trans (hW4.out j hj)
              replace hab := Nat.lt_of_lt_of_le hab hb2.size
              replace hob4 := Nat.lt_of_lt_of_le hob4 hb2.size
              replace BZ := BZ.call hb2
              replace hM := hM.call hb2
              replace V3 := (V3.below hb2).more hb2.size
              replace hB := hB.trans (hb2.mono hB.size)
              clear hO hcell hb2 V2 x0 x1 x2 x3 x4 B2'
              go_wp2_with fail
              go_loopw [21] (fun i wr => ∃ (k : Nat), k ≤ tK c + 1 ∧ i = .int .i64 k ∧ Below wz.heap.size wz wr) (fun i _ => tK c + 1 - (intOf i).toNat)
              case atStart => exact ⟨0, by omega, rfl, Below.refl _ _⟩
              case round =>
                obtain ⟨k, hk, rfl, hb⟩ := hrel
                have ek : IntKind.i64.wrap (k : Int) = k := by rw [IntKind.wrap_i64]; omega
                by_cases hk1 : k < tK c + 1
                · have d1 : decide (k < tK c + 1) = true := by simpa using hk1
                  have d1' : decide ((k : Int) < (tK c : Int) + 1) = true := by simp; omega
                  have d1'' : decide ((k : Int) < ((tK c + 1 : Nat) : Int)) = true := by simp; omega
                  have r0 := Ext.of ((hb.cell (p := ⟨ab, ao + k, none⟩) hab).trans (HA.out k (by omega)))
                  have r1 := Ext.of ((hb.cell (p := ⟨bb, bo + k, none⟩) hbb).trans (HBB.out k (by omega)))
                  have r2 := Ext.of ((hb.cell (p := ⟨ob, oo + k, none⟩) hob4).trans (hW4.out k (by omega)))
                  have v1 : decide (mostK c k < mostK (moreF c t) k) = false := by have := more_frag H0.out t0 t1 (show k ≤ tK c by omega); simp; omega
                  have v2 : decide (mostK c k < mostK (lessL c m) k) = false := by have := less_long H0.out m0 (show k ≤ tK c by omega); simp; omega
                  generalize mostK (moreF c t) k = y1 at *
                  generalize mostK (lessL c m) k = y2 at *
                  by_cases hk0 : k = 0
                  · have e0 : decide (0 < (k : Int)) = false := by simp; omega
                    have e0' : decide (0 < k) = false := by simp; omega
                    generalize mostK c k = y3 at *
                    clear hk0
                    go_upto_region 29 with (fail)
                    refine wp_region_ext (by kernel_rfl) (by kernel_rfl) ?_
                    repeat (go_big_quiet_step (fail))
                    refine wpQuiet_nil ?_
                    intro _ hw'
                    obtain ⟨xr, hw''⟩ := hw'
                    subst hw''
                    go_wp2
                    go_roundw
                    case rel => exact ⟨k + 1, by omega, by go_num, hb.trans (xr.h.mono hb.size)⟩
                    case measure => (simp [intOf]; try omega)
                  · have e0 : decide (0 < (k : Int)) = true := by simp; omega
                    have e0' : decide (0 < k) = true := by simp; omega
                    have r3 := Ext.of ((hb.cell (p := ⟨ob, oo + (k - 1), none⟩) hob4).trans (hW4.out (k - 1) (by omega)))
                    have v3 : decide (mostK c k < mostK c (k - 1)) = false := by have := mostK_mono H0.out (show k - 1 ≤ k by omega) (show k ≤ tK c by omega); simp; omega
                    have e2 : (k : Int) - 1 = ((k - 1 : Nat) : Int) := by omega
                    have e3 : k - 1 < tK c + 1 := by omega
                    generalize mostK c k = y3 at *
                    generalize mostK c (k - 1) = y4 at *
                    clear hk0
                    go_upto_region 29 with (fail)
                    refine wp_region_ext (by kernel_rfl) (by kernel_rfl) ?_
                    repeat (go_big_quiet_step (fail))
                    refine wpQuiet_nil ?_
                    intro _ hw'
                    obtain ⟨xr, hw''⟩ := hw'
                    subst hw''
                    go_wp2
                    go_roundw
                    case rel => exact ⟨k + 1, by omega, by go_num, hb.trans (xr.h.mono hb.size)⟩
                    case measure => (simp [intOf]; try omega)
                · obtain rfl : k = tK c + 1 := by omega
                  have d1 : decide (tK c + 1 < tK c + 1) = false := by simp
                  replace BZ := BZ.call hb
                  replace hM := hM.call hb
                  replace V3 := (V3.below hb).more hb.size
                  replace hB := hB.trans (hb.mono hB.size)
                  obtain ⟨x0, x1, x2, x3, x4⟩ := BZ.c5
                  go_wp2_with fail
                  refine (fine_ok _ (moreP c mp) _ V3).mono ?_
                  rintro e wn ⟨rfl, hbn⟩
                  clear x0 x1 x2 x3 x4 hk d1
                  replace BZ := BZ.call hbn
                  replace hM := hM.call hbn
                  replace V3 := (V3.below hbn).more hbn.size
                  replace hB := hB.trans (hbn.mono hB.size)
                  have hW5 : Hid (∀ j, j ≤ tK c → wn.cell? ⟨ob, oo + j, none⟩ = some (.int .i64 (mostK c j))) := fun j hj => (hbn.cell (p := ⟨ob, oo + j, none⟩) (Nat.lt_of_lt_of_le hob4 hb.size)).trans ((hb.cell (p := ⟨ob, oo + j, none⟩) hob4).trans (hW4.out j hj))
                  replace hob4 := Nat.lt_of_lt_of_le (Nat.lt_of_lt_of_le hob4 hb.size) hbn.size
                  clear hb hbn hW4 HA HBB hab hbb
                  cases hg2 : fineB (moreP c mp)
                  · go_wp2_with fail
                    refine (works_ok wn).mono ?_
                    rintro e wz ⟨rfl, hbz⟩
                    go_wp2
                    go_ret
                    exact ⟨rfl, hB.trans (hbz.mono hB.size)⟩
                  · have hz0 : checkCyl (moreP c mp) = 0 := by
                      unfold fineB at hg2
                      simp at hg2
                      exact hg2.2
                    have Z0 := Lib.hid hz0
                    have hpw : 0 ≤ mp.w ∧ mp.w ≤ 1000 := by
                      have := pas_fit (pasOk_of hz0) mp (by simp [moreP])
                      omega
                    clear hz0
                    obtain ⟨x0, x1, x2, x3, x4⟩ := BZ.c5
                    go_wp2_with fail
                    refine (worths_ok _ (moreP c mp) _ V3).mono ?_
                    rintro e wo ⟨ov, rfl, hO, hb2⟩
                    obtain ⟨db, dof, dc, rfl, hdb, hd1, hd3, hcell⟩ := hO.row (by rw [worthsOf_len Z0.out]; omega)
                    rw [worthsOf_len Z0.out, hkd, Z0.out]
                    have HD : Hid (∀ j, j ≤ tK c → wo.cell? ⟨db, dof + j, none⟩ = some (.int .i64 (mostK (moreP c mp) j))) := fun j hj => hcell j _ (worthsOf_get Z0.out hj)
                    replace hW5 : Hid (∀ j, j ≤ tK c → wo.cell? ⟨ob, oo + j, none⟩ = some (.int .i64 (mostK c j))) := fun j hj => (hb2.cell (p := ⟨ob, oo + j, none⟩) hob4).trans (hW5.out j hj)
                    replace hob4 := Nat.lt_of_lt_of_le hob4 hb2.size
                    replace hM := hM.call hb2
                    replace hB := hB.trans (hb2.mono hB.size)
                    have hmw := hM.cell 2
                    simp at hmw
                    clear hO hcell hb2 V3 x0 x1 x2 x3 x4 BZ
                    go_wp2_with fail
                    go_loopw [23] (fun i wr => ∃ (k : Nat), k ≤ tK c + 1 ∧ i = .int .i64 k ∧ Below wo.heap.size wo wr) (fun i _ => tK c + 1 - (intOf i).toNat)
                    case atStart => exact ⟨0, by omega, rfl, Below.refl _ _⟩
                    case round =>
                      obtain ⟨k, hk, rfl, hb⟩ := hrel
                      have ek : IntKind.i64.wrap (k : Int) = k := by rw [IntKind.wrap_i64]; omega
                      by_cases hk1 : k < tK c + 1
                      · have d1 : decide (k < tK c + 1) = true := by simpa using hk1
                        have d1' : decide ((k : Int) < (tK c : Int) + 1) = true := by simp; omega
                        have d1'' : decide ((k : Int) < ((tK c + 1 : Nat) : Int)) = true := by simp; omega
                        have r0 := Ext.of ((hb.cell (p := ⟨db, dof + k, none⟩) hdb).trans (HD.out k (by omega)))
                        have r2 := Ext.of ((hb.cell (p := ⟨ob, oo + k, none⟩) hob4).trans (hW5.out k (by omega)))
                        have r3 := Ext.of ((hb.cell (p := ⟨w.heap.size + 1, 2, none⟩) hM.lt).trans hmw)
                        have hmp := more_pas H0.out Z0.out (show k ≤ tK c by omega)
                        have hbk := mostK_bound H0.out (show k ≤ tK c by omega)
                        generalize mostK (moreP c mp) k = y1 at *
                        generalize mostK c k = y2 at *
                        have v1 : decide (y1 < y2) = false := by simp; omega
                        have v2 : decide (y2 + mp.w < y1) = false := by simp; omega
                        have v4 : IntKind.i64.wrap (y2 + mp.w) = y2 + mp.w := by rw [IntKind.wrap_i64]; omega
                        clear hmp hbk hmw
                        go_upto_region 39 with (fail)
                        refine wp_region_ext (by kernel_rfl) (by kernel_rfl) ?_
                        repeat (go_big_quiet_step (fail))
                        refine wpQuiet_nil ?_
                        intro _ hw'
                        obtain ⟨xr, hw''⟩ := hw'
                        subst hw''
                        go_wp2
                        go_roundw
                        case rel => exact ⟨k + 1, by omega, by go_num, hb.trans (xr.h.mono hb.size)⟩
                        case measure => (simp [intOf]; try omega)
                      · obtain rfl : k = tK c + 1 := by omega
                        have d1 : decide (tK c + 1 < tK c + 1) = false := by simp
                        replace hB := hB.trans (hb.mono hB.size)
                        go_wp2_with fail
                        refine (works_ok wr).mono ?_
                        rintro e wz ⟨rfl, hbz⟩
                        go_wp2
                        go_ret
                        exact ⟨rfl, hB.trans (hbz.mono hB.size)⟩
end Go.Proofs.Ythplabmbbfefeaa
