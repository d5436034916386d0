/- The law PlayKnown: the walk. -/
import Derived.Test.YthplabmbbfefeaaLawC
namespace Go.Proofs.Ythplabmbbfefeaa
open Go.RowKit Go.Shelf
set_option linter.unusedVariables false

theorem exSaves2 (v sv : Value) (w : World) (hv : CylV w w.heap.size v exC) (hs : Arr w w.heap.size 2 sv [⟨1, 4⟩] scell) :
    Calls Try.prog 16 #[v, sv] w fun r w' => ∃ A cap, r = .returned (.tuple #[.slice A 2 cap, .int .i64 9, .int .i64 0]) ∧ Arr w' w'.heap.size 1 (.slice A 2 cap) [1, 2] icell ∧ Below w.heap.size w w' := by
  refine (saves_ok v sv exC _ w hv hs).mono ?_
  rintro r w' ⟨ov, hr, ha, hb⟩
  rw [ex_saves2] at hr ha
  have ha' := ha
  obtain ⟨A, c, rfl, _⟩ := ha
  exact ⟨A, c, hr, ha', hb⟩
theorem exPlan3 (v sv : Value) (w : World) (hv : CylV w w.heap.size v exC) (hs : Arr w w.heap.size 2 sv [⟨0, 3⟩, ⟨3, 4⟩] scell) :
    Calls Try.prog 20 #[v, sv] w fun r w' => r = .returned (.int .i64 22) ∧ Below w.heap.size w w' := by
  have := checkPlan_ok v sv exC _ w hv hs
  rwa [ex_plan3] at this

set_option maxRecDepth 100000 in
set_option maxHeartbeats 3200000 in
theorem known_ok (w : World) :
    Calls Try.prog 11 #[] w fun r w' => r = .returned (.bool true) ∧ Below w.heap.size w w' := by
  go_enter Try.func11, Try.ntmps11
  go_wp2_with fail
  refine (cylinder_ok w).mono ?_
  rintro e w0 ⟨fa, fc, pa, pc, rfl, hcv, hb0⟩
  go_upto_region 2 with (fail)
  have hx := Blk.new w0 25 #[.int .i64 10, .int .i64 4, .int .i64 2, .slice fa 1 fc, .slice pa 5 pc]
  have hbx := (Below.refl w0.heap.size w0).alloc (Nat.le_refl _) (.cells #[.int .i64 10, .int .i64 4, .int .i64 2, .slice fa 1 fc, .slice pa 5 pc] 25)
  have hE : ExB (w0.alloc (.cells #[.int .i64 10, .int .i64 4, .int .i64 2, .slice fa 1 fc, .slice pa 5 pc] 25)) w0.heap.size fa fc pa pc := ⟨hx, hcv.below hbx⟩
  have hB := hb0.trans (hbx.mono hb0.size)
  clear hx hbx hcv hb0
  generalize w0.alloc (.cells #[.int .i64 10, .int .i64 4, .int .i64 2, .slice fa 1 fc, .slice pa 5 pc] 25) = W at *
  generalize w0.heap.size = g at *
  obtain ⟨k0, k1, k2, k3, k4⟩ := hE.c5
  have f0 := Ext.of k0
  have f1 := Ext.of k1
  have f2 := Ext.of k2
  have f3 := Ext.of k3
  have f4 := Ext.of k4
  clear k0 k1 k2 k3 k4
  refine wp_region_schedH (C := fun w' => ∃ x : Ext W, w' = x.w) [(0, true), (1, false), (2, false), (3, false), (4, true), (5, true), (6, true), (7, true), (8, true), (9, true), (10, true)] (by kernel_rfl) (by kernel_rfl) ⟨⟨W.drew, (Below.refl _ W).drew⟩, rfl⟩ ?_
  refine schedH_q (by rfl) (by rfl) ?_
  intro K hK
  go_big_quiet_op
  go_big_quiet_on
  have hxd : Below W.heap.size W W.drew := (Below.refl W.heap.size W).drew
  refine schedH_c (by rfl) (by rfl) ?_
  intro K' hK'
  go_wp2_with fail
  refine (stretch_ok 1 4 W.drew).mono ?_
  rintro e ws1 ⟨rfl, hbs⟩
  have hx1 : Below (W).heap.size W ws1 := (hxd).trans (hbs.mono (hxd).size)
  clear hbs
  go_wp2
  refine hK' _ _ ⟨⟨⟨ws1, hx1⟩, rfl⟩, ?_⟩
  clear hK' K'
  refine schedH_c (by rfl) (by rfl) ?_
  intro K' hK'
  have hxs := Blk.new ws1 55 #[.int .i64 1, .int .i64 4]
  have hbb := (Below.refl ws1.heap.size ws1).alloc (Nat.le_refl _) (.cells #[.int .i64 1, .int .i64 4] 55)
  have hx2 := hx1.trans (hbb.mono hx1.size)
  go_wp2
  generalize ws1.alloc (.cells #[.int .i64 1, .int .i64 4] 55) = ws2 at *
  refine hK' _ _ ⟨⟨⟨ws2, hx2⟩, rfl⟩, ?_⟩
  clear hK' K'
  refine schedH_c (by rfl) (by rfl) ?_
  intro K' hK'
  go_wp2_with fail
  refine (exSaves2 _ _ ws2 (hE.call hx2).cyl (Arr.lit hxs hxs.lt rfl (by decide) (by decide) rfl)).mono ?_
  rintro e w1 ⟨sA, sc, rfl, hS, hbw⟩
  have hx3 := hx2.trans (hbw.mono hx2.size)
  go_wp2
  refine hK' _ _ ⟨⟨⟨w1, hx3⟩, rfl⟩, ?_⟩
  clear hK' K'
  refine schedH_q (by rfl) (by rfl) ?_
  intro K hK
  go_big_quiet_op
  go_big_quiet_on
  refine schedH_q (by rfl) (by rfl) ?_
  intro K hK
  go_big_quiet_op
  go_big_quiet_on
  refine schedH_q (by rfl) (by rfl) ?_
  intro K hK
  go_big_quiet_op
  go_big_quiet_on
  refine schedH_q (by rfl) (by rfl) ?_
  intro K hK
  go_big_quiet_op
  go_big_quiet_on
  refine schedH_q (by rfl) (by rfl) ?_
  intro K hK
  go_big_quiet_op
  go_big_quiet_on
  refine schedH_q (by rfl) (by rfl) ?_
  intro K hK
  go_big_quiet_op
  go_big_quiet_on
  refine schedH_q (by rfl) (by rfl) ?_
  intro K hK
  go_big_quiet_op
  go_big_quiet_on
  refine schedH_nil ?_
  replace hE := hE.call hx3
  replace hB := hB.trans (hx3.mono hB.size)
  clear f0 f1 f2 f3 f4 hx1 hx2 hx3 hbw hbb hxs
  obtain ⟨k0, k1, k2, k3, k4⟩ := hE.c5
  have f0 := Ext.of k0
  have f1 := Ext.of k1
  have f2 := Ext.of k2
  have f3 := Ext.of k3
  have f4 := Ext.of k4
  clear k0 k1 k2 k3 k4
  go_wp2_with fail
  refine wp_region_schedH (C := fun w' => ∃ x : Ext w1, w' = x.w) [(0, true), (1, false), (2, false), (3, false), (4, false), (5, true)] (by kernel_rfl) (by kernel_rfl) ⟨⟨w1.drew, (Below.refl _ w1).drew⟩, rfl⟩ ?_
  refine schedH_q (by rfl) (by rfl) ?_
  intro K hK
  go_big_quiet_op
  go_big_quiet_on
  have hxd : Below w1.heap.size w1 w1.drew := (Below.refl w1.heap.size w1).drew
  refine schedH_c (by rfl) (by rfl) ?_
  intro K' hK'
  go_wp2_with fail
  refine (stretch_ok 0 3 w1.drew).mono ?_
  rintro e ws0 ⟨rfl, hbs⟩
  have hx0 : Below (w1).heap.size w1 ws0 := (hxd).trans (hbs.mono (hxd).size)
  clear hbs
  go_wp2
  refine hK' _ _ ⟨⟨⟨ws0, hx0⟩, rfl⟩, ?_⟩
  clear hK' K'
  refine schedH_c (by rfl) (by rfl) ?_
  intro K' hK'
  go_wp2_with fail
  refine (stretch_ok 3 4 ws0).mono ?_
  rintro e ws1 ⟨rfl, hbs⟩
  have hx1 : Below (w1).heap.size w1 ws1 := (hx0).trans (hbs.mono (hx0).size)
  clear hbs
  go_wp2
  refine hK' _ _ ⟨⟨⟨ws1, hx1⟩, rfl⟩, ?_⟩
  clear hK' K'
  refine schedH_c (by rfl) (by rfl) ?_
  intro K' hK'
  have hxs := Blk.new ws1 55 #[.int .i64 0, .int .i64 3, .int .i64 3, .int .i64 4]
  have hbb := (Below.refl ws1.heap.size ws1).alloc (Nat.le_refl _) (.cells #[.int .i64 0, .int .i64 3, .int .i64 3, .int .i64 4] 55)
  have hx2 := hx1.trans (hbb.mono hx1.size)
  go_wp2
  generalize ws1.alloc (.cells #[.int .i64 0, .int .i64 3, .int .i64 3, .int .i64 4] 55) = ws2 at *
  refine hK' _ _ ⟨⟨⟨ws2, hx2⟩, rfl⟩, ?_⟩
  clear hK' K'
  refine schedH_c (by rfl) (by rfl) ?_
  intro K' hK'
  go_wp2_with fail
  refine (exPlan3 _ _ ws2 (hE.call hx2).cyl (Arr.lit hxs hxs.lt rfl (by decide) (by decide) rfl)).mono ?_
  rintro e w2 ⟨rfl, hbw⟩
  have hx3 := hx2.trans (hbw.mono hx2.size)
  go_wp2
  refine hK' _ _ ⟨⟨⟨w2, hx3⟩, rfl⟩, ?_⟩
  clear hK' K'
  refine schedH_q (by rfl) (by rfl) ?_
  intro K hK
  go_big_quiet_op
  go_big_quiet_on
  refine schedH_nil ?_
  replace hE := hE.call hx3
  replace hB := hB.trans (hx3.mono hB.size)
  replace hS := (hS.below hx3).more hx3.size
  clear f0 f1 f2 f3 f4 hx0 hx1 hx2 hx3 hbw hbb hxs
  obtain ⟨k0, k1, k2, k3, k4⟩ := hE.c5
  go_wp2_with fail
  refine (exFew _ 9 w2 hE.cyl ex_few9).mono ?_
  rintro e w3 ⟨rfl, hb⟩
  replace hE := hE.call hb
  replace hB := hB.trans ((hb).mono hB.size)
  replace hS := (hS.below hb).more (hb).size
  clear k0 k1 k2 k3 k4
  clear hb
  go_wp2_with fail
  have hxs := Blk.new w3 3 #[.int .i64 1, .int .i64 2]
  have hy1 := (Below.refl w3.heap.size w3).alloc (Nat.le_refl _) (.cells #[.int .i64 1, .int .i64 2] 3)
  refine (intsT _ _ [1, 2] _ ((hS.below hy1).more hy1.size) (Arr.lit hxs hxs.lt rfl (by decide) (by decide) rfl)).mono ?_
  rintro e v3 ⟨rfl, hby⟩
  have hv3 := hy1.trans (hby.mono hy1.size)
  go_wp2_with fail
  refine (works_ok v3).mono ?_
  rintro e v7 ⟨rfl, hbz⟩
  have hv7 := hv3.trans (hbz.mono hv3.size)
  go_wp2
  go_ret
  exact ⟨rfl, hB.trans (hv7.mono hB.size)⟩
end Go.Proofs.Ythplabmbbfefeaa
