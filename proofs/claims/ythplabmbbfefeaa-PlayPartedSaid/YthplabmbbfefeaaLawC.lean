/- Contract of the laws' Works: it is true. -/
import Derived.Test.YthplabmbbfefeaaLawB
import Derived.Test.YthplabmbbfefeaaRefX
import Derived.Test.YthplabmbbfefeaaPlayL
import Derived.Test.YthplabmbbfefeaaPlayG
import Derived.Test.YthplabmbbfefeaaFill
namespace Go.Proofs.Ythplabmbbfefeaa
open Go.RowKit Go.Shelf
set_option linter.unusedVariables false

abbrev exV (fa : Option Addr) (fc : Nat) (pa : Option Addr) (pc : Nat) : Value := .agg #[.int .i64 10, .int .i64 4, .int .i64 2, .slice fa 1 fc, .slice pa 5 pc]

theorem exSaves (v sv : Value) (w : World) (hv : CylV w w.heap.size v exC) (hs : Arr w w.heap.size 2 sv [⟨0, 3⟩, ⟨6, 9⟩] scell) :
    Calls Try.prog 16 #[v, sv] w fun r w' => ∃ A cap, r = .returned (.tuple #[.slice A 3 cap, .int .i64 14, .int .i64 0]) ∧ Arr w' w'.heap.size 1 (.slice A 3 cap) [0, 1, 3] icell ∧ Below w.heap.size w w' := by
  refine (saves_ok v sv exC _ w hv hs).mono ?_
  rintro r w' ⟨ov, hr, ha, hb⟩
  rw [ex_saves] at hr ha
  have ha' := ha
  obtain ⟨A, c, rfl, _⟩ := ha
  exact ⟨A, c, hr, ha', hb⟩
theorem exPlan1 (v sv : Value) (w : World) (hv : CylV w w.heap.size v exC) (hs : Arr w w.heap.size 2 sv [⟨0, 4⟩] scell) :
    Calls Try.prog 20 #[v, sv] w fun r w' => r = .returned (.int .i64 2) ∧ Below w.heap.size w w' := by
  have := checkPlan_ok v sv exC _ w hv hs
  rwa [ex_plan1] at this
theorem exPlan2 (v sv : Value) (w : World) (hv : CylV w w.heap.size v exC) (hs : Arr w w.heap.size 2 sv [⟨2, 5⟩] scell) :
    Calls Try.prog 20 #[v, sv] w fun r w' => r = .returned (.int .i64 22) ∧ Below w.heap.size w w' := by
  have := checkPlan_ok v sv exC _ w hv hs
  rwa [ex_plan2] at this
theorem exWorths (v : Value) (w : World) (hv : CylV w w.heap.size v exC) :
    Calls Try.prog 23 #[v] w fun r w' => ∃ A cap, r = .returned (.tuple #[.slice A 3 cap, .int .i64 0]) ∧ Arr w' w'.heap.size 1 (.slice A 3 cap) [0, 9, 15] icell ∧ Below w.heap.size w w' := by
  refine (worths_ok v exC w hv).mono ?_
  rintro r w' ⟨ov, hr, ha, hb⟩
  rw [ex_worths] at ha
  rw [ex_valid] at hr
  have ha' := ha
  obtain ⟨A, c, rfl, _⟩ := ha
  exact ⟨A, c, hr, ha', hb⟩
theorem exBest (v : Value) (w : World) (hv : CylV w w.heap.size v exC) :
    Calls Try.prog 27 #[v] w fun r w' => ∃ A cap, r = .returned (.tuple #[.slice A 2 cap, .int .i64 15, .int .i64 0]) ∧ Arr w' w'.heap.size 2 (.slice A 2 cap) [⟨1, 4⟩, ⟨6, 9⟩] scell ∧ Below w.heap.size w w' := by
  refine (best_ok v exC w hv).mono ?_
  rintro r w' ⟨ov, hr, ha, hb⟩
  rw [ex_best] at hr ha
  have ha' := ha
  obtain ⟨A, c, rfl, _⟩ := ha
  exact ⟨A, c, hr, ha', hb⟩
theorem exKinds (v : Value) (w : World) (hv : CylV w w.heap.size v exC) :
    Calls Try.prog 30 #[v] w fun r w' => ∃ A cap, r = .returned (.tuple #[.slice A 5 cap, .int .i64 0]) ∧ Arr w' w'.heap.size 1 (.slice A 5 cap) [0, 2, 2, 2, 0] icell ∧ Below w.heap.size w w' := by
  refine (kinds_ok v exC w hv).mono ?_
  rintro r w' ⟨ov, hr, ha, hb⟩
  rw [ex_kinds] at ha
  rw [ex_valid] at hr
  have ha' := ha
  obtain ⟨A, c, rfl, _⟩ := ha
  exact ⟨A, c, hr, ha', hb⟩
theorem exFew (v : Value) (x : Int) (w : World) (hv : CylV w w.heap.size v exC) {r1 r2 : Int} (h : fewestOf exC x = (r1, r2)) :
    Calls Try.prog 25 #[v, .int .i64 x] w fun r w' => r = .returned (.tuple #[.int .i64 r1, .int .i64 r2]) ∧ Below w.heap.size w w' := by
  have := fewest_ok v exC x w hv
  rwa [h] at this
theorem exLabels (v : Value) (w : World) (hv : CylV w w.heap.size v exC) :
    Calls Try.prog 41 #[v] w fun r w' => ∃ A n cap, r = .returned (.tuple #[.slice A n cap, .int .i64 0]) ∧ Arr w' w'.heap.size 1 (.slice A n cap) (labelsOf exC) icell ∧ Below w.heap.size w w' := by
  refine (labels_ok v exC w hv).mono ?_
  rintro r w' ⟨ov, hr, ha, hb⟩
  rw [ex_valid] at hr
  have ha' := ha
  obtain ⟨A, c, rfl, _⟩ := ha
  exact ⟨A, _, c, hr, ha', hb⟩
theorem exCheck (v lv : Value) (w : World) (hv : CylV w w.heap.size v exC) (hs : Arr w w.heap.size 1 lv (labelsOf exC) icell) :
    Calls Try.prog 40 #[v, lv] w fun r w' => r = .returned (.tuple #[.int .i64 15, .int .i64 0]) ∧ Below w.heap.size w w' := by
  have := rcheckLabels_ok v lv exC _ w hv hs
  rwa [ex_labels] at this
theorem intsT (av bv : Value) (a : List Int) (w : World) (ha : Arr w w.heap.size 1 av a icell) (hb : Arr w w.heap.size 1 bv a icell) :
    Calls Try.prog 22 #[av, bv] w fun r w' => r = .returned (.bool true) ∧ Below w.heap.size w w' := by
  have := ints_ok av bv a a w ha hb
  rwa [show decide (a = a) = true by simp] at this
theorem longsT (av bv : Value) (a : List Int) (w : World) (ha : Arr w w.heap.size 1 av a icell) (hb : Arr w w.heap.size 1 bv a icell) :
    Calls Try.prog 28 #[av, bv] w fun r w' => r = .returned (.bool true) ∧ Below w.heap.size w w' := by
  have := longs_ok av bv a a w ha hb
  rwa [show decide (a = a) = true by simp] at this

theorem eq_str (a b c d : Int) (w : World) : (Op.equalIn 10000 55 (.agg #[.int .i64 a, .int .i64 b]) (.agg #[.int .i64 c, .int .i64 d])).run Try.prog w = .ok (a == c && b == d) w := by
  show (Op.equalIn (9999+1) 55 _ _).run _ _ = _
  rw [run_equalIn_struct w 9999 55 _ _ (by kernel_rfl) (by kernel_rfl)]
  cases h : (a == c)
  · simp [Op.eqFields, go_sem, h]
  · cases h2 : (b == d) <;> simp [Op.eqFields, go_sem, h, h2]
theorem guard_str (a b : Operand) (xs ys : Array Value) (w : World) : (eqGuard .eql 55 a b (.agg xs) (.agg ys)).run Try.prog w = .ok () w := by kernel_rfl

theorem CylV.below {w w' : World} {B : Nat} {v : Value} {c : Cyl} (h : CylV w B v c) (hb : Below B w w') : CylV w' B v c := by
  obtain ⟨fv, pv, h1, h2, h3⟩ := h
  exact ⟨fv, pv, h1, h2.below hb, h3.below hb⟩
theorem CylV.more {w : World} {B B' : Nat} {v : Value} {c : Cyl} (h : CylV w B v c) (hb : B ≤ B') : CylV w B' v c := by
  obtain ⟨fv, pv, h1, h2, h3⟩ := h
  exact ⟨fv, pv, h1, h2.more hb, h3.more hb⟩
/-- the example's box -/
structure ExB (W : World) (g : Nat) (fa : Option Addr) (fc : Nat) (pa : Option Addr) (pc : Nat) : Prop where
  blk : Blk W g 25 #[.int .i64 10, .int .i64 4, .int .i64 2, .slice fa 1 fc, .slice pa 5 pc]
  cv : CylV W g (exV fa fc pa pc) exC
theorem ExB.call {W W' : World} {g : Nat} {fa pa : Option Addr} {fc pc : Nat} (h : ExB W g fa fc pa pc) (hb : Below W.heap.size W W') : ExB W' g fa fc pa pc :=
  ⟨h.blk.call hb, h.cv.below (hb.mono (Nat.le_of_lt h.blk.lt))⟩
theorem ExB.cyl {W : World} {g : Nat} {fa pa : Option Addr} {fc pc : Nat} (h : ExB W g fa fc pa pc) : CylV W W.heap.size (exV fa fc pa pc) exC := h.cv.more (Nat.le_of_lt h.blk.lt)
theorem ExB.c5 {W : World} {g : Nat} {fa pa : Option Addr} {fc pc : Nat} (h : ExB W g fa fc pa pc) :
    W.cell? ⟨g, 0, none⟩ = some (.int .i64 10) ∧ W.cell? ⟨g, 1, none⟩ = some (.int .i64 4) ∧ W.cell? ⟨g, 2, none⟩ = some (.int .i64 2) ∧ W.cell? ⟨g, 3, none⟩ = some (.slice fa 1 fc) ∧ W.cell? ⟨g, 4, none⟩ = some (.slice pa 5 pc) := h.blk.c5

set_option maxRecDepth 100000 in
set_option maxHeartbeats 3200000 in
theorem works_ok (w : World) :
    Calls Try.prog 15 #[] w fun r w' => r = .returned (.bool true) ∧ Below w.heap.size w w' := by
  go_enter Try.func15, Try.ntmps15
  go_wp2_with fail
  refine (cylinder_ok w).mono ?_
  rintro e w0 ⟨fa, fc, pa, pc, rfl, hcv, hb0⟩
  go_upto_region 2 with (fail)
  have hx := Blk.new w0 25 #[.int .i64 10, .int .i64 4, .int .i64 2, .slice fa 1 fc, .slice pa 5 pc]
  have hbx := (Below.refl w0.heap.size w0).alloc (Nat.le_refl _) (.cells #[.int .i64 10, .int .i64 4, .int .i64 2, .slice fa 1 fc, .slice pa 5 pc] 25)
  have hE : ExB (w0.alloc (.cells #[.int .i64 10, .int .i64 4, .int .i64 2, .slice fa 1 fc, .slice pa 5 pc] 25)) w0.heap.size fa fc pa pc := ⟨hx, hcv.below hbx⟩
  have hB := hb0.trans (hbx.mono hb0.size)
  clear hx hbx hcv hb0
  generalize w0.alloc (.cells #[.int .i64 10, .int .i64 4, .int .i64 2, .slice fa 1 fc, .slice pa 5 pc] 25) = W at *
  generalize w0.heap.size = g at *
  obtain ⟨k0, k1, k2, k3, k4⟩ := hE.c5
  have f0 := Ext.of k0
  have f1 := Ext.of k1
  have f2 := Ext.of k2
  have f3 := Ext.of k3
  have f4 := Ext.of k4
  clear k0 k1 k2 k3 k4
  refine wp_region_schedH (C := fun w' => ∃ x : Ext W, w' = x.w) [(0, true), (1, false), (2, false), (3, false), (4, false), (5, true), (6, true), (7, true), (8, true), (9, true), (10, true), (11, true)] (by kernel_rfl) (by kernel_rfl) ⟨⟨W.drew, (Below.refl _ W).drew⟩, rfl⟩ ?_
  refine schedH_q (by rfl) (by rfl) ?_
  intro K hK
  go_big_quiet_op
  go_big_quiet_on
  have hxd : Below W.heap.size W W.drew := (Below.refl W.heap.size W).drew
  refine schedH_c (by rfl) (by rfl) ?_
  intro K' hK'
  go_wp2_with fail
  refine (stretch_ok 0 3 W.drew).mono ?_
  rintro e ws0 ⟨rfl, hbs⟩
  have hx0 : Below (W).heap.size W ws0 := (hxd).trans (hbs.mono (hxd).size)
  clear hbs
  go_wp2
  refine hK' _ _ ⟨⟨⟨ws0, hx0⟩, rfl⟩, ?_⟩
  clear hK' K'
  refine schedH_c (by rfl) (by rfl) ?_
  intro K' hK'
  go_wp2_with fail
  refine (stretch_ok 6 9 ws0).mono ?_
  rintro e ws1 ⟨rfl, hbs⟩
  have hx1 : Below (W).heap.size W ws1 := (hx0).trans (hbs.mono (hx0).size)
  clear hbs
  go_wp2
  refine hK' _ _ ⟨⟨⟨ws1, hx1⟩, rfl⟩, ?_⟩
  clear hK' K'
  refine schedH_c (by rfl) (by rfl) ?_
  intro K' hK'
  have hxs := Blk.new ws1 55 #[.int .i64 0, .int .i64 3, .int .i64 6, .int .i64 9]
  have hbb := (Below.refl ws1.heap.size ws1).alloc (Nat.le_refl _) (.cells #[.int .i64 0, .int .i64 3, .int .i64 6, .int .i64 9] 55)
  have hx2 := hx1.trans (hbb.mono hx1.size)
  go_wp2
  generalize ws1.alloc (.cells #[.int .i64 0, .int .i64 3, .int .i64 6, .int .i64 9] 55) = ws2 at *
  refine hK' _ _ ⟨⟨⟨ws2, hx2⟩, rfl⟩, ?_⟩
  clear hK' K'
  refine schedH_c (by rfl) (by rfl) ?_
  intro K' hK'
  go_wp2_with fail
  refine (exSaves _ _ ws2 (hE.call hx2).cyl (Arr.lit hxs hxs.lt rfl (by decide) (by decide) rfl)).mono ?_
  rintro e w1 ⟨sA, sc, rfl, hS, hbw⟩
  have hx3 := hx2.trans (hbw.mono hx2.size)
  go_wp2
  refine hK' _ _ ⟨⟨⟨w1, hx3⟩, rfl⟩, ?_⟩
  clear hK' K'
  refine schedH_q (by rfl) (by rfl) ?_
  intro K hK
  go_big_quiet_op
  go_big_quiet_on
  refine schedH_q (by rfl) (by rfl) ?_
  intro K hK
  go_big_quiet_op
  go_big_quiet_on
  refine schedH_q (by rfl) (by rfl) ?_
  intro K hK
  go_big_quiet_op
  go_big_quiet_on
  refine schedH_q (by rfl) (by rfl) ?_
  intro K hK
  go_big_quiet_op
  go_big_quiet_on
  refine schedH_q (by rfl) (by rfl) ?_
  intro K hK
  go_big_quiet_op
  go_big_quiet_on
  refine schedH_q (by rfl) (by rfl) ?_
  intro K hK
  go_big_quiet_op
  go_big_quiet_on
  refine schedH_q (by rfl) (by rfl) ?_
  intro K hK
  go_big_quiet_op
  go_big_quiet_on
  refine schedH_nil ?_
  replace hE := hE.call hx3
  replace hB := hB.trans (hx3.mono hB.size)
  clear f0 f1 f2 f3 f4 hx0 hx1 hx2 hx3 hbw hbb hxs
  obtain ⟨k0, k1, k2, k3, k4⟩ := hE.c5
  have f0 := Ext.of k0
  have f1 := Ext.of k1
  have f2 := Ext.of k2
  have f3 := Ext.of k3
  have f4 := Ext.of k4
  clear k0 k1 k2 k3 k4
  go_wp2_with fail
  refine wp_region_schedH (C := fun w' => ∃ x : Ext w1, w' = x.w) [(0, true), (1, false), (2, false), (3, false), (4, true)] (by kernel_rfl) (by kernel_rfl) ⟨⟨(w1).drew, (Below.refl _ w1).drew⟩, rfl⟩ ?_
  refine schedH_q (by rfl) (by rfl) ?_
  intro K hK
  go_big_quiet_op
  go_big_quiet_on
  have hxd : Below (w1).heap.size w1 (w1).drew := (Below.refl (w1).heap.size w1).drew
  refine schedH_c (by rfl) (by rfl) ?_
  intro K' hK'
  go_wp2_with fail
  refine (stretch_ok 0 4 (w1).drew).mono ?_
  rintro e ws1 ⟨rfl, hbs⟩
  have hx1 : Below (w1).heap.size w1 ws1 := (hxd).trans (hbs.mono (hxd).size)
  clear hbs
  go_wp2
  refine hK' _ _ ⟨⟨⟨ws1, hx1⟩, rfl⟩, ?_⟩
  clear hK' K'
  refine schedH_c (by rfl) (by rfl) ?_
  intro K' hK'
  have hxs := Blk.new ws1 55 #[.int .i64 0, .int .i64 4]
  have hbb := (Below.refl ws1.heap.size ws1).alloc (Nat.le_refl _) (.cells #[.int .i64 0, .int .i64 4] 55)
  have hx2 := hx1.trans (hbb.mono hx1.size)
  go_wp2
  generalize ws1.alloc (.cells #[.int .i64 0, .int .i64 4] 55) = ws2 at *
  refine hK' _ _ ⟨⟨⟨ws2, hx2⟩, rfl⟩, ?_⟩
  clear hK' K'
  refine schedH_c (by rfl) (by rfl) ?_
  intro K' hK'
  go_wp2_with fail
  refine (exPlan1 _ _ ws2 (hE.call hx2).cyl (Arr.lit hxs hxs.lt rfl (by decide) (by decide) rfl)).mono ?_
  rintro e w2 ⟨rfl, hbw⟩
  have hx3 := hx2.trans (hbw.mono hx2.size)
  go_wp2
  refine hK' _ _ ⟨⟨⟨w2, hx3⟩, rfl⟩, ?_⟩
  clear hK' K'
  refine schedH_q (by rfl) (by rfl) ?_
  intro K hK
  go_big_quiet_op
  go_big_quiet_on
  refine schedH_nil ?_
  replace hE := hE.call hx3
  replace hB := hB.trans (hx3.mono hB.size)
  replace hS := (hS.below hx3).more hx3.size
  clear f0 f1 f2 f3 f4 hx1 hx2 hx3 hbw hbb hxs
  obtain ⟨k0, k1, k2, k3, k4⟩ := hE.c5
  have f0 := Ext.of k0
  have f1 := Ext.of k1
  have f2 := Ext.of k2
  have f3 := Ext.of k3
  have f4 := Ext.of k4
  clear k0 k1 k2 k3 k4
  go_wp2_with fail
  refine wp_region_schedH (C := fun w' => ∃ x : Ext w2, w' = x.w) [(0, true), (1, false), (2, false), (3, false), (4, true)] (by kernel_rfl) (by kernel_rfl) ⟨⟨(w2).drew, (Below.refl _ w2).drew⟩, rfl⟩ ?_
  refine schedH_q (by rfl) (by rfl) ?_
  intro K hK
  go_big_quiet_op
  go_big_quiet_on
  have hxd : Below (w2).heap.size w2 (w2).drew := (Below.refl (w2).heap.size w2).drew
  refine schedH_c (by rfl) (by rfl) ?_
  intro K' hK'
  go_wp2_with fail
  refine (stretch_ok 2 5 (w2).drew).mono ?_
  rintro e ws1 ⟨rfl, hbs⟩
  have hx1 : Below (w2).heap.size w2 ws1 := (hxd).trans (hbs.mono (hxd).size)
  clear hbs
  go_wp2
  refine hK' _ _ ⟨⟨⟨ws1, hx1⟩, rfl⟩, ?_⟩
  clear hK' K'
  refine schedH_c (by rfl) (by rfl) ?_
  intro K' hK'
  have hxs := Blk.new ws1 55 #[.int .i64 2, .int .i64 5]
  have hbb := (Below.refl ws1.heap.size ws1).alloc (Nat.le_refl _) (.cells #[.int .i64 2, .int .i64 5] 55)
  have hx2 := hx1.trans (hbb.mono hx1.size)
  go_wp2
  generalize ws1.alloc (.cells #[.int .i64 2, .int .i64 5] 55) = ws2 at *
  refine hK' _ _ ⟨⟨⟨ws2, hx2⟩, rfl⟩, ?_⟩
  clear hK' K'
  refine schedH_c (by rfl) (by rfl) ?_
  intro K' hK'
  go_wp2_with fail
  refine (exPlan2 _ _ ws2 (hE.call hx2).cyl (Arr.lit hxs hxs.lt rfl (by decide) (by decide) rfl)).mono ?_
  rintro e w3 ⟨rfl, hbw⟩
  have hx3 := hx2.trans (hbw.mono hx2.size)
  go_wp2
  refine hK' _ _ ⟨⟨⟨w3, hx3⟩, rfl⟩, ?_⟩
  clear hK' K'
  refine schedH_q (by rfl) (by rfl) ?_
  intro K hK
  go_big_quiet_op
  go_big_quiet_on
  refine schedH_nil ?_
  replace hE := hE.call hx3
  replace hB := hB.trans (hx3.mono hB.size)
  replace hS := (hS.below hx3).more hx3.size
  clear f0 f1 f2 f3 f4 hx1 hx2 hx3 hbw hbb hxs
  obtain ⟨k0, k1, k2, k3, k4⟩ := hE.c5
  go_wp2_with fail
  refine (exWorths _ w3 hE.cyl).mono ?_
  rintro e w4 ⟨wA, wc, rfl, hW, hb⟩
  replace hE := hE.call hb
  replace hB := hB.trans ((hb).mono hB.size)
  replace hS := (hS.below hb).more (hb).size
  clear k0 k1 k2 k3 k4
  replace hW : Arr w4 w4.heap.size 1 (.slice wA 3 wc) [0, 9, 15] icell := hW
  clear hb
  obtain ⟨k0, k1, k2, k3, k4⟩ := hE.c5
  go_wp2_with fail
  refine (exBest _ w4 hE.cyl).mono ?_
  rintro e w5 ⟨bA, bc, rfl, hT, hb⟩
  replace hE := hE.call hb
  replace hB := hB.trans ((hb).mono hB.size)
  replace hS := (hS.below hb).more (hb).size
  clear k0 k1 k2 k3 k4
  replace hW := (hW.below hb).more hb.size
  clear hb
  obtain ⟨k0, k1, k2, k3, k4⟩ := hE.c5
  go_wp2_with fail
  refine (exKinds _ w5 hE.cyl).mono ?_
  rintro e w6 ⟨kA, kc, rfl, hD, hb⟩
  replace hE := hE.call hb
  replace hB := hB.trans ((hb).mono hB.size)
  replace hS := (hS.below hb).more (hb).size
  clear k0 k1 k2 k3 k4
  replace hW := (hW.below hb).more hb.size
  replace hT := (hT.below hb).more hb.size
  clear hb
  obtain ⟨k0, k1, k2, k3, k4⟩ := hE.c5
  go_wp2_with fail
  refine (exFew _ 10 w6 hE.cyl ex_few10).mono ?_
  rintro e w7 ⟨rfl, hb⟩
  replace hE := hE.call hb
  replace hB := hB.trans ((hb).mono hB.size)
  replace hS := (hS.below hb).more (hb).size
  clear k0 k1 k2 k3 k4
  replace hW := (hW.below hb).more hb.size
  replace hT := (hT.below hb).more hb.size
  replace hD := (hD.below hb).more hb.size
  clear hb
  obtain ⟨k0, k1, k2, k3, k4⟩ := hE.c5
  go_wp2_with fail
  refine (exFew _ 16 w7 hE.cyl ex_few16).mono ?_
  rintro e w8 ⟨rfl, hb⟩
  replace hE := hE.call hb
  replace hB := hB.trans ((hb).mono hB.size)
  replace hS := (hS.below hb).more (hb).size
  clear k0 k1 k2 k3 k4
  replace hW := (hW.below hb).more hb.size
  replace hT := (hT.below hb).more hb.size
  replace hD := (hD.below hb).more hb.size
  clear hb
  obtain ⟨k0, k1, k2, k3, k4⟩ := hE.c5
  go_wp2_with fail
  refine (exLabels _ w8 hE.cyl).mono ?_
  rintro e w9 ⟨lA, ln, lc, rfl, hL, hb⟩
  replace hE := hE.call hb
  replace hB := hB.trans ((hb).mono hB.size)
  replace hS := (hS.below hb).more (hb).size
  clear k0 k1 k2 k3 k4
  replace hW := (hW.below hb).more hb.size
  replace hT := (hT.below hb).more hb.size
  replace hD := (hD.below hb).more hb.size
  clear hb
  obtain ⟨k0, k1, k2, k3, k4⟩ := hE.c5
  go_wp2_with fail
  refine (exCheck _ _ w9 hE.cyl hL).mono ?_
  rintro e w10 ⟨rfl, hb⟩
  replace hE := hE.call hb
  replace hB := hB.trans ((hb).mono hB.size)
  replace hS := (hS.below hb).more (hb).size
  clear k0 k1 k2 k3 k4
  replace hW := (hW.below hb).more hb.size
  replace hT := (hT.below hb).more hb.size
  replace hD := (hD.below hb).more hb.size
  clear hb hL hE
  obtain ⟨tb, toff, t0, rfl, htb, ht0, htc0⟩ := hT.at_ (k := 0) (by decide)
  obtain ⟨tb', toff', t1, hte, _, ht1, htc1⟩ := hT.at_ (k := 1) (by decide)
  simp only [Option.some.injEq, Addr.mk.injEq, and_true] at hte
  obtain ⟨rfl, rfl⟩ := hte
  simp at ht0 ht1
  subst ht0 ht1
  have c0 := htc0 0 (by omega)
  have c1 := htc0 1 (by omega)
  have c2 := htc1 0 (by omega)
  have c3 := htc1 1 (by omega)
  simp only [Nat.zero_mul, Nat.one_mul, Nat.add_zero, scell] at c0 c1 c2 c3
  clear htc0 htc1
  obtain ⟨_, _, hcap⟩ := hT.len_
  have f0 := Ext.of c0
  have f1 := Ext.of c1
  have f2 := Ext.of c2
  have f3 := Ext.of c3
  have hgs := guard_str
  have hq1 : ∀ w', (Op.equalIn 10000 55 (.agg #[.int .i64 1, .int .i64 4]) (.agg #[.int .i64 1, .int .i64 4])).run Try.prog w' = .ok true w' := fun w' => eq_str 1 4 1 4 w'
  have hq2 : ∀ w', (Op.equalIn 10000 55 (.agg #[.int .i64 6, .int .i64 9]) (.agg #[.int .i64 6, .int .i64 9])).run Try.prog w' = .ok true w' := fun w' => eq_str 6 9 6 9 w'
  clear c0 c1 c2 c3
  go_upto_region 14 with (fail)
  refine wp_region_schedH (C := fun w' => ∃ x : Ext w10, w' = x.w) [(0, true), (1, true), (2, true), (3, true), (4, true), (5, true), (6, true), (7, true), (8, false), (9, false), (10, true), (11, true), (12, true), (13, true), (14, true), (15, true), (16, true), (17, false), (18, false), (19, true), (20, true), (21, true), (22, false), (23, true), (24, true), (25, true), (26, true), (27, true), (28, true), (29, false), (30, true), (31, true), (32, true), (33, true), (34, true), (35, true), (36, false), (37, true), (38, true), (39, true), (40, true), (41, true), (42, true), (43, true), (44, true), (45, false), (46, false), (47, true), (48, true), (49, true), (50, true), (51, true), (52, true)] (by kernel_rfl) (by kernel_rfl) ⟨⟨w10.drew, (Below.refl _ w10).drew⟩, rfl⟩ ?_
  refine schedH_q (by rfl) (by rfl) ?_
  intro K hK
  go_big_quiet_op
  go_big_quiet_on
  refine schedH_q (by rfl) (by rfl) ?_
  intro K hK
  go_big_quiet_op
  go_big_quiet_on
  refine schedH_q (by rfl) (by rfl) ?_
  intro K hK
  go_big_quiet_op
  go_big_quiet_on
  refine schedH_q (by rfl) (by rfl) ?_
  intro K hK
  go_big_quiet_op
  go_big_quiet_on
  refine schedH_q (by rfl) (by rfl) ?_
  intro K hK
  go_big_quiet_op
  go_big_quiet_on
  refine schedH_q (by rfl) (by rfl) ?_
  intro K hK
  go_big_quiet_op
  go_big_quiet_on
  refine schedH_q (by rfl) (by rfl) ?_
  intro K hK
  go_big_quiet_op
  go_big_quiet_on
  refine schedH_q (by rfl) (by rfl) ?_
  intro K hK
  go_big_quiet_op
  go_big_quiet_on
  have hxd : Below w10.heap.size w10 w10.drew := (Below.refl w10.heap.size w10).drew
  refine schedH_c (by rfl) (by rfl) ?_
  intro K' hK'
  have hxs := (Blk.new w10 3 #[.int .i64 0, .int .i64 1, .int .i64 3]).drew
  have hy1 := ((Below.refl w10.heap.size w10).alloc (Nat.le_refl _) (.cells #[.int .i64 0, .int .i64 1, .int .i64 3] 3)).drew
  go_wp2
  generalize (w10.alloc (.cells #[.int .i64 0, .int .i64 1, .int .i64 3] 3)).drew = v1 at *
  refine hK' _ _ ⟨⟨⟨v1, hy1⟩, rfl⟩, ?_⟩
  clear hK' K'
  refine schedH_c (by rfl) (by rfl) ?_
  intro K' hK'
  go_wp2_with fail
  refine (intsT _ _ [0, 1, 3] v1 ((hS.below hy1).more hy1.size) (Arr.lit hxs hxs.lt rfl (by decide) (by decide) rfl)).mono ?_
  rintro e v3 ⟨rfl, hby⟩
  have hv3 := hy1.trans (hby.mono hy1.size)
  go_wp2
  refine hK' _ _ ⟨⟨⟨v3, hv3⟩, rfl⟩, ?_⟩
  clear hK' K'
  clear hxs hby hy1
  refine schedH_q (by rfl) (by rfl) ?_
  intro K hK
  go_big_quiet_op
  go_big_quiet_on
  refine schedH_q (by rfl) (by rfl) ?_
  intro K hK
  go_big_quiet_op
  go_big_quiet_on
  refine schedH_q (by rfl) (by rfl) ?_
  intro K hK
  go_big_quiet_op
  go_big_quiet_on
  refine schedH_q (by rfl) (by rfl) ?_
  intro K hK
  go_big_quiet_op
  go_big_quiet_on
  refine schedH_q (by rfl) (by rfl) ?_
  intro K hK
  go_big_quiet_op
  go_big_quiet_on
  refine schedH_q (by rfl) (by rfl) ?_
  intro K hK
  go_big_quiet_op
  go_big_quiet_on
  refine schedH_q (by rfl) (by rfl) ?_
  intro K hK
  go_big_quiet_op
  go_big_quiet_on
  refine schedH_c (by rfl) (by rfl) ?_
  intro K' hK'
  have hxs := Blk.new v3 2 #[.int .i64 0, .int .i64 9, .int .i64 15]
  have hbb := (Below.refl (v3).heap.size v3).alloc (Nat.le_refl _) (.cells #[.int .i64 0, .int .i64 9, .int .i64 15] 2)
  have hy1 := (hv3).trans (hbb.mono (hv3).size)
  go_wp2
  generalize (v3).alloc (.cells #[.int .i64 0, .int .i64 9, .int .i64 15] 2) = v4 at *
  refine hK' _ _ ⟨⟨⟨v4, hy1⟩, rfl⟩, ?_⟩
  clear hK' K'
  refine schedH_c (by rfl) (by rfl) ?_
  intro K' hK'
  go_wp2_with fail
  refine (longsT _ _ [0, 9, 15] v4 ((hW.below hy1).more hy1.size) (Arr.lit hxs hxs.lt rfl (by decide) (by decide) rfl)).mono ?_
  rintro e v6 ⟨rfl, hby⟩
  have hv6 := hy1.trans (hby.mono hy1.size)
  go_wp2
  refine hK' _ _ ⟨⟨⟨v6, hv6⟩, rfl⟩, ?_⟩
  clear hK' K'
  clear hxs hbb hby hy1
  refine schedH_q (by rfl) (by rfl) ?_
  intro K hK
  go_big_quiet_op
  go_big_quiet_on
  refine schedH_q (by rfl) (by rfl) ?_
  intro K hK
  go_big_quiet_op
  go_big_quiet_on
  refine schedH_q (by rfl) (by rfl) ?_
  intro K hK
  go_big_quiet_op
  go_big_quiet_on
  refine schedH_c (by rfl) (by rfl) ?_
  intro K' hK'
  go_wp2
  refine hK' _ _ ⟨⟨⟨v6, hv6⟩, rfl⟩, ?_⟩
  clear hK' K'
  refine schedH_q (by rfl) (by rfl) ?_
  intro K hK
  go_big_quiet_op
  go_big_quiet_on
  refine schedH_q (by rfl) (by rfl) ?_
  intro K hK
  go_big_quiet_op
  go_big_quiet_on
  refine schedH_q (by rfl) (by rfl) ?_
  intro K hK
  go_big_quiet_op
  go_big_quiet_on
  refine schedH_q (by rfl) (by rfl) ?_
  intro K hK
  go_big_quiet_op
  go_big_quiet_on
  refine schedH_q (by rfl) (by rfl) ?_
  intro K hK
  go_big_quiet_op
  go_big_quiet_on
  refine schedH_q (by rfl) (by rfl) ?_
  intro K hK
  go_big_quiet_op
  go_big_quiet_on
  refine schedH_c (by rfl) (by rfl) ?_
  intro K' hK'
  go_wp2_with fail
  refine (stretch_ok 1 4 v6).mono ?_
  rintro e v7 ⟨rfl, hbs⟩
  have hv7 : Below (w10).heap.size w10 v7 := (hv6).trans (hbs.mono (hv6).size)
  clear hbs
  go_wp2
  refine hK' _ _ ⟨⟨⟨v7, hv7⟩, rfl⟩, ?_⟩
  clear hK' K'
  refine schedH_q (by rfl) (by rfl) ?_
  intro K hK
  go_big_quiet_op
  go_big_quiet_on
  refine schedH_q (by rfl) (by rfl) ?_
  intro K hK
  go_big_quiet_op
  go_big_quiet_on
  refine schedH_q (by rfl) (by rfl) ?_
  intro K hK
  go_big_quiet_op
  go_big_quiet_on
  refine schedH_q (by rfl) (by rfl) ?_
  intro K hK
  go_big_quiet_op
  go_big_quiet_on
  refine schedH_q (by rfl) (by rfl) ?_
  intro K hK
  go_big_quiet_op
  go_big_quiet_on
  refine schedH_q (by rfl) (by rfl) ?_
  intro K hK
  go_big_quiet_op
  go_big_quiet_on
  refine schedH_c (by rfl) (by rfl) ?_
  intro K' hK'
  go_wp2_with fail
  refine (stretch_ok 6 9 v7).mono ?_
  rintro e v8 ⟨rfl, hbs⟩
  have hv8 : Below (w10).heap.size w10 v8 := (hv7).trans (hbs.mono (hv7).size)
  clear hbs
  go_wp2
  refine hK' _ _ ⟨⟨⟨v8, hv8⟩, rfl⟩, ?_⟩
  clear hK' K'
  refine schedH_q (by rfl) (by rfl) ?_
  intro K hK
  go_big_quiet_op
  go_big_quiet_on
  refine schedH_q (by rfl) (by rfl) ?_
  intro K hK
  go_big_quiet_op
  go_big_quiet_on
  refine schedH_q (by rfl) (by rfl) ?_
  intro K hK
  go_big_quiet_op
  go_big_quiet_on
  refine schedH_q (by rfl) (by rfl) ?_
  intro K hK
  go_big_quiet_op
  go_big_quiet_on
  refine schedH_q (by rfl) (by rfl) ?_
  intro K hK
  go_big_quiet_op
  go_big_quiet_on
  refine schedH_q (by rfl) (by rfl) ?_
  intro K hK
  go_big_quiet_op
  go_big_quiet_on
  refine schedH_q (by rfl) (by rfl) ?_
  intro K hK
  go_big_quiet_op
  go_big_quiet_on
  refine schedH_q (by rfl) (by rfl) ?_
  intro K hK
  go_big_quiet_op
  go_big_quiet_on
  refine schedH_c (by rfl) (by rfl) ?_
  intro K' hK'
  have hxs := Blk.new v8 3 #[.int .i64 0, .int .i64 2, .int .i64 2, .int .i64 2, .int .i64 0]
  have hbb := (Below.refl (v8).heap.size v8).alloc (Nat.le_refl _) (.cells #[.int .i64 0, .int .i64 2, .int .i64 2, .int .i64 2, .int .i64 0] 3)
  have hy1 := (hv8).trans (hbb.mono (hv8).size)
  go_wp2
  generalize (v8).alloc (.cells #[.int .i64 0, .int .i64 2, .int .i64 2, .int .i64 2, .int .i64 0] 3) = v9 at *
  refine hK' _ _ ⟨⟨⟨v9, hy1⟩, rfl⟩, ?_⟩
  clear hK' K'
  refine schedH_c (by rfl) (by rfl) ?_
  intro K' hK'
  go_wp2_with fail
  refine (intsT _ _ [0, 2, 2, 2, 0] v9 ((hD.below hy1).more hy1.size) (Arr.lit hxs hxs.lt rfl (by decide) (by decide) rfl)).mono ?_
  rintro e vb ⟨rfl, hby⟩
  have hvb := hy1.trans (hby.mono hy1.size)
  go_wp2
  refine hK' _ _ ⟨⟨⟨vb, hvb⟩, rfl⟩, ?_⟩
  clear hK' K'
  clear hxs hbb hby hy1
  refine schedH_q (by rfl) (by rfl) ?_
  intro K hK
  go_big_quiet_op
  go_big_quiet_on
  refine schedH_q (by rfl) (by rfl) ?_
  intro K hK
  go_big_quiet_op
  go_big_quiet_on
  refine schedH_q (by rfl) (by rfl) ?_
  intro K hK
  go_big_quiet_op
  go_big_quiet_on
  refine schedH_q (by rfl) (by rfl) ?_
  intro K hK
  go_big_quiet_op
  go_big_quiet_on
  refine schedH_q (by rfl) (by rfl) ?_
  intro K hK
  go_big_quiet_op
  go_big_quiet_on
  refine schedH_q (by rfl) (by rfl) ?_
  intro K hK
  go_big_quiet_op
  go_big_quiet_on
  refine schedH_nil ?_
  go_wp2
  go_ret
  exact ⟨rfl, hB.trans (hvb.mono hB.size)⟩
end Go.Proofs.Ythplabmbbfefeaa
