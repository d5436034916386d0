/- The law PlayPlans: the walk. -/
import Derived.Test.YthplabmbbfefeaaLawC
import Derived.Test.YthplabmbbfefeaaRefD
namespace Go.Proofs.Ythplabmbbfefeaa
open Go.RowKit Go.Shelf
set_option linter.unusedVariables false

set_option maxRecDepth 100000 in
set_option maxHeartbeats 3200000 in
theorem plans_ok (v sv : Value) (c : Cyl) (plan : List Str) (w : World) (hv : CylV w w.heap.size v c) (hs : Arr w w.heap.size 2 sv plan scell) :
    Calls Try.prog 3 #[v, sv] w fun r w' => r = .returned (.bool true) ∧ Below w.heap.size w w' := by
  obtain ⟨sa, sc, rfl, hs'⟩ := id hs
  clear hs'
  obtain ⟨fa, fc, pa, pc, rfl, hf, hp⟩ := hv.open_
  have hC := CB.new hf hp
  have hB := (Below.refl w.heap.size w).alloc (Nat.le_refl _) (.cells #[.int .i64 c.turns, .int .i64 c.long, .int .i64 c.plays, .slice fa c.frag.length fc, .slice pa c.pas.length pc] 25)
  go_enter Try.func3, Try.ntmps3
  go_upto_region 1 with (fail)
  generalize hW : w.alloc (.cells #[.int .i64 c.turns, .int .i64 c.long, .int .i64 c.plays, .slice fa c.frag.length fc, .slice pa c.pas.length pc] 25) = W at *
  clear hW hf hp
  obtain ⟨k0, k1, k2, k3, k4⟩ := hC.c5
  have hS := (hs.below hB).more hB.size
  clear hs
  go_wp2_with fail
  refine (great_ok _ c _ hC.cyl).mono ?_
  rintro e w1 ⟨rfl, hb1⟩
  replace hC := hC.call hb1
  replace hB := hB.trans (hb1.mono hB.size)
  replace hS := (hS.below hb1).more hb1.size
  clear k0 k1 k2 k3 k4 hb1
  cases hg : greatB c
  · by_cases hl : 20 < plan.length
    · have d1 : decide (20 < plan.length) = true := by simpa using hl
      have d2 : decide ((20 : Int) < (plan.length : Int)) = true := by simp; omega
      go_wp2_with fail
      refine (works_ok w1).mono ?_
      rintro e wz ⟨rfl, hbz⟩
      go_wp2
      go_ret
      exact ⟨rfl, hB.trans (hbz.mono hB.size)⟩
    · have d1 : decide (20 < plan.length) = false := by simpa using hl
      have d2 : decide ((20 : Int) < (plan.length : Int)) = false := by simp; omega
      obtain ⟨k0, k1, k2, k3, k4⟩ := hC.c5
      go_wp2_with fail
      refine (saves_ok _ _ c plan _ hC.cyl hS).mono ?_
      rintro e w2 ⟨ov, rfl, hO, hb2⟩
      replace hC := hC.call hb2
      replace hB := hB.trans ((hb2).mono hB.size)
      replace hS := (hS.below hb2).more (hb2).size
      clear k0 k1 k2 k3 k4 hb2
      obtain ⟨k0, k1, k2, k3, k4⟩ := hC.c5
      go_wp2_with fail
      refine (rsaves_ok _ _ c plan _ hC.cyl hS).mono ?_
      rintro e w3 ⟨ou, rfl, hU, hb3⟩
      replace hO := (hO.below hb3).more hb3.size
      replace hC := hC.call hb3
      replace hB := hB.trans ((hb3).mono hB.size)
      replace hS := (hS.below hb3).more (hb3).size
      clear k0 k1 k2 k3 k4 hb3
      obtain ⟨k0, k1, k2, k3, k4⟩ := hC.c5
      have f0 := Ext.of k0
      have f1 := Ext.of k1
      have f2 := Ext.of k2
      have f3 := Ext.of k3
      have f4 := Ext.of k4
      have HY := Lib.hid (fun x : Ext w3 => (hC.call x.h).cyl)
      have HP := Lib.hid (fun x : Ext w3 => (hS.below x.h).more x.h.size)
      have H1 := Lib.hid (fun x : Ext w3 => ext_call x (checkCyl_ok _ c x.w (HY.out x)))
      have H2 := Lib.hid (fun x : Ext w3 => ext_call x (rcheckCyl_ok _ c x.w (HY.out x)))
      have H3 := Lib.hid (fun x : Ext w3 => ext_call x (checkPlan_ok _ _ c plan x.w (HY.out x) (HP.out x)))
      have H4 := Lib.hid (fun x : Ext w3 => ext_call x (rcheckPlan_ok _ _ c plan x.w (HY.out x) (HP.out x)))
      have H5 := Lib.hid (fun x : Ext w3 => ext_call x (intsT ov ou _ x.w ((hO.below x.h).more x.h.size) ((hU.below x.h).more x.h.size)))
      have H6 := Lib.hid (fun x : Ext w3 => ext_call x (works_ok x.w))
      generalize hz1 : checkCyl c = z1 at *
      generalize hz2 : checkPlan c plan = z2 at *
      generalize hz3 : (saves c plan).2.1 = z3 at *
      generalize hz4 : (saves c plan).2.2 = z4 at *
      go_upto_region 5 with (fail)
      clear k0 k1 k2 k3 k4
      refine wp_region_ext (by kernel_rfl) (by kernel_rfl) ?_
      repeat (go_big_quiet_step (first | (go_at_call 18; exact H1.out _) | (go_at_call 19; exact H2.out _) | (go_at_call 20; exact H3.out _) | (go_at_call 21; exact H4.out _) | (go_at_call 22; exact H5.out _) | (go_at_call 15; exact H6.out _)))
      refine wpQuiet_nil ?_
      intro _ hw'
      obtain ⟨xr, hw''⟩ := hw'
      subst hw''
      go_wp2
      go_ret
      exact ⟨rfl, hB.trans (xr.h.mono hB.size)⟩
  · go_wp2_with fail
    refine (works_ok w1).mono ?_
    rintro e wz ⟨rfl, hbz⟩
    go_wp2
    go_ret
    exact ⟨rfl, hB.trans (hbz.mono hB.size)⟩
end Go.Proofs.Ythplabmbbfefeaa
