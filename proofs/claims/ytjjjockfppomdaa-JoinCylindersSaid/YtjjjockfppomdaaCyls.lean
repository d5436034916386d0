/- Contract of the law JoinCylinders: true. -/
import Derived.Test.YtjjjockfppomdaaWrk
namespace Go.Proofs.Ytjjjockfppomdaa
open Go.RowKit Go.Shelf
set_option linter.unusedVariables false

set_option maxRecDepth 100000 in
set_option maxHeartbeats 1600000 in
theorem cylinders_ok (v lv : Value) (c : Cyl) (x y : St) (l : List St) (w : World) (hv : CylV w w.heap.size v c) (hl : Arr w w.heap.size 2 lv l stcell) :
    Calls Try.prog 3 #[v, stV2 x, stV2 y, lv] w fun r w' => r = .returned (.bool true) ∧ Below w.heap.size w w' := by
  obtain ⟨xp, xt⟩ := x
  obtain ⟨yp, yt⟩ := y
  obtain ⟨la, lc, rfl, hl1, hl2, -⟩ := id hl
  obtain ⟨pa, pc, rfl, hp⟩ := hv.open_
  have hC := CB.new hp
  have hB := (Below.refl w.heap.size w).alloc (Nat.le_refl _) (.cells #[.slice pa c.pcs.length pc, .int .i64 c.off, .int .i64 c.slo, .int .i64 c.shi] 26)
  go_enter Try.func3, Try.ntmps3
  go_upto_region 1 with (fail)
  have HWS : Hid ((w.alloc (.cells #[.slice pa c.pcs.length pc, .int .i64 c.off, .int .i64 c.slo, .int .i64 c.shi] 26)).heap.size = w.heap.size + 1) := by simp [Hid]
  generalize hW : w.alloc (.cells #[.slice pa c.pcs.length pc, .int .i64 c.off, .int .i64 c.slo, .int .i64 c.shi] 26) = W at *
  clear hW hp
  have hbA := (Below.refl W.heap.size W).alloc (Nat.le_refl _) (.cells #[.int .i64 xp, .bool xt] 28)
  have hS := Blk.new W 28 #[.int .i64 xp, .bool xt]
  have hz1 : (W.alloc (.cells #[.int .i64 xp, .bool xt] 28)).heap.size = W.heap.size + 1 := by simp
  rw [HWS.out] at hS hz1
  replace hC := hC.call hbA
  replace hB := hB.trans (hbA.mono hB.size)
  clear hbA
  generalize W.alloc (.cells #[.int .i64 xp, .bool xt] 28) = V at *
  have hbA := (Below.refl V.heap.size V).alloc (Nat.le_refl _) (.cells #[.int .i64 yp, .bool yt] 28)
  have hU := Blk.new V 28 #[.int .i64 yp, .bool yt]
  rw [hz1] at hU
  replace hC := hC.call hbA
  replace hS := hS.call hbA
  replace hB := hB.trans (hbA.mono hB.size)
  clear hbA hz1
  generalize V.alloc (.cells #[.int .i64 yp, .bool yt] 28) = V2 at *
  obtain ⟨k0, k1, k2, k3⟩ := hC.c4
  have s0 := hS.cell 0
  have s1 := hS.cell 1
  have u0 := hU.cell 0
  have u1 := hU.cell 1
  simp at s0 s1 u0 u1
  by_cases hbig : 12 < c.pcs.length ∨ 12 < l.length
  · have hwk := works_ok V2
    by_cases h1 : 12 < c.pcs.length
    · have d1 : decide ((12 : Int) < (c.pcs.length : Int)) = true := by simp; omega
      have d1' : decide (12 < c.pcs.length) = true := by simpa using h1
      go_wp2_with fail
      refine hwk.mono ?_
      rintro e w1 ⟨rfl, hb1⟩
      go_wp2
      go_ret
      exact ⟨rfl, hB.trans (hb1.mono hB.size)⟩
    · have h2 : 12 < l.length := by omega
      have d1 : decide ((12 : Int) < (c.pcs.length : Int)) = false := by simp; omega
      have d1' : decide (12 < c.pcs.length) = false := by simpa using h1
      have d2 : decide ((12 : Int) < (l.length : Int)) = true := by simp; omega
      have d2' : decide (12 < l.length) = true := by simpa using h2
      go_wp2_with fail
      refine hwk.mono ?_
      rintro e w1 ⟨rfl, hb1⟩
      go_wp2
      go_ret
      exact ⟨rfl, hB.trans (hb1.mono hB.size)⟩
  · have d1 : decide ((12 : Int) < (c.pcs.length : Int)) = false := by simp; omega
    have d1' : decide (12 < c.pcs.length) = false := by simp; omega
    have d2 : decide ((12 : Int) < (l.length : Int)) = false := by simp; omega
    have d2' : decide (12 < l.length) = false := by simp; omega
    go_wp2_with fail
    refine (fits2_ok _ c ⟨xp, xt⟩ ⟨yp, yt⟩ V2 hC.cyl).mono ?_
    rintro e w1 ⟨rfl, hb1⟩
    replace hC := hC.call hb1
    replace hS := hS.call hb1
    replace hU := hU.call hb1
    replace hB := hB.trans (hb1.mono hB.size)
    clear k0 k1 k2 k3 s0 s1 u0 u1 hb1
    obtain ⟨k0, k1, k2, k3⟩ := hC.c4
    have s0 := hS.cell 0
    have s1 := hS.cell 1
    have u0 := hU.cell 0
    have u1 := hU.cell 1
    simp at s0 s1 u0 u1
    go_wp2_with fail
    refine (rfits_ok _ c ⟨xp, xt⟩ ⟨yp, yt⟩ w1 hC.cyl).mono ?_
    rintro e w2 ⟨rfl, hb1⟩
    replace hC := hC.call hb1
    replace hB := hB.trans (hb1.mono hB.size)
    clear k0 k1 k2 k3 s0 s1 u0 u1 hb1 hS hU
    obtain ⟨k0, k1, k2, k3⟩ := hC.c4
    have f0 := Ext.of k0
    have f1 := Ext.of k1
    have f2 := Ext.of k2
    have f3 := Ext.of k3
    clear k0 k1 k2 k3
    have hl2x : ∀ y : Ext w2, Arr y.w y.w.heap.size 2 (.slice la l.length lc) l stcell := fun y => ((hl.below hB).more hB.size |>.below y.h).more y.h.size
    have hcx : ∀ y : Ext w2, CylV y.w y.w.heap.size (.agg #[.slice pa c.pcs.length pc, .int .i64 c.off, .int .i64 c.slo, .int .i64 c.shi]) c := fun y => (hC.call y.h).cyl
    have HA1 : Hid (∀ y : Ext w2, Calls Try.prog 16 #[.agg #[.slice pa c.pcs.length pc, .int .i64 c.off, .int .i64 c.slo, .int .i64 c.shi]] y.w fun r w' => r = .returned (.int .i64 (checkCyl c)) ∧ ∃ z : Ext w2, w' = z.w) := fun y => ext_call y (checkCyl_ok _ c y.w (hcx y))
    have HA2 : Hid (∀ y : Ext w2, Calls Try.prog 17 #[.agg #[.slice pa c.pcs.length pc, .int .i64 c.off, .int .i64 c.slo, .int .i64 c.shi]] y.w fun r w' => r = .returned (.int .i64 (checkCyl c)) ∧ ∃ z : Ext w2, w' = z.w) := fun y => ext_call y (rcheckCyl_ok _ c y.w (hcx y))
    have HA3 : Hid (∀ y : Ext w2, Calls Try.prog 18 #[.agg #[.slice pa c.pcs.length pc, .int .i64 c.off, .int .i64 c.slo, .int .i64 c.shi], .slice la l.length lc] y.w fun r w' => r = .returned (.int .i64 (checkJoin c l)) ∧ ∃ z : Ext w2, w' = z.w) := fun y => ext_call y (checkJoin_ok _ _ c l y.w (hcx y) (hl2x y))
    have HA4 : Hid (∀ y : Ext w2, Calls Try.prog 19 #[.agg #[.slice pa c.pcs.length pc, .int .i64 c.off, .int .i64 c.slo, .int .i64 c.shi], .slice la l.length lc] y.w fun r w' => r = .returned (.int .i64 (checkJoin c l)) ∧ ∃ z : Ext w2, w' = z.w) := fun y => ext_call y (rcheckJoin_ok _ _ c l y.w (hcx y) (hl2x y))
    have HA5 : Hid (∀ y : Ext w2, Calls Try.prog 13 #[] y.w fun r w' => r = .returned (.bool true) ∧ ∃ z : Ext w2, w' = z.w) := fun y => ext_call y (works_ok y.w)
    clear hl2x hcx hC
    generalize (fitsOf c ⟨xp, xt⟩ ⟨yp, yt⟩).1 = fa at *
    generalize (fitsOf c ⟨xp, xt⟩ ⟨yp, yt⟩).2 = fe at *
    generalize checkCyl c = ce at *
    generalize checkJoin c l = je at *
    have hfa : (fa == fa) = true := by simp
    go_upto_region 5 with (fail)
    refine wp_region_ext (by kernel_rfl) (by kernel_rfl) ?_
    repeat (go_big_quiet_step ((first | (go_at_call 16; with_reducible exact HA1.out _) | (go_at_call 17; with_reducible exact HA2.out _) | (go_at_call 18; with_reducible exact HA3.out _) | (go_at_call 19; with_reducible exact HA4.out _) | (go_at_call 13; with_reducible exact HA5.out _))))
    refine wpQuiet_nil ?_
    intro _ hw'
    obtain ⟨xr, hw''⟩ := hw'
    subst hw''
    go_wp2
    go_ret
    exact ⟨rfl, hB.trans (xr.h.mono hB.size)⟩
end Go.Proofs.Ytjjjockfppomdaa
