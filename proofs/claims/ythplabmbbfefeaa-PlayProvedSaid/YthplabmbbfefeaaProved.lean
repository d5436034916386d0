/- The law PlayProved: the walk. -/
import Derived.Test.YthplabmbbfefeaaLawC
import Derived.Test.YthplabmbbfefeaaBy
import Derived.Test.YthplabmbbfefeaaRefX
import Derived.Test.YthplabmbbfefeaaChkL
import Derived.Test.YthplabmbbfefeaaRefD
import Derived.Test.YthplabmbbfefeaaOut
namespace Go.Proofs.Ythplabmbbfefeaa
open Go.RowKit Go.Shelf
set_option linter.unusedVariables false

set_option maxRecDepth 100000 in
set_option maxHeartbeats 3200000 in
theorem lproved_ok (v bv gv lv : Value) (c : Cyl) (bl : List (Fin 256 × Fin 256)) (given : List Str) (l : List Int) (w : World) (hv : CylV w w.heap.size v c) (hbl : Arr w w.heap.size 2 bv bl bycell) (hgl : Arr w w.heap.size 2 gv given scell) (hll : Arr w w.heap.size 1 lv l icell) :
    Calls Try.prog 13 #[v, bv, gv, lv] w fun r w' => r = .returned (.bool true) ∧ Below w.heap.size w w' := by
  obtain ⟨ba, bc, rfl, hs'⟩ := id hbl
  obtain ⟨ga, gc, rfl, hs''⟩ := id hgl
  obtain ⟨la, lc, rfl, hs'''⟩ := id hll
  clear hs' hs'' hs'''
  obtain ⟨fa, fc, pa, pc, rfl, hf, hp⟩ := hv.open_
  have hC := CB.new hf hp
  have hB := (Below.refl w.heap.size w).alloc (Nat.le_refl _) (.cells #[.int .i64 c.turns, .int .i64 c.long, .int .i64 c.plays, .slice fa c.frag.length fc, .slice pa c.pas.length pc] 25)
  go_enter Try.func13, Try.ntmps13
  go_upto_region 1 with (fail)
  generalize hW : w.alloc (.cells #[.int .i64 c.turns, .int .i64 c.long, .int .i64 c.plays, .slice fa c.frag.length fc, .slice pa c.pas.length pc] 25) = W at *
  clear hW hf hp
  obtain ⟨k0, k1, k2, k3, k4⟩ := hC.c5
  have h1 := (hbl.below hB).more hB.size
  have h2 := (hgl.below hB).more hB.size
  have h3 := (hll.below hB).more hB.size
  clear hbl hgl hll
  go_wp2_with fail
  refine (fine_ok _ c _ hC.cyl).mono ?_
  rintro e w1 ⟨rfl, hb1⟩
  replace hC := hC.call hb1
  replace hB := hB.trans ((hb1).mono hB.size)
  replace h1 := (h1.below hb1).more (hb1).size
  replace h2 := (h2.below hb1).more (hb1).size
  replace h3 := (h3.below hb1).more (hb1).size
  clear k0 k1 k2 k3 k4 hb1
  cases hg : fineB c
  · go_wp2_with fail
    refine (works_ok w1).mono ?_
    rintro e wz ⟨rfl, hbz⟩
    go_wp2
    go_ret
    exact ⟨rfl, hB.trans (hbz.mono hB.size)⟩
  · have h0 : checkCyl c = 0 := by
      unfold fineB at hg
      simp at hg
      exact hg.2
    have H0 := Lib.hid h0
    clear h0
    by_cases hl1 : 20 < bl.length
    · have d1 : decide (20 < bl.length) = true := by simpa using hl1
      have d1' : decide ((20 : Int) < (bl.length : Int)) = true := by simp; omega
      go_wp2_with fail
      refine (works_ok w1).mono ?_
      rintro e wz ⟨rfl, hbz⟩
      go_wp2
      go_ret
      exact ⟨rfl, hB.trans (hbz.mono hB.size)⟩
    · have d1 : decide (20 < bl.length) = false := by simpa using hl1
      have d1' : decide ((20 : Int) < (bl.length : Int)) = false := by simp; omega
      by_cases hl2 : 20 < given.length
      · have d2 : decide (20 < given.length) = true := by simpa using hl2
        have d2' : decide ((20 : Int) < (given.length : Int)) = true := by simp; omega
        go_wp2_with fail
        refine (works_ok w1).mono ?_
        rintro e wz ⟨rfl, hbz⟩
        go_wp2
        go_ret
        exact ⟨rfl, hB.trans (hbz.mono hB.size)⟩
      · have d2 : decide (20 < given.length) = false := by simpa using hl2
        have d2' : decide ((20 : Int) < (given.length : Int)) = false := by simp; omega
        by_cases hl3 : 300 < l.length
        · have d3 : decide (300 < l.length) = true := by simpa using hl3
          have d3' : decide ((300 : Int) < (l.length : Int)) = true := by simp; omega
          go_wp2_with fail
          refine (works_ok w1).mono ?_
          rintro e wz ⟨rfl, hbz⟩
          go_wp2
          go_ret
          exact ⟨rfl, hB.trans (hbz.mono hB.size)⟩
        · have d3 : decide (300 < l.length) = false := by simpa using hl3
          have d3' : decide ((300 : Int) < (l.length : Int)) = false := by simp; omega
          have HB : Hid (bestOf c = (wayOf c, mostOf c, 0)) := best_ok_eq H0.out
          have HS : Hid ((saves c (wayOf c)).2 = (mostOf c, 0)) := way_saves H0.out
          have HL : Hid (checkLab c (labelsOf c) = (mostOf c, 0)) := labels_check H0.out
          have HP := Lib.hid (fun q => (checkPlan_iff H0.out q).2)
          have HY := Lib.hid (fun (q : List Str) (hq : IsPlan c (tK c) q) => mostK_ge H0.out (Nat.le_refl _) hq)
          have HG := Lib.hid (fun (h : (saves c given).2.2 = 0) => saves_le H0.out h)
          have HU := Lib.hid (fun (h : (checkLab c l).2 = 0) => checkLab_up H0.out h)
          obtain ⟨k0, k1, k2, k3, k4⟩ := hC.c5
          go_wp2_with fail
          refine (best_ok _ c _ hC.cyl).mono ?_
          rintro e w2 ⟨oq, rfl, hQ, hb2⟩
          replace hC := hC.call hb2
          replace hB := hB.trans ((hb2).mono hB.size)
          replace h1 := (h1.below hb2).more (hb2).size
          replace h2 := (h2.below hb2).more (hb2).size
          replace h3 := (h3.below hb2).more (hb2).size
          clear k0 k1 k2 k3 k4 hb2
          rw [HB.out] at hQ
          rw [HB.out]
          dsimp only at hQ ⊢
          obtain ⟨qa, qc, rfl, -⟩ := id hQ
          obtain ⟨k0, k1, k2, k3, k4⟩ := hC.c5
          go_wp2_with fail
          refine (labels_ok _ c _ hC.cyl).mono ?_
          rintro e w3 ⟨ov, rfl, hO, hb3⟩
          replace hQ := (hQ.below hb3).more hb3.size
          replace hC := hC.call hb3
          replace hB := hB.trans ((hb3).mono hB.size)
          replace h1 := (h1.below hb3).more (hb3).size
          replace h2 := (h2.below hb3).more (hb3).size
          replace h3 := (h3.below hb3).more (hb3).size
          clear k0 k1 k2 k3 k4 hb3
          rw [H0.out]
          obtain ⟨oa, oc, rfl, -⟩ := id hO
          obtain ⟨k0, k1, k2, k3, k4⟩ := hC.c5
          go_wp2_with fail
          refine (saves_ok _ _ c (wayOf c) _ hC.cyl hQ).mono ?_
          rintro e w4 ⟨os, rfl, -, hb4⟩
          rw [HS.out]
          dsimp only
          replace hQ := (hQ.below hb4).more hb4.size
          replace hO := (hO.below hb4).more hb4.size
          replace hC := hC.call hb4
          replace hB := hB.trans ((hb4).mono hB.size)
          replace h1 := (h1.below hb4).more (hb4).size
          replace h2 := (h2.below hb4).more (hb4).size
          replace h3 := (h3.below hb4).more (hb4).size
          clear k0 k1 k2 k3 k4 hb4
          obtain ⟨k0, k1, k2, k3, k4⟩ := hC.c5
          go_wp2_with fail
          refine (rsaves_ok _ _ c (wayOf c) _ hC.cyl hQ).mono ?_
          rintro e w5 ⟨ot, rfl, -, hb5⟩
          rw [HS.out]
          dsimp only
          replace hO := (hO.below hb5).more hb5.size
          replace hC := hC.call hb5
          replace hB := hB.trans ((hb5).mono hB.size)
          replace h1 := (h1.below hb5).more (hb5).size
          replace h2 := (h2.below hb5).more (hb5).size
          replace h3 := (h3.below hb5).more (hb5).size
          clear k0 k1 k2 k3 k4 hb5
          clear hQ
          obtain ⟨k0, k1, k2, k3, k4⟩ := hC.c5
          go_wp2_with fail
          refine (checkLabels_ok _ _ c (labelsOf c) _ hC.cyl hO).mono ?_
          rintro e w6 ⟨rfl, hb6⟩
          rw [HL.out]
          dsimp only
          replace hO := (hO.below hb6).more hb6.size
          replace hC := hC.call hb6
          replace hB := hB.trans ((hb6).mono hB.size)
          replace h1 := (h1.below hb6).more (hb6).size
          replace h2 := (h2.below hb6).more (hb6).size
          replace h3 := (h3.below hb6).more (hb6).size
          clear k0 k1 k2 k3 k4 hb6
          obtain ⟨k0, k1, k2, k3, k4⟩ := hC.c5
          go_wp2_with fail
          refine (rcheckLabels_ok _ _ c (labelsOf c) _ hC.cyl hO).mono ?_
          rintro e w7 ⟨rfl, hb7⟩
          rw [HL.out]
          dsimp only
          replace hC := hC.call hb7
          replace hB := hB.trans ((hb7).mono hB.size)
          replace h1 := (h1.below hb7).more (hb7).size
          replace h2 := (h2.below hb7).more (hb7).size
          replace h3 := (h3.below hb7).more (hb7).size
          clear k0 k1 k2 k3 k4 hb7
          clear hO
          obtain ⟨k0, k1, k2, k3, k4⟩ := hC.c5
          have HY' : Hid (∀ (q : List Str), IsPlan c (tK c) q → worthP c q ≤ mostOf c) := HY.out
          clear HY HB HS HL
          generalize mostOf c = z1 at *
          have f0 := Ext.of k0
          have f1 := Ext.of k1
          have f2 := Ext.of k2
          have f3 := Ext.of k3
          have f4 := Ext.of k4
          clear k0 k1 k2 k3 k4
          go_wp2_with fail
          refine wp_region_schedH (C := fun w' => ∃ x : Ext w7, w' = x.w) [(0, true), (1, true), (2, true), (3, false), (4, false), (5, true), (6, true), (7, true), (8, true), (9, true), (10, true), (11, true)] (by kernel_rfl) (by kernel_rfl) ⟨⟨w7.drew, (Below.refl _ w7).drew⟩, rfl⟩ ?_
          have hxd : Below w7.heap.size w7 w7.drew := (Below.refl w7.heap.size w7).drew
          refine schedH_q (by rfl) (by rfl) ?_
          intro K hK
          go_big_quiet_op
          go_big_quiet_on
          refine schedH_q (by rfl) (by rfl) ?_
          intro K hK
          go_big_quiet_op
          go_big_quiet_on
          refine schedH_q (by rfl) (by rfl) ?_
          intro K hK
          go_big_quiet_op
          go_big_quiet_on
          refine schedH_c (by rfl) (by rfl) ?_
          intro K' hK'
          go_wp2_with fail
          refine (by_ok _ _ c bl w7.drew (hC.call hxd).cyl ((h1.below hxd).more hxd.size) H0.out).mono ?_
          rintro e w8 ⟨ya, yc, yl, rfl, hY, hyp, hb8⟩
          have hx8 := hxd.trans (hb8.mono hxd.size)
          go_wp2
          refine hK' _ _ ⟨⟨⟨w8, hx8⟩, rfl⟩, ?_⟩
          clear hK' K'
          have HS : Hid ((saves c yl).2 = (worthP c yl, 0)) := by
            rw [saves_plan (HP.out yl hyp)]
            exact rfl
          have hle : worthP c yl ≤ z1 := HY'.out yl hyp
          refine schedH_c (by rfl) (by rfl) ?_
          intro K' hK'
          go_wp2_with fail
          refine (saves_ok _ _ c yl _ (hC.call hx8).cyl hY).mono ?_
          rintro e w9 ⟨ou, rfl, -, hb9⟩
          rw [HS.out]
          dsimp only
          have hx9 := hx8.trans (hb9.mono hx8.size)
          go_wp2
          refine hK' _ _ ⟨⟨⟨w9, hx9⟩, rfl⟩, ?_⟩
          clear hK' K'
          refine schedH_q (by rfl) (by rfl) ?_
          intro K hK
          go_big_quiet_op
          go_big_quiet_on
          refine schedH_q (by rfl) (by rfl) ?_
          intro K hK
          go_big_quiet_op
          go_big_quiet_on
          refine schedH_q (by rfl) (by rfl) ?_
          intro K hK
          go_big_quiet_op
          go_big_quiet_on
          refine schedH_q (by rfl) (by rfl) ?_
          intro K hK
          go_big_quiet_op
          go_big_quiet_on
          refine schedH_q (by rfl) (by rfl) ?_
          intro K hK
          go_big_quiet_op
          go_big_quiet_on
          refine schedH_q (by rfl) (by rfl) ?_
          intro K hK
          go_big_quiet_op
          go_big_quiet_on
          refine schedH_q (by rfl) (by rfl) ?_
          intro K hK
          go_big_quiet_op
          go_big_quiet_on
          refine schedH_nil ?_
          replace hC := hC.call hx9
          replace hB := hB.trans (hx9.mono hB.size)
          replace h1 := (h1.below hx9).more hx9.size
          replace h2 := (h2.below hx9).more hx9.size
          replace h3 := (h3.below hx9).more hx9.size
          clear f0 f1 f2 f3 f4 hxd hx8 hx9 hb8 hb9 HS hY hyp
          have d4 : decide (z1 < worthP c yl) = false := by simpa using hle
          obtain ⟨k0, k1, k2, k3, k4⟩ := hC.c5
          generalize worthP c yl = z2 at *
          go_wp2_with fail
          refine (saves_ok _ _ c given _ hC.cyl h2).mono ?_
          rintro e w10 ⟨ow, rfl, -, hb10⟩
          replace hC := hC.call hb10
          replace hB := hB.trans ((hb10).mono hB.size)
          replace h1 := (h1.below hb10).more (hb10).size
          replace h2 := (h2.below hb10).more (hb10).size
          replace h3 := (h3.below hb10).more (hb10).size
          clear k0 k1 k2 k3 k4 hb10
          have HG' := Lib.hid (fun (h : (saves c given).2.2 = 0) => HG.out h)
          clear HG
          generalize (saves c given).2.2 = y2 at *
          generalize (saves c given).2.1 = y1 at *
          obtain ⟨k0, k1, k2, k3, k4⟩ := hC.c5
          go_wp2_with fail
          refine (checkLabels_ok _ _ c l _ hC.cyl h3).mono ?_
          rintro e w11 ⟨rfl, hb11⟩
          replace hC := hC.call hb11
          replace hB := hB.trans ((hb11).mono hB.size)
          replace h1 := (h1.below hb11).more (hb11).size
          replace h2 := (h2.below hb11).more (hb11).size
          replace h3 := (h3.below hb11).more (hb11).size
          clear k0 k1 k2 k3 k4 hb11
          have HU' := Lib.hid (fun (h : (checkLab c l).2 = 0) => HU.out h)
          clear HU
          generalize (checkLab c l).2 = x2 at *
          generalize (checkLab c l).1 = x1 at *
          by_cases g1 : y2 = 0
          · have q1 : decide (y1 ≤ z1) = true := by simpa using HG'.out g1
            subst g1
            by_cases g2 : x2 = 0
            · have q2 : decide (z1 ≤ x1) = true := by simpa using HU'.out g2
              subst g2
              clear HG' HU'
              go_wp2_with fail
              refine (works_ok w11).mono ?_
              rintro e wz ⟨rfl, hbz⟩
              go_wp2
              go_ret
              exact ⟨rfl, hB.trans (hbz.mono hB.size)⟩
            · have q2 : (x2 == 0) = false := by simpa using g2
              clear HG' HU'
              go_wp2_with fail
              refine (works_ok w11).mono ?_
              rintro e wz ⟨rfl, hbz⟩
              go_wp2
              go_ret
              exact ⟨rfl, hB.trans (hbz.mono hB.size)⟩
          · have q1 : (y2 == 0) = false := by simpa using g1
            by_cases g2 : x2 = 0
            · have q2 : decide (z1 ≤ x1) = true := by simpa using HU'.out g2
              subst g2
              clear HG' HU'
              go_wp2_with fail
              refine (works_ok w11).mono ?_
              rintro e wz ⟨rfl, hbz⟩
              go_wp2
              go_ret
              exact ⟨rfl, hB.trans (hbz.mono hB.size)⟩
            · have q2 : (x2 == 0) = false := by simpa using g2
              clear HG' HU'
              go_wp2_with fail
              refine (works_ok w11).mono ?_
              rintro e wz ⟨rfl, hbz⟩
              go_wp2
              go_ret
              exact ⟨rfl, hB.trans (hbz.mono hB.size)⟩
end Go.Proofs.Ythplabmbbfefeaa
