/- The law PlayLabels: the walk. -/
import Derived.Test.YthplabmbbfefeaaLawC
import Derived.Test.YthplabmbbfefeaaRefX
import Derived.Test.YthplabmbbfefeaaChkL
import Derived.Test.YthplabmbbfefeaaRefW
import Derived.Test.YthplabmbbfefeaaPln
namespace Go.Proofs.Ythplabmbbfefeaa
open Go.RowKit Go.Shelf
set_option linter.unusedVariables false

set_option maxRecDepth 100000 in
set_option maxHeartbeats 3200000 in
theorem llabels_ok (v sv : Value) (c : Cyl) (l : List Int) (w : World) (hv : CylV w w.heap.size v c) (hs : Arr w w.heap.size 1 sv l icell) :
    Calls Try.prog 12 #[v, sv] w fun r w' => r = .returned (.bool true) ∧ Below w.heap.size w w' := by
  obtain ⟨sa, sc, rfl, hs'⟩ := id hs
  clear hs'
  obtain ⟨fa, fc, pa, pc, rfl, hf, hp⟩ := hv.open_
  have hC := CB.new hf hp
  have hB := (Below.refl w.heap.size w).alloc (Nat.le_refl _) (.cells #[.int .i64 c.turns, .int .i64 c.long, .int .i64 c.plays, .slice fa c.frag.length fc, .slice pa c.pas.length pc] 25)
  go_enter Try.func12, Try.ntmps12
  go_upto_region 1 with (fail)
  generalize hW : w.alloc (.cells #[.int .i64 c.turns, .int .i64 c.long, .int .i64 c.plays, .slice fa c.frag.length fc, .slice pa c.pas.length pc] 25) = W at *
  clear hW hf hp
  obtain ⟨k0, k1, k2, k3, k4⟩ := hC.c5
  have hS := (hs.below hB).more hB.size
  clear hs
  go_wp2_with fail
  refine (great_ok _ c _ hC.cyl).mono ?_
  rintro e w1 ⟨rfl, hb1⟩
  replace hC := hC.call hb1
  replace hB := hB.trans (hb1.mono hB.size)
  replace hS := (hS.below hb1).more hb1.size
  clear k0 k1 k2 k3 k4 hb1
  cases hg : greatB c
  · by_cases hl : 300 < l.length
    · have d1 : decide (300 < l.length) = true := by simpa using hl
      have d2 : decide ((300 : Int) < (l.length : Int)) = true := by simp; omega
      go_wp2_with fail
      refine (works_ok w1).mono ?_
      rintro e wz ⟨rfl, hbz⟩
      go_wp2
      go_ret
      exact ⟨rfl, hB.trans (hbz.mono hB.size)⟩
    · have d1 : decide (300 < l.length) = false := by simpa using hl
      have d2 : decide ((300 : Int) < (l.length : Int)) = false := by simp; omega
      obtain ⟨k0, k1, k2, k3, k4⟩ := hC.c5
      go_wp2_with fail
      refine (checkLabels_ok _ _ c l _ hC.cyl hS).mono ?_
      rintro e w2 ⟨rfl, hb2⟩
      replace hC := hC.call hb2
      replace hB := hB.trans ((hb2).mono hB.size)
      replace hS := (hS.below hb2).more (hb2).size
      clear k0 k1 k2 k3 k4 hb2
      obtain ⟨k0, k1, k2, k3, k4⟩ := hC.c5
      go_wp2_with fail
      refine (rcheckLabels_ok _ _ c l _ hC.cyl hS).mono ?_
      rintro e w3 ⟨rfl, hb3⟩
      replace hC := hC.call hb3
      replace hB := hB.trans ((hb3).mono hB.size)
      replace hS := (hS.below hb3).more (hb3).size
      clear k0 k1 k2 k3 k4 hb3
      generalize (checkLab c l).1 = y1 at *
      generalize (checkLab c l).2 = y2 at *
      clear hS
      obtain ⟨k0, k1, k2, k3, k4⟩ := hC.c5
      go_wp2_with fail
      refine (labels_ok _ c _ hC.cyl).mono ?_
      rintro e w4 ⟨ov, rfl, hO, hb4⟩
      obtain ⟨oa, oc, rfl, -⟩ := id hO
      replace hC := hC.call hb4
      replace hB := hB.trans ((hb4).mono hB.size)
      clear k0 k1 k2 k3 k4 hb4
      obtain ⟨k0, k1, k2, k3, k4⟩ := hC.c5
      go_wp2_with fail
      refine (rcheckCyl_ok _ c _ hC.cyl).mono ?_
      rintro e w5 ⟨rfl, hb5⟩
      replace hO := (hO.below hb5).more hb5.size
      replace hC := hC.call hb5
      replace hB := hB.trans ((hb5).mono hB.size)
      clear k0 k1 k2 k3 k4 hb5
      by_cases h0 : checkCyl c = 0
      · have HM := Lib.hid (fun x : World => fun hx => rmost_ok (.agg #[.int .i64 c.turns, .int .i64 c.long, .int .i64 c.plays, .slice fa c.frag.length fc, .slice pa c.pas.length pc]) c x hx h0)
        have HS : Hid (checkLab c (labelsOf c) = (mostOf c, 0)) := labels_check h0
        rw [h0]
        clear h0
        obtain ⟨k0, k1, k2, k3, k4⟩ := hC.c5
        go_wp2_with fail
        refine (rcheckLabels_ok _ _ c (labelsOf c) _ hC.cyl hO).mono ?_
        rintro e w8 ⟨rfl, hb8⟩
        rw [HS.out]
        dsimp only
        replace hC := hC.call hb8
        replace hB := hB.trans ((hb8).mono hB.size)
        clear k0 k1 k2 k3 k4 hb8
        obtain ⟨k0, k1, k2, k3, k4⟩ := hC.c5
        generalize mostOf c = z1 at *
        go_wp2_with fail
        refine (HM.out _ hC.cyl).mono ?_
        rintro e w9 ⟨rfl, hb9⟩
        replace hB := hB.trans (hb9.mono hB.size)
        go_wp2_with fail
        refine (works_ok w9).mono ?_
        rintro e wz ⟨rfl, hbz⟩
        go_wp2
        go_ret
        exact ⟨rfl, hB.trans (hbz.mono hB.size)⟩
      · have HL : (labelsOf c) = [] := by unfold labelsOf; rw [if_neg h0]
        have e1 : (checkCyl c == 0) = false := by simpa using h0
        have HR := Lib.hid (fun x : World => fun hx => rcheckCyl_ok (.agg #[.int .i64 c.turns, .int .i64 c.long, .int .i64 c.plays, .slice fa c.frag.length fc, .slice pa c.pas.length pc]) c x hx)
        rw [HL]
        clear h0 hO HL
        generalize checkCyl c = z1 at *
        obtain ⟨k0, k1, k2, k3, k4⟩ := hC.c5
        go_wp2_with fail
        refine (HR.out _ hC.cyl).mono ?_
        rintro e w7 ⟨rfl, hb7⟩
        replace hB := hB.trans (hb7.mono hB.size)
        go_wp2_with fail
        refine (works_ok w7).mono ?_
        rintro e wz ⟨rfl, hbz⟩
        go_wp2
        go_ret
        exact ⟨rfl, hB.trans (hbz.mono hB.size)⟩
  · go_wp2_with fail
    refine (works_ok w1).mono ?_
    rintro e wz ⟨rfl, hbz⟩
    go_wp2
    go_ret
    exact ⟨rfl, hB.trans (hbz.mono hB.size)⟩
end Go.Proofs.Ythplabmbbfefeaa
