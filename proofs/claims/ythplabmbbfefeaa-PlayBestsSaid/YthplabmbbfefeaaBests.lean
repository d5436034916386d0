/- The law PlayBests: the walk. -/
import Derived.Test.YthplabmbbfefeaaLawC
import Derived.Test.YthplabmbbfefeaaRefW
import Derived.Test.YthplabmbbfefeaaRefD
import Derived.Test.YthplabmbbfefeaaPln
namespace Go.Proofs.Ythplabmbbfefeaa
open Go.RowKit Go.Shelf
set_option linter.unusedVariables false

set_option maxRecDepth 100000 in
set_option maxHeartbeats 3200000 in
theorem bests_ok (v : Value) (c : Cyl) (x : Int) (w : World) (hv : CylV w w.heap.size v c) :
    Calls Try.prog 4 #[v, .int .i64 x] w fun r w' => r = .returned (.bool true) ∧ Below w.heap.size w w' := by
  obtain ⟨fa, fc, pa, pc, rfl, hf, hp⟩ := hv.open_
  have hC := CB.new hf hp
  have hB := (Below.refl w.heap.size w).alloc (Nat.le_refl _) (.cells #[.int .i64 c.turns, .int .i64 c.long, .int .i64 c.plays, .slice fa c.frag.length fc, .slice pa c.pas.length pc] 25)
  go_enter Try.func4, Try.ntmps4
  go_upto_region 1 with (fail)
  generalize hW : w.alloc (.cells #[.int .i64 c.turns, .int .i64 c.long, .int .i64 c.plays, .slice fa c.frag.length fc, .slice pa c.pas.length pc] 25) = W at *
  clear hW hf hp
  obtain ⟨k0, k1, k2, k3, k4⟩ := hC.c5
  go_wp2_with fail
  refine (great_ok _ c _ hC.cyl).mono ?_
  rintro e w1 ⟨rfl, hb1⟩
  replace hC := hC.call hb1
  replace hB := hB.trans (hb1.mono hB.size)
  clear k0 k1 k2 k3 k4 hb1
  cases hg : greatB c
  · obtain ⟨k0, k1, k2, k3, k4⟩ := hC.c5
    go_wp2_with fail
    refine (worths_ok _ c _ hC.cyl).mono ?_
    rintro e w2 ⟨ov, rfl, hO, hb2⟩
    replace hC := hC.call hb2
    replace hB := hB.trans ((hb2).mono hB.size)
    clear k0 k1 k2 k3 k4 hb2
    obtain ⟨k0, k1, k2, k3, k4⟩ := hC.c5
    go_wp2_with fail
    refine (rworths_ok _ c _ hC.cyl).mono ?_
    rintro e w3 ⟨ou, rfl, hU, hb3⟩
    replace hO := (hO.below hb3).more hb3.size
    replace hC := hC.call hb3
    replace hB := hB.trans ((hb3).mono hB.size)
    clear k0 k1 k2 k3 k4 hb3
    obtain ⟨k0, k1, k2, k3, k4⟩ := hC.c5
    go_wp2_with fail
    refine (fewest_ok _ c x _ hC.cyl).mono ?_
    rintro e w4 ⟨rfl, hb4⟩
    replace hO := (hO.below hb4).more hb4.size
    replace hU := (hU.below hb4).more hb4.size
    replace hC := hC.call hb4
    replace hB := hB.trans ((hb4).mono hB.size)
    clear k0 k1 k2 k3 k4 hb4
    obtain ⟨k0, k1, k2, k3, k4⟩ := hC.c5
    go_wp2_with fail
    refine (rfewest_ok _ c x _ hC.cyl).mono ?_
    rintro e w5 ⟨rfl, hb5⟩
    replace hO := (hO.below hb5).more hb5.size
    replace hU := (hU.below hb5).more hb5.size
    replace hC := hC.call hb5
    replace hB := hB.trans ((hb5).mono hB.size)
    clear k0 k1 k2 k3 k4 hb5
    generalize (fewestOf c x).1 = y1 at *
    generalize (fewestOf c x).2 = y2 at *
    obtain ⟨k0, k1, k2, k3, k4⟩ := hC.c5
    go_wp2_with fail
    refine (best_ok _ c _ hC.cyl).mono ?_
    rintro e w6 ⟨oq, rfl, hQ, hb6⟩
    replace hO := (hO.below hb6).more hb6.size
    replace hU := (hU.below hb6).more hb6.size
    replace hC := hC.call hb6
    replace hB := hB.trans ((hb6).mono hB.size)
    clear k0 k1 k2 k3 k4 hb6
    obtain ⟨qa, qc, rfl, -⟩ := id hQ
    by_cases h0 : checkCyl c = 0
    · have HB : Hid (bestOf c = (wayOf c, mostOf c, 0)) := best_ok_eq h0
      have HM := Lib.hid (fun x : World => fun hx => rmost_ok (.agg #[.int .i64 c.turns, .int .i64 c.long, .int .i64 c.plays, .slice fa c.frag.length fc, .slice pa c.pas.length pc]) c x hx h0)
      have HS : Hid ((saves c (wayOf c)).2 = (mostOf c, 0)) := way_saves h0
      rw [HB.out] at hQ
      rw [HB.out, h0]
      dsimp only at hQ ⊢
      clear h0
      go_wp2_with fail
      refine (longsT _ _ _ _ hO hU).mono ?_
      rintro e w7 ⟨rfl, hb7⟩
      replace hQ := (hQ.below hb7).more hb7.size
      replace hC := hC.call hb7
      replace hB := hB.trans (hb7.mono hB.size)
      clear hO hU hb7
      obtain ⟨k0, k1, k2, k3, k4⟩ := hC.c5
      go_wp2_with fail
      refine (rsaves_ok _ _ c (wayOf c) _ hC.cyl hQ).mono ?_
      rintro e w8 ⟨os, rfl, -, hb8⟩
      rw [HS.out]
      dsimp only
      replace hC := hC.call hb8
      replace hB := hB.trans ((hb8).mono hB.size)
      clear k0 k1 k2 k3 k4 hb8
      obtain ⟨k0, k1, k2, k3, k4⟩ := hC.c5
      generalize mostOf c = z1 at *
      go_wp2_with fail
      refine (HM.out _ hC.cyl).mono ?_
      rintro e w9 ⟨rfl, hb9⟩
      replace hB := hB.trans (hb9.mono hB.size)
      go_wp2_with fail
      refine (works_ok w9).mono ?_
      rintro e wz ⟨rfl, hbz⟩
      go_wp2
      go_ret
      exact ⟨rfl, hB.trans (hbz.mono hB.size)⟩
    · have HB : Hid (bestOf c = ([], 0, checkCyl c)) := best_no h0
      have e1 : (checkCyl c == 0) = false := by simpa using h0
      have H0 := Lib.hid h0
      rw [HB.out] at hQ
      rw [HB.out]
      dsimp only at hQ ⊢
      clear h0
      generalize checkCyl c = z1 at *
      go_wp2_with fail
      refine (longsT _ _ _ _ hO hU).mono ?_
      rintro e w7 ⟨rfl, hb7⟩
      replace hB := hB.trans (hb7.mono hB.size)
      go_wp2_with fail
      refine (works_ok w7).mono ?_
      rintro e wz ⟨rfl, hbz⟩
      go_wp2
      go_ret
      exact ⟨rfl, hB.trans (hbz.mono hB.size)⟩
  · go_wp2_with fail
    refine (works_ok w1).mono ?_
    rintro e wz ⟨rfl, hbz⟩
    go_wp2
    go_ret
    exact ⟨rfl, hB.trans (hbz.mono hB.size)⟩
end Go.Proofs.Ythplabmbbfefeaa
