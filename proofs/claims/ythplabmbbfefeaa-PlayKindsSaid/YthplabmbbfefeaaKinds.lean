/- The law PlayKinds: the walk. -/
import Derived.Test.YthplabmbbfefeaaLawC
import Derived.Test.YthplabmbbfefeaaRefY
import Derived.Test.YthplabmbbfefeaaPln
namespace Go.Proofs.Ythplabmbbfefeaa
open Go.RowKit Go.Shelf
set_option linter.unusedVariables false

set_option maxRecDepth 100000 in
set_option maxHeartbeats 3200000 in
theorem lkinds_ok (v : Value) (c : Cyl) (w : World) (hv : CylV w w.heap.size v c) :
    Calls Try.prog 5 #[v] w fun r w' => r = .returned (.bool true) ∧ Below w.heap.size w w' := by
  obtain ⟨fa, fc, pa, pc, rfl, hf, hp⟩ := hv.open_
  have hC := CB.new hf hp
  have hB := (Below.refl w.heap.size w).alloc (Nat.le_refl _) (.cells #[.int .i64 c.turns, .int .i64 c.long, .int .i64 c.plays, .slice fa c.frag.length fc, .slice pa c.pas.length pc] 25)
  go_enter Try.func5, Try.ntmps5
  go_upto_region 1 with (fail)
  generalize hW : w.alloc (.cells #[.int .i64 c.turns, .int .i64 c.long, .int .i64 c.plays, .slice fa c.frag.length fc, .slice pa c.pas.length pc] 25) = W at *
  clear hW hf hp
  obtain ⟨k0, k1, k2, k3, k4⟩ := hC.c5
  go_wp2_with fail
  refine (great_ok _ c _ hC.cyl).mono ?_
  rintro e w1 ⟨rfl, hb1⟩
  replace hC := hC.call hb1
  replace hB := hB.trans (hb1.mono hB.size)
  clear k0 k1 k2 k3 k4 hb1
  cases hg : greatB c
  · obtain ⟨k0, k1, k2, k3, k4⟩ := hC.c5
    go_wp2_with fail
    refine (kinds_ok _ c _ hC.cyl).mono ?_
    rintro e w2 ⟨ov, rfl, hO, hb2⟩
    replace hC := hC.call hb2
    replace hB := hB.trans ((hb2).mono hB.size)
    clear k0 k1 k2 k3 k4 hb2
    obtain ⟨k0, k1, k2, k3, k4⟩ := hC.c5
    go_wp2_with fail
    refine (rkinds_ok _ c _ hC.cyl).mono ?_
    rintro e w3 ⟨ou, rfl, hU, hb3⟩
    rw [kinds_same (m := 1000000) (m' := 24000) (by omega) (by omega)] at hU
    replace hO := (hO.below hb3).more hb3.size
    replace hC := hC.call hb3
    replace hB := hB.trans ((hb3).mono hB.size)
    clear k0 k1 k2 k3 k4 hb3
    generalize hz1 : checkCyl c = z1 at *
    go_wp2_with fail
    refine (intsT ov ou _ _ hO hU).mono ?_
    rintro e w4 ⟨rfl, hb4⟩
    replace hB := hB.trans (hb4.mono hB.size)
    go_wp2_with fail
    refine (works_ok w4).mono ?_
    rintro e wz ⟨rfl, hbz⟩
    go_wp2
    go_ret
    exact ⟨rfl, hB.trans (hbz.mono hB.size)⟩
  · go_wp2_with fail
    refine (works_ok w1).mono ?_
    rintro e wz ⟨rfl, hbz⟩
    go_wp2
    go_ret
    exact ⟨rfl, hB.trans (hbz.mono hB.size)⟩
end Go.Proofs.Ythplabmbbfefeaa
