/- Contract: the law JoinShares: true. -/
import Derived.Test.YtjjjockfppomdaaRfs
import Derived.Test.YtjjjockfppomdaaCounts
namespace Go.Proofs.Ytjjjockfppomdaa
open Go.RowKit Go.Shelf
set_option linter.unusedVariables false

set_option maxRecDepth 100000 in
set_option maxHeartbeats 6400000 in
theorem shares_ok (v : Value) (c : Cyl) (s : St) (w : World) (hv : CylV w w.heap.size v c) :
    Calls Try.prog 5 #[v, stV2 s] w fun r w' => r = .returned (.bool true) ∧ Below w.heap.size w w' := by
  obtain ⟨sp, stt⟩ := s
  obtain ⟨pa, pc, rfl, hp⟩ := hv.open_
  have hC := CB.new hp
  have hB := (Below.refl w.heap.size w).alloc (Nat.le_refl _) (.cells #[.slice pa c.pcs.length pc, .int .i64 c.off, .int .i64 c.slo, .int .i64 c.shi] 26)
  go_enter Try.func5, Try.ntmps5
  go_upto_region 1 with (fail)
  have HWS : Hid ((w.alloc (.cells #[.slice pa c.pcs.length pc, .int .i64 c.off, .int .i64 c.slo, .int .i64 c.shi] 26)).heap.size = w.heap.size + 1) := by simp [Hid]
  generalize hW : w.alloc (.cells #[.slice pa c.pcs.length pc, .int .i64 c.off, .int .i64 c.slo, .int .i64 c.shi] 26) = W at *
  clear hW hp
  have hbA := (Below.refl W.heap.size W).alloc (Nat.le_refl _) (.cells #[.int .i64 sp, .bool stt] 28)
  have hS0 := Blk.new W 28 #[.int .i64 sp, .bool stt]
  rw [HWS.out] at hS0
  replace hC := hC.call hbA
  replace hB := hB.trans (hbA.mono hB.size)
  clear hbA hv HWS
  generalize W.alloc (.cells #[.int .i64 sp, .bool stt] 28) = V2 at *
  obtain ⟨k0, k1, k2, k3⟩ := hC.c4
  go_wp2_with fail
  refine (many_ok _ c V2 hC.cyl).mono ?_
  rintro e w1 hp
  clear k0 k1 k2 k3
  obtain ⟨rfl, hb⟩ := hp
  replace hC := hC.call hb
  replace hB := hB.trans ((hb).mono hB.size)
  replace hS0 := hS0.call hb
  clear hb
  by_cases hm : manyB c.pcs.length = true
  · rw [hm]
    clear hm hS0 hC
    go_wp2_with fail
    refine (works_ok w1).mono ?_
    rintro e w2 ⟨rfl, hb⟩
    replace hB := hB.trans (hb.mono hB.size)
    clear hb
    go_wp2
    go_ret
    exact ⟨rfl, hB⟩
  · have hmf : manyB c.pcs.length = false := by simpa using hm
    have h5 := many_small hmf
    rw [hmf]
    have H5 := Lib.hid h5
    clear hm hmf h5
    obtain ⟨a, e1, hpa⟩ : ∃ a e1, passM c = (a, e1) := ⟨_, _, rfl⟩
    obtain ⟨x, e2, hrx⟩ : ∃ x e2, rivM c ⟨sp, stt⟩ = (x, e2) := ⟨_, _, rfl⟩
    obtain ⟨k0, k1, k2, k3⟩ := hC.c4
    go_wp2_with fail
    refine (passages_ok _ c w1 hC.cyl).mono ?_
    rintro e w2 hp
    clear k0 k1 k2 k3
    obtain ⟨aA, ac, rfl, hA, hb⟩ := hp.at_ hpa
    replace hC := hC.call hb
    replace hB := hB.trans ((hb).mono hB.size)
    replace hS0 := hS0.call hb
    clear hb hp
    obtain ⟨k0, k1, k2, k3⟩ := hC.c4
    go_wp2_with fail
    refine (rpassages_ok _ c w2 hC.cyl H5.out).mono ?_
    rintro e w3 hp
    clear k0 k1 k2 k3
    obtain ⟨bA, bc, rfl, hA2, hb⟩ := hp.at_ hpa
    replace hC := hC.call hb
    replace hB := hB.trans ((hb).mono hB.size)
    replace hS0 := hS0.call hb
    replace hA := (hA.below hb).more (hb).size
    clear hb hp hpa
    have s0 := hS0.cell 0
    have s1 := hS0.cell 1
    simp at s0 s1
    obtain ⟨k0, k1, k2, k3⟩ := hC.c4
    go_wp2_with fail
    refine (rivals_ok _ c ⟨sp, stt⟩ w3 hC.cyl).mono ?_
    rintro e w4 hp
    clear k0 k1 k2 k3
    obtain ⟨xA, xc, rfl, hX, hb⟩ := hp.at_ hrx
    replace hC := hC.call hb
    replace hB := hB.trans ((hb).mono hB.size)
    replace hS0 := hS0.call hb
    replace hA := (hA.below hb).more (hb).size
    replace hA2 := (hA2.below hb).more (hb).size
    clear hb hp s0 s1
    have s0 := hS0.cell 0
    have s1 := hS0.cell 1
    simp at s0 s1
    obtain ⟨k0, k1, k2, k3⟩ := hC.c4
    go_wp2_with fail
    refine (rrivals_ok _ c ⟨sp, stt⟩ w4 hC.cyl H5.out).mono ?_
    rintro e w5 hp
    clear k0 k1 k2 k3
    obtain ⟨yA, yc, rfl, hX2, hb⟩ := hp.at_ hrx
    replace hB := hB.trans (hb.mono hB.size)
    replace hA := (hA.below hb).more (hb).size
    replace hA2 := (hA2.below hb).more (hb).size
    replace hX := (hX.below hb).more (hb).size
    clear hb hp s0 s1 hrx hS0 hC
    go_wp2_with fail
    refine (pairsT _ _ a w5 hA hA2).mono ?_
    rintro e w6 ⟨rfl, hb⟩
    replace hB := hB.trans (hb.mono hB.size)
    replace hX := (hX.below hb).more (hb).size
    replace hX2 := (hX2.below hb).more (hb).size
    clear hb hA hA2
    go_wp2_with fail
    refine (sameT _ _ x w6 hX hX2).mono ?_
    rintro e w7 ⟨rfl, hb⟩
    replace hB := hB.trans (hb.mono hB.size)
    clear hb hX hX2
    go_wp2_with fail
    refine (works_ok w7).mono ?_
    rintro e w8 ⟨rfl, hb⟩
    replace hB := hB.trans (hb.mono hB.size)
    clear hb
    go_wp2
    go_ret
    exact ⟨rfl, hB⟩
end Go.Proofs.Ytjjjockfppomdaa
