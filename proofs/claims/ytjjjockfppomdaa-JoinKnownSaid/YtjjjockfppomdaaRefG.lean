/- Contracts of the reference: Fits, CheckJoin. -/
import Derived.Test.YtjjjockfppomdaaRefF
import Derived.Test.YtjjjockfppomdaaRefA
namespace Go.Proofs.Ytjjjockfppomdaa
open Go.RowKit Go.Shelf
set_option linter.unusedVariables false

abbrev stV (x : St) : Value := .agg #[.int .i64 x.p, .bool x.t]
theorem isStep_num {c : Cyl} {x : St} (h : isStep c x = true) : ∃ k : Nat, x.p = (k : Int) ∧ k < c.pcs.length := by
  simp only [isStep, Bool.and_eq_true, decide_eq_true_eq] at h
  exact ⟨x.p.toNat, by omega, by omega⟩

set_option maxRecDepth 100000 in
set_option maxHeartbeats 1600000 in
theorem rfits_ok (v : Value) (c : Cyl) (x y : St) (w : World) (hv : CylV w w.heap.size v c) :
    Calls Try.prog 15 #[v, stV x, stV y] w fun r w' => r = .returned (.tuple #[.bool (fitsOf c x y).1, .int .i64 (fitsOf c x y).2]) ∧ Below w.heap.size w w' := by
  obtain ⟨xp, xt⟩ := x
  obtain ⟨yp, yt⟩ := y
  obtain ⟨pa, pc, rfl, hp⟩ := hv.open_
  have hC := CB.new hp
  have hB := (Below.refl w.heap.size w).alloc (Nat.le_refl _) (.cells #[.slice pa c.pcs.length pc, .int .i64 c.off, .int .i64 c.slo, .int .i64 c.shi] 26)
  go_enter Try.func15, Try.ntmps15
  go_upto_region 1 with (fail)
  have HWS : Hid ((w.alloc (.cells #[.slice pa c.pcs.length pc, .int .i64 c.off, .int .i64 c.slo, .int .i64 c.shi] 26)).heap.size = w.heap.size + 1) := by simp [Hid]
  generalize hW : w.alloc (.cells #[.slice pa c.pcs.length pc, .int .i64 c.off, .int .i64 c.slo, .int .i64 c.shi] 26) = W at *
  clear hW hp
  have hbA := (Below.refl W.heap.size W).alloc (Nat.le_refl _) (.cells #[.int .i64 xp, .bool xt] 28)
  have hS := Blk.new W 28 #[.int .i64 xp, .bool xt]
  have hz1 : (W.alloc (.cells #[.int .i64 xp, .bool xt] 28)).heap.size = W.heap.size + 1 := by simp
  rw [HWS.out] at hS hz1
  replace hC := hC.call hbA
  replace hB := hB.trans (hbA.mono hB.size)
  clear hbA
  generalize W.alloc (.cells #[.int .i64 xp, .bool xt] 28) = V at *
  have hbA := (Below.refl V.heap.size V).alloc (Nat.le_refl _) (.cells #[.int .i64 yp, .bool yt] 28)
  have hU := Blk.new V 28 #[.int .i64 yp, .bool yt]
  rw [hz1] at hU
  replace hC := hC.call hbA
  replace hS := hS.call hbA
  replace hB := hB.trans (hbA.mono hB.size)
  clear hbA hz1
  generalize V.alloc (.cells #[.int .i64 yp, .bool yt] 28) = V2 at *
  obtain ⟨k0, k1, k2, k3⟩ := hC.c4
  go_wp2_with fail
  refine (rcheckCyl_ok _ c V2 hC.cyl).mono ?_
  rintro e w1 ⟨rfl, hb1⟩
  replace hC := hC.call hb1
  replace hS := hS.call hb1
  replace hU := hU.call hb1
  replace hB := hB.trans (hb1.mono hB.size)
  clear hb1 k0 k1 k2 k3
  obtain ⟨k0, k1, k2, k3⟩ := hC.c4
  have s0 := hS.cell 0
  have s1 := hS.cell 1
  have u0 := hU.cell 0
  have u1 := hU.cell 1
  simp at s0 s1 u0 u1
  by_cases h0 : checkCyl c = 0
  · have d0 : (checkCyl c != 0) = false := by simp [h0]
    cases hx : isStep c ⟨xp, xt⟩
    · have HE : Hid (fitsOf c ⟨xp, xt⟩ ⟨yp, yt⟩ = (false, 2)) := by rw [Hid, fitsOf, if_neg (by simp [h0]), hx]; rfl
      go_wp2_with fail
      refine (isStep_ok _ c xp xt w1 hC.cyl).mono ?_
      rintro e w2 ⟨rfl, hb2⟩
      rw [hx]
      replace hB := hB.trans (hb2.mono hB.size)
      go_wp2
      exact bodyPost_ret (v := .tuple #[.bool false, .int .i64 2]) (by simp [results, Try.results15, go_sem]) rfl ⟨by rw [HE.out], hB⟩
    · go_wp2_with fail
      refine (isStep_ok _ c xp xt w1 hC.cyl).mono ?_
      rintro e w2 ⟨rfl, hb2⟩
      rw [hx]
      replace hC := hC.call hb2
      replace hS := hS.call hb2
      replace hU := hU.call hb2
      replace hB := hB.trans (hb2.mono hB.size)
      clear hb2 k0 k1 k2 k3 s0 s1 u0 u1
      obtain ⟨k0, k1, k2, k3⟩ := hC.c4
      have s0 := hS.cell 0
      have s1 := hS.cell 1
      have u0 := hU.cell 0
      have u1 := hU.cell 1
      simp at s0 s1 u0 u1
      cases hy : isStep c ⟨yp, yt⟩
      · have HE : Hid (fitsOf c ⟨xp, xt⟩ ⟨yp, yt⟩ = (false, 2)) := by rw [Hid, fitsOf, if_neg (by simp [h0]), hx, hy]; rfl
        go_wp2_with fail
        refine (isStep_ok _ c yp yt w2 hC.cyl).mono ?_
        rintro e w3 ⟨rfl, hb3⟩
        rw [hy]
        replace hB := hB.trans (hb3.mono hB.size)
        go_wp2
        exact bodyPost_ret (v := .tuple #[.bool false, .int .i64 2]) (by simp [results, Try.results15, go_sem]) rfl ⟨by rw [HE.out], hB⟩
      · have HE : Hid (fitsOf c ⟨xp, xt⟩ ⟨yp, yt⟩ = (fitsS c ⟨xp, xt⟩ ⟨yp, yt⟩, 0)) := by rw [Hid, fitsOf, if_neg (by simp [h0]), hx, hy]; rfl
        obtain ⟨kx, rfl, hkx⟩ := isStep_num hx
        obtain ⟨ky, rfl, hky⟩ := isStep_num hy
        go_wp2_with fail
        refine (isStep_ok _ c ky yt w2 hC.cyl).mono ?_
        rintro e w3 ⟨rfl, hb3⟩
        rw [hy]
        replace hC := hC.call hb3
        replace hS := hS.call hb3
        replace hU := hU.call hb3
        replace hB := hB.trans (hb3.mono hB.size)
        clear hb3 k0 k1 k2 k3 s0 s1 u0 u1
        obtain ⟨k0, k1, k2, k3⟩ := hC.c4
        have s0 := hS.cell 0
        have s1 := hS.cell 1
        have u0 := hU.cell 0
        have u1 := hU.cell 1
        simp at s0 s1 u0 u1
        go_wp2_with fail
        refine (fits_ok _ c kx ky xt yt w3 hC.cyl h0 hkx hky).mono ?_
        rintro e w4 ⟨rfl, hb4⟩
        replace hB := hB.trans (hb4.mono hB.size)
        go_wp2
        exact bodyPost_ret (v := .tuple #[.bool (fitsS c ⟨kx, xt⟩ ⟨ky, yt⟩), .int .i64 0]) (by simp [results, Try.results15, go_sem]) rfl ⟨by rw [HE.out], hB⟩
  · have d0 : (checkCyl c != 0) = true := by simp [h0]
    have HE : Hid (fitsOf c ⟨xp, xt⟩ ⟨yp, yt⟩ = (false, checkCyl c)) := by rw [Hid, fitsOf, if_pos h0]
    go_wp2_with fail
    refine (rcheckCyl_ok _ c w1 hC.cyl).mono ?_
    rintro e w2 ⟨rfl, hb2⟩
    replace hB := hB.trans (hb2.mono hB.size)
    go_wp2
    exact bodyPost_ret (v := .tuple #[.bool false, .int .i64 (checkCyl c)]) (by simp [results, Try.results15, go_sem]) rfl ⟨by rw [HE.out], hB⟩
end Go.Proofs.Ytjjjockfppomdaa
