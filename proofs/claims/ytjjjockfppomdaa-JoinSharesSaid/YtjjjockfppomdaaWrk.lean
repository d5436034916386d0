/- The values at the example cylinders. Contract of the laws' Works. -/
import Derived.Test.YtjjjockfppomdaaCrk
import Derived.Test.YtjjjockfppomdaaRnk
namespace Go.Proofs.Ytjjjockfppomdaa
set_option linter.unusedVariables false
set_option maxRecDepth 1000000

def stF (p : Int) : St := ⟨p, false⟩
def st3 : St := ⟨3, true⟩
theorem ex1 : countM exC = (4, 0) := by decide +kernel
theorem ex2 : nthM exC 1 = ([stF 0, stF 1, st3, stF 2], 0) := by decide +kernel
theorem ex3 : rankM exC (onL [0, 3, 1, 2]) = (2, 0) := by decide +kernel
theorem ex4 : onlyM exC = ([], 6) := by decide +kernel
theorem ex5 : onlyM exD = (onL [0, 1, 2], 0) := by decide +kernel
theorem ex6 : passM exC = ([], 0) := by decide +kernel
theorem ex7 : passM exD = ([(stF 0, stF 1), (stF 1, stF 2)], 0) := by decide +kernel
theorem ex8 : rivM exC (stF 1) = ([stF 2, stF 3, st3], 0) := by decide +kernel
theorem ex9 : fitsOf exD (stF 0) (stF 2) = (true, 0) := by decide +kernel
theorem ex10 : checkJoin exC (onL [0, 2, 1, 3]) = 18 := by decide +kernel
theorem ex11 : nthM exC 0 = (onL [0, 1, 3, 2], 0) := by decide +kernel
theorem ex12 : nthM exC 3 = ([stF 0, st3, stF 1, stF 2], 0) := by decide +kernel
theorem ex13 : nthM exC 4 = ([], 3) := by decide +kernel
theorem ex14 : rivM exC (stF 0) = ([stF 1, stF 3, st3], 0) := by decide +kernel
theorem ex15 : rivM exC (stF 2) = ([], 0) := by decide +kernel
theorem ex16 : fitsOf exD (stF 2) (stF 0) = (false, 0) := by decide +kernel
theorem ex17 : checkJoin exC (onL [0, 1, 2]) = 15 := by decide +kernel
end Go.Proofs.Ytjjjockfppomdaa

namespace Go.Proofs.Ytjjjockfppomdaa
open Go.RowKit Go.Shelf
set_option linter.unusedVariables false

/-- an example's box -/
structure ExB (W : World) (g : Nat) (pv : Value) (c : Cyl) : Prop where
  blk : Blk W g 26 #[pv, .int .i64 0, .int .i64 0, .int .i64 0]
  cv : CylV W W.heap.size (.agg #[pv, .int .i64 0, .int .i64 0, .int .i64 0]) c
theorem ExB.call {W W' : World} {g : Nat} {pv : Value} {c : Cyl} (h : ExB W g pv c) (hb : Below W.heap.size W W') : ExB W' g pv c := ⟨h.blk.call hb, (h.cv.below hb).more hb.size⟩
theorem ExB.c4 {W : World} {g : Nat} {pv : Value} {c : Cyl} (h : ExB W g pv c) : W.cell? ⟨g, 0, none⟩ = some pv ∧ W.cell? ⟨g, 1, none⟩ = some (.int .i64 0) ∧ W.cell? ⟨g, 2, none⟩ = some (.int .i64 0) ∧ W.cell? ⟨g, 3, none⟩ = some (.int .i64 0) := by
  simp [h.blk.cell]
theorem StPost.at_ {w w' : World} {m : List St × Int} {r : Ending} {l : List St} {e : Int} (h : StPost w m r w') (hm : m = (l, e)) : ∃ A cap, r = .returned (.tuple #[.slice A l.length cap, .int .i64 e]) ∧ Arr w' w'.heap.size 2 (.slice A l.length cap) l stcell ∧ Below w.heap.size w w' := by
  subst hm; exact h
theorem PrPost.at_ {w w' : World} {m : List (St × St) × Int} {r : Ending} {l : List (St × St)} {e : Int} (h : PrPost w m r w') (hm : m = (l, e)) : ∃ A cap, r = .returned (.tuple #[.slice A l.length cap, .int .i64 e]) ∧ Arr w' w'.heap.size 4 (.slice A l.length cap) l pcell ∧ Below w.heap.size w w' := by
  subst hm; exact h
theorem sameT (av bv : Value) (a : List St) (w : World) (ha : Arr w w.heap.size 2 av a stcell) (hb : Arr w w.heap.size 2 bv a stcell) :
    Calls Try.prog 29 #[av, bv] w fun r w' => r = .returned (.bool true) ∧ Below w.heap.size w w' := by
  have := same_ok av bv a a w ha hb
  rwa [show decide (a = a) = true by simp] at this
theorem pairsT (av bv : Value) (a : List (St × St)) (w : World) (ha : Arr w w.heap.size 4 av a pcell) (hb : Arr w w.heap.size 4 bv a pcell) :
    Calls Try.prog 34 #[av, bv] w fun r w' => r = .returned (.bool true) ∧ Below w.heap.size w w' := by
  have := lpairs_ok av bv a a w ha hb
  rwa [show decide (a = a) = true by simp] at this

set_option maxRecDepth 100000 in
set_option maxHeartbeats 3200000 in
theorem works_ok (w : World) :
    Calls Try.prog 13 #[] w fun r w' => r = .returned (.bool true) ∧ Below w.heap.size w w' := by
  go_enter Try.func13, Try.ntmps13
  go_wp2_with fail
  refine (cracked_ok w).mono ?_
  rintro e w1 ⟨g, rfl, hA1, hb1, hg1⟩
  go_wp2_with fail
  refine (whole_ok w1).mono ?_
  rintro e w2 ⟨v, rfl, hcv, hb2⟩
  obtain ⟨pa, pc, hv, hD⟩ := hcv.open_
  have hv' : v = .agg #[.slice pa 3 pc, .int .i64 0, .int .i64 0, .int .i64 0] := hv
  subst hv'
  clear hv hD
  go_upto_region 2 with (fail)
  have hE0 : CylV w2 w2.heap.size (.agg #[.slice (some ⟨g, 0, none⟩) 4 4, .int .i64 0, .int .i64 0, .int .i64 0]) exC := ⟨_, rfl, (hA1.below hb2).more hb2.size⟩
  have hB0 := hb1.trans (hb2.mono hb1.size)
  have x1 := Blk.new w2 26 #[.slice (some ⟨g, 0, none⟩) 4 4, .int .i64 0, .int .i64 0, .int .i64 0]
  have b1 := (Below.refl w2.heap.size w2).alloc (Nat.le_refl _) (.cells #[.slice (some ⟨g, 0, none⟩) 4 4, .int .i64 0, .int .i64 0, .int .i64 0] 26)
  have z1 : (w2.alloc (.cells #[.slice (some ⟨g, 0, none⟩) 4 4, .int .i64 0, .int .i64 0, .int .i64 0] 26)).heap.size = w2.heap.size + 1 := by simp
  generalize w2.alloc (.cells #[.slice (some ⟨g, 0, none⟩) 4 4, .int .i64 0, .int .i64 0, .int .i64 0] 26) = w2' at *
  have x2 := Blk.new w2' 26 #[.slice pa 3 pc, .int .i64 0, .int .i64 0, .int .i64 0]
  have b2 := (Below.refl w2'.heap.size w2').alloc (Nat.le_refl _) (.cells #[.slice pa 3 pc, .int .i64 0, .int .i64 0, .int .i64 0] 26)
  rw [z1] at x2
  have b3 := b1.trans (b2.mono b1.size)
  have hE : ExB (w2'.alloc (.cells #[.slice pa 3 pc, .int .i64 0, .int .i64 0, .int .i64 0] 26)) w2.heap.size (.slice (some ⟨g, 0, none⟩) 4 4) exC := ⟨x1.call b2, (hE0.below b3).more b3.size⟩
  have hF : ExB (w2'.alloc (.cells #[.slice pa 3 pc, .int .i64 0, .int .i64 0, .int .i64 0] 26)) (w2.heap.size + 1) (.slice pa 3 pc) exD := ⟨x2, (hcv.below b3).more b3.size⟩
  have hB := hB0.trans (b3.mono hB0.size)
  clear hE0 hB0 x1 x2 b1 b2 b3 z1 hA1 hb1 hb2 hcv hg1
  generalize w2'.alloc (.cells #[.slice pa 3 pc, .int .i64 0, .int .i64 0, .int .i64 0] 26) = w3 at *
  generalize w2.heap.size = cb at *
  obtain ⟨k0, k1, k2, k3⟩ := hE.c4
  obtain ⟨m0, m1, m2, m3⟩ := hF.c4
  go_wp2_with fail
  refine (count_ok _ exC w3 hE.cv).mono ?_
  rintro e w4 hp
  clear k0 k1 k2 k3 m0 m1 m2 m3
  rw [ex1] at hp
  obtain ⟨rfl, hb⟩ := hp
  replace hE := hE.call hb
  replace hF := hF.call hb
  replace hB := hB.trans ((hb).mono hB.size)
  clear hb
  obtain ⟨k0, k1, k2, k3⟩ := hE.c4
  obtain ⟨m0, m1, m2, m3⟩ := hF.c4
  go_wp2_with fail
  refine (nthP_ok _ exC 1 w4 hE.cv).mono ?_
  rintro e w5 hp
  clear k0 k1 k2 k3 m0 m1 m2 m3
  obtain ⟨aA, ac, rfl, hA, hb⟩ := hp.at_ ex2
  replace hE := hE.call hb
  replace hF := hF.call hb
  replace hB := hB.trans ((hb).mono hB.size)
  clear hb hp
  obtain ⟨k0, k1, k2, k3⟩ := hE.c4
  have f0 := Ext.of k0
  have f1 := Ext.of k1
  have f2 := Ext.of k2
  have f3 := Ext.of k3
  clear k0 k1 k2 k3
  go_upto_region 4 with (fail)
  refine wp_region_schedH (C := fun w' => ∃ x : Ext w5, w' = x.w) [(0, true), (1, false), (2, false), (3, false), (4, true), (5, true), (6, true), (7, true), (8, true)] (by kernel_rfl) (by kernel_rfl) ⟨⟨w5.drew, (Below.refl _ w5).drew⟩, rfl⟩ ?_
  refine schedH_q (by rfl) (by rfl) ?_
  intro K hK
  go_big_quiet_op
  go_big_quiet_on
  refine schedH_c (by rfl) (by rfl) ?_
  intro K' hK'
  have hxs := (Blk.new w5 3 #[.int .i64 0, .int .i64 3, .int .i64 1, .int .i64 2]).drew
  have hx2 := ((Below.refl w5.heap.size w5).alloc (Nat.le_refl _) (.cells #[.int .i64 0, .int .i64 3, .int .i64 1, .int .i64 2] 3)).drew
  go_wp2
  generalize (w5.alloc (.cells #[.int .i64 0, .int .i64 3, .int .i64 1, .int .i64 2] 3)).drew = v2 at *
  refine hK' _ _ ⟨⟨⟨v2, hx2⟩, rfl⟩, ?_⟩
  clear hK' K'
  refine schedH_c (by rfl) (by rfl) ?_
  intro K' hK'
  go_wp2_with fail
  refine (on_law _ [0, 3, 1, 2] v2 (Arr.lit hxs hxs.lt rfl (by decide) (by decide) (by simp [cellsOf, List.range_succ, icell])) (by decide)).mono ?_
  rintro e v3 ⟨lA, lc, rfl, hL, hb3⟩
  have hx3 := hx2.trans (hb3.mono hx2.size)
  go_wp2
  refine hK' _ _ ⟨⟨⟨v3, hx3⟩, rfl⟩, ?_⟩
  clear hK' K'
  clear hb3 hxs hx2
  refine schedH_c (by rfl) (by rfl) ?_
  intro K' hK'
  have hE3 := hE.call hx3
  go_wp2_with fail
  have hrk := rank_ok _ _ exC (onL [0, 3, 1, 2]) v3 hE3.cv hL
  rw [ex3] at hrk
  refine hrk.mono ?_
  rintro e w6 ⟨rfl, hb6⟩
  have hb := hx3.trans (hb6.mono hx3.size)
  go_wp2
  refine hK' _ _ ⟨⟨⟨w6, hb⟩, rfl⟩, ?_⟩
  clear hK' K'
  refine schedH_q (by rfl) (by rfl) ?_
  intro K hK
  go_big_quiet_op
  go_big_quiet_on
  refine schedH_q (by rfl) (by rfl) ?_
  intro K hK
  go_big_quiet_op
  go_big_quiet_on
  refine schedH_q (by rfl) (by rfl) ?_
  intro K hK
  go_big_quiet_op
  go_big_quiet_on
  refine schedH_q (by rfl) (by rfl) ?_
  intro K hK
  go_big_quiet_op
  go_big_quiet_on
  refine schedH_q (by rfl) (by rfl) ?_
  intro K hK
  go_big_quiet_op
  go_big_quiet_on
  refine schedH_nil ?_
  replace hA := (hA.below hb).more hb.size
  replace hE := hE.call hb
  replace hF := hF.call hb
  replace hB := hB.trans ((hb).mono hB.size)
  clear f0 f1 f2 f3 hx3 hb6 hE3 hrk hL hb
  obtain ⟨k0, k1, k2, k3⟩ := hE.c4
  obtain ⟨m0, m1, m2, m3⟩ := hF.c4
  go_wp2_with fail
  refine (only_ok _ exC w6 hE.cv).mono ?_
  rintro e w7 hp
  clear k0 k1 k2 k3 m0 m1 m2 m3
  obtain ⟨uA, uc, rfl, -, hb⟩ := hp.at_ ex4
  replace hA := (hA.below hb).more hb.size
  replace hE := hE.call hb
  replace hF := hF.call hb
  replace hB := hB.trans ((hb).mono hB.size)
  clear hb hp
  obtain ⟨k0, k1, k2, k3⟩ := hE.c4
  obtain ⟨m0, m1, m2, m3⟩ := hF.c4
  go_wp2_with fail
  refine (only_ok _ exD w7 hF.cv).mono ?_
  rintro e w8 hp
  clear k0 k1 k2 k3 m0 m1 m2 m3
  obtain ⟨oA, oc, rfl, hO, hb⟩ := hp.at_ ex5
  replace hA := (hA.below hb).more hb.size
  replace hE := hE.call hb
  replace hF := hF.call hb
  replace hB := hB.trans ((hb).mono hB.size)
  clear hb hp
  obtain ⟨k0, k1, k2, k3⟩ := hE.c4
  obtain ⟨m0, m1, m2, m3⟩ := hF.c4
  go_wp2_with fail
  refine (passages_ok _ exC w8 hE.cv).mono ?_
  rintro e w9 hp
  clear k0 k1 k2 k3 m0 m1 m2 m3
  obtain ⟨pA, pc2, rfl, -, hb⟩ := hp.at_ ex6
  replace hA := (hA.below hb).more hb.size
  replace hO := (hO.below hb).more hb.size
  replace hE := hE.call hb
  replace hF := hF.call hb
  replace hB := hB.trans ((hb).mono hB.size)
  clear hb hp
  obtain ⟨k0, k1, k2, k3⟩ := hE.c4
  obtain ⟨m0, m1, m2, m3⟩ := hF.c4
  go_wp2_with fail
  refine (passages_ok _ exD w9 hF.cv).mono ?_
  rintro e w10 hp
  clear k0 k1 k2 k3 m0 m1 m2 m3
  obtain ⟨qA, qc, rfl, hQ, hb⟩ := hp.at_ ex7
  replace hA := (hA.below hb).more hb.size
  replace hO := (hO.below hb).more hb.size
  replace hE := hE.call hb
  replace hF := hF.call hb
  replace hB := hB.trans ((hb).mono hB.size)
  clear hb hp
  obtain ⟨k0, k1, k2, k3⟩ := hE.c4
  obtain ⟨m0, m1, m2, m3⟩ := hF.c4
  go_wp2_with fail
  refine (rivals_ok _ exC (stF 1) w10 hE.cv).mono ?_
  rintro e w11 hp
  clear k0 k1 k2 k3 m0 m1 m2 m3
  obtain ⟨rA, rc, rfl, hR, hb⟩ := hp.at_ ex8
  replace hA := (hA.below hb).more hb.size
  replace hO := (hO.below hb).more hb.size
  replace hQ := (hQ.below hb).more hb.size
  replace hE := hE.call hb
  replace hF := hF.call hb
  replace hB := hB.trans ((hb).mono hB.size)
  clear hb hp
  obtain ⟨k0, k1, k2, k3⟩ := hE.c4
  obtain ⟨m0, m1, m2, m3⟩ := hF.c4
  go_wp2_with fail
  refine (fits2_ok _ exD (stF 0) (stF 2) w11 hF.cv).mono ?_
  rintro e w12 hp
  clear k0 k1 k2 k3 m0 m1 m2 m3
  rw [ex9] at hp
  obtain ⟨rfl, hb⟩ := hp
  replace hA := (hA.below hb).more hb.size
  replace hO := (hO.below hb).more hb.size
  replace hQ := (hQ.below hb).more hb.size
  replace hR := (hR.below hb).more hb.size
  replace hE := hE.call hb
  replace hF := hF.call hb
  replace hB := hB.trans ((hb).mono hB.size)
  clear hb
  replace hA : Arr w12 w12.heap.size 2 (.slice aA 4 ac) [stF 0, stF 1, st3, stF 2] stcell := hA
  replace hO : Arr w12 w12.heap.size 2 (.slice oA 3 oc) (onL [0, 1, 2]) stcell := hO
  replace hQ : Arr w12 w12.heap.size 4 (.slice qA 2 qc) [(stF 0, stF 1), (stF 1, stF 2)] pcell := hQ
  replace hR : Arr w12 w12.heap.size 2 (.slice rA 3 rc) [stF 2, stF 3, st3] stcell := hR
  have hl3 : (onL [0, 1, 2]).length = 3 := rfl
  obtain ⟨k0, k1, k2, k3⟩ := hE.c4
  have f0 := Ext.of k0
  have f1 := Ext.of k1
  have f2 := Ext.of k2
  have f3 := Ext.of k3
  clear k0 k1 k2 k3
  go_upto_region 11 with (fail)
  refine wp_region_schedH (C := fun w' => ∃ x : Ext w12, w' = x.w) [(0, true), (1, false), (2, false), (3, false), (4, true)] (by kernel_rfl) (by kernel_rfl) ⟨⟨w12.drew, (Below.refl _ w12).drew⟩, rfl⟩ ?_
  refine schedH_q (by rfl) (by rfl) ?_
  intro K hK
  go_big_quiet_op
  go_big_quiet_on
  refine schedH_c (by rfl) (by rfl) ?_
  intro K' hK'
  have hxs := (Blk.new w12 3 #[.int .i64 0, .int .i64 2, .int .i64 1, .int .i64 3]).drew
  have hx2 := ((Below.refl w12.heap.size w12).alloc (Nat.le_refl _) (.cells #[.int .i64 0, .int .i64 2, .int .i64 1, .int .i64 3] 3)).drew
  go_wp2
  generalize (w12.alloc (.cells #[.int .i64 0, .int .i64 2, .int .i64 1, .int .i64 3] 3)).drew = v4 at *
  refine hK' _ _ ⟨⟨⟨v4, hx2⟩, rfl⟩, ?_⟩
  clear hK' K'
  refine schedH_c (by rfl) (by rfl) ?_
  intro K' hK'
  go_wp2_with fail
  refine (on_law _ [0, 2, 1, 3] v4 (Arr.lit hxs hxs.lt rfl (by decide) (by decide) (by simp [cellsOf, List.range_succ, icell])) (by decide)).mono ?_
  rintro e v5 ⟨mA, mc, rfl, hL, hb3⟩
  have hx3 := hx2.trans (hb3.mono hx2.size)
  go_wp2
  refine hK' _ _ ⟨⟨⟨v5, hx3⟩, rfl⟩, ?_⟩
  clear hK' K'
  clear hb3 hxs hx2
  refine schedH_c (by rfl) (by rfl) ?_
  intro K' hK'
  have hE3 := hE.call hx3
  go_wp2_with fail
  have hrk := checkJoin_ok _ _ exC (onL [0, 2, 1, 3]) v5 hE3.cv hL
  rw [ex10] at hrk
  refine hrk.mono ?_
  rintro e w13 ⟨rfl, hb6⟩
  have hb := hx3.trans (hb6.mono hx3.size)
  go_wp2
  refine hK' _ _ ⟨⟨⟨w13, hb⟩, rfl⟩, ?_⟩
  clear hK' K'
  refine schedH_q (by rfl) (by rfl) ?_
  intro K hK
  go_big_quiet_op
  go_big_quiet_on
  refine schedH_nil ?_
  replace hA := (hA.below hb).more hb.size
  replace hO := (hO.below hb).more hb.size
  replace hQ := (hQ.below hb).more hb.size
  replace hR := (hR.below hb).more hb.size
  replace hE := hE.call hb
  replace hF := hF.call hb
  replace hB := hB.trans ((hb).mono hB.size)
  clear f0 f1 f2 f3 hx3 hb6 hE3 hrk hL hb
  go_upto_region 15 with (fail)
  have hT := Blk.new w13 28 #[.int .i64 3, .bool true]
  have hb := (Below.refl w13.heap.size w13).alloc (Nat.le_refl _) (.cells #[.int .i64 3, .bool true] 28)
  replace hA := (hA.below hb).more hb.size
  replace hO := (hO.below hb).more hb.size
  replace hQ := (hQ.below hb).more hb.size
  replace hR := (hR.below hb).more hb.size
  replace hB := hB.trans (hb.mono hB.size)
  clear hE hF hb
  generalize w13.alloc (.cells #[.int .i64 3, .bool true] 28) = w14 at *
  generalize w13.heap.size = tb at *
  have t0 := hT.cell 0
  have t1 := hT.cell 1
  simp at t0 t1
  go_upto_region 16 with (fail)
  have hxs := Blk.new w14 28 #[.int .i64 0, .bool false, .int .i64 1, .bool false, .int .i64 3, .bool true, .int .i64 2, .bool false]
  have hb := (Below.refl w14.heap.size w14).alloc (Nat.le_refl _) (.cells #[.int .i64 0, .bool false, .int .i64 1, .bool false, .int .i64 3, .bool true, .int .i64 2, .bool false] 28)
  replace hA := (hA.below hb).more hb.size
  replace hO := (hO.below hb).more (hb).size
  replace hQ := (hQ.below hb).more (hb).size
  replace hR := (hR.below hb).more (hb).size
  replace hT := hT.call hb
  replace hB := hB.trans ((hb).mono hB.size)
  clear hb t0 t1
  generalize w14.alloc (.cells #[.int .i64 0, .bool false, .int .i64 1, .bool false, .int .i64 3, .bool true, .int .i64 2, .bool false] 28) = w15 at *
  have hL1 : Arr w15 w15.heap.size 2 (.slice (some ⟨w14.heap.size, 0, none⟩) 4 4) [stF 0, stF 1, st3, stF 2] stcell := Arr.lit hxs hxs.lt rfl (by decide) (by decide) (by simp [cellsOf, List.range_succ, stcell, stF, st3])
  go_wp2_with fail
  refine (sameT _ _ _ w15 hA hL1).mono ?_
  rintro e w16 ⟨rfl, hb⟩
  replace hO := (hO.below hb).more (hb).size
  replace hQ := (hQ.below hb).more (hb).size
  replace hR := (hR.below hb).more (hb).size
  replace hT := hT.call hb
  replace hB := hB.trans ((hb).mono hB.size)
  clear hb hA hL1 hxs
  have hxs := Blk.new w16 3 #[.int .i64 0, .int .i64 1, .int .i64 2]
  have hb := (Below.refl w16.heap.size w16).alloc (Nat.le_refl _) (.cells #[.int .i64 0, .int .i64 1, .int .i64 2] 3)
  replace hO := (hO.below hb).more (hb).size
  replace hQ := (hQ.below hb).more (hb).size
  replace hR := (hR.below hb).more (hb).size
  replace hT := hT.call hb
  replace hB := hB.trans ((hb).mono hB.size)
  clear hb
  go_wp2_with fail
  generalize w16.alloc (.cells #[.int .i64 0, .int .i64 1, .int .i64 2] 3) = w17 at *
  refine (on_law _ [0, 1, 2] w17 (Arr.lit hxs hxs.lt rfl (by decide) (by decide) (by simp [cellsOf, List.range_succ, icell])) (by decide)).mono ?_
  rintro e w18 ⟨nA, nc, rfl, hL, hb⟩
  replace hO := (hO.below hb).more (hb).size
  replace hQ := (hQ.below hb).more (hb).size
  replace hR := (hR.below hb).more (hb).size
  replace hT := hT.call hb
  replace hB := hB.trans ((hb).mono hB.size)
  clear hb hxs
  go_wp2_with fail
  refine (sameT _ _ _ w18 hO hL).mono ?_
  rintro e w19 ⟨rfl, hb⟩
  replace hO := (hO.below hb).more (hb).size
  replace hQ := (hQ.below hb).more (hb).size
  replace hR := (hR.below hb).more (hb).size
  replace hT := hT.call hb
  replace hB := hB.trans ((hb).mono hB.size)
  clear hb hL hO
  have hxs := Blk.new w19 57 #[.int .i64 0, .bool false, .int .i64 1, .bool false, .int .i64 1, .bool false, .int .i64 2, .bool false]
  have hb := (Below.refl w19.heap.size w19).alloc (Nat.le_refl _) (.cells #[.int .i64 0, .bool false, .int .i64 1, .bool false, .int .i64 1, .bool false, .int .i64 2, .bool false] 57)
  replace hQ := (hQ.below hb).more hb.size
  replace hR := (hR.below hb).more (hb).size
  replace hT := hT.call hb
  replace hB := hB.trans ((hb).mono hB.size)
  clear hb
  go_wp2_with fail
  generalize w19.alloc (.cells #[.int .i64 0, .bool false, .int .i64 1, .bool false, .int .i64 1, .bool false, .int .i64 2, .bool false] 57) = w20 at *
  have hL1 : Arr w20 w20.heap.size 4 (.slice (some ⟨w19.heap.size, 0, none⟩) 2 2) [(stF 0, stF 1), (stF 1, stF 2)] pcell := Arr.lit hxs hxs.lt rfl (by decide) (by decide) (by simp [cellsOf, List.range_succ, pcell, stF])
  refine (pairsT _ _ _ w20 hQ hL1).mono ?_
  rintro e w21 ⟨rfl, hb⟩
  replace hR := (hR.below hb).more (hb).size
  replace hT := hT.call hb
  replace hB := hB.trans ((hb).mono hB.size)
  clear hb hL1 hxs hQ
  have t0 := hT.cell 0
  have t1 := hT.cell 1
  simp at t0 t1
  have hxs := Blk.new w21 28 #[.int .i64 2, .bool false, .int .i64 3, .bool false, .int .i64 3, .bool true]
  have hb := (Below.refl w21.heap.size w21).alloc (Nat.le_refl _) (.cells #[.int .i64 2, .bool false, .int .i64 3, .bool false, .int .i64 3, .bool true] 28)
  replace hR := (hR.below hb).more hb.size
  replace hB := hB.trans (hb.mono hB.size)
  clear hb
  go_wp2_with fail
  generalize w21.alloc (.cells #[.int .i64 2, .bool false, .int .i64 3, .bool false, .int .i64 3, .bool true] 28) = w22 at *
  have hL1 : Arr w22 w22.heap.size 2 (.slice (some ⟨w21.heap.size, 0, none⟩) 3 3) [stF 2, stF 3, st3] stcell := Arr.lit hxs hxs.lt rfl (by decide) (by decide) (by simp [cellsOf, List.range_succ, stcell, stF, st3])
  refine (sameT _ _ _ w22 hR hL1).mono ?_
  rintro e w23 ⟨rfl, hb⟩
  replace hB := hB.trans (hb.mono hB.size)
  clear hb hL1 hR
  go_wp2
  go_ret
  exact ⟨rfl, hB⟩
end Go.Proofs.Ytjjjockfppomdaa
