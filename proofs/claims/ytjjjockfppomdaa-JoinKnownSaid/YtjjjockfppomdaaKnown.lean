/- Contract of the law JoinKnown: true. -/
import Derived.Test.YtjjjockfppomdaaWrk
namespace Go.Proofs.Ytjjjockfppomdaa
open Go.RowKit Go.Shelf
set_option linter.unusedVariables false

set_option maxRecDepth 100000 in
set_option maxHeartbeats 3200000 in
theorem known_ok (w : World) :
    Calls Try.prog 12 #[] w fun r w' => r = .returned (.bool true) ∧ Below w.heap.size w w' := by
  go_enter Try.func12, Try.ntmps12
  go_wp2_with fail
  refine (cracked_ok w).mono ?_
  rintro e w1 ⟨g, rfl, hA1, hb1, hg1⟩
  go_upto_region 2 with (fail)
  have hE0 : CylV w1 w1.heap.size (.agg #[.slice (some ⟨g, 0, none⟩) 4 4, .int .i64 0, .int .i64 0, .int .i64 0]) exC := ⟨_, rfl, hA1⟩
  have x1 := Blk.new w1 26 #[.slice (some ⟨g, 0, none⟩) 4 4, .int .i64 0, .int .i64 0, .int .i64 0]
  have b1 := (Below.refl w1.heap.size w1).alloc (Nat.le_refl _) (.cells #[.slice (some ⟨g, 0, none⟩) 4 4, .int .i64 0, .int .i64 0, .int .i64 0] 26)
  have hE : ExB (w1.alloc (.cells #[.slice (some ⟨g, 0, none⟩) 4 4, .int .i64 0, .int .i64 0, .int .i64 0] 26)) w1.heap.size (.slice (some ⟨g, 0, none⟩) 4 4) exC := ⟨x1, (hE0.below b1).more b1.size⟩
  have hB := hb1.trans (b1.mono hb1.size)
  clear hE0 x1 b1 hA1 hb1 hg1
  generalize w1.alloc (.cells #[.slice (some ⟨g, 0, none⟩) 4 4, .int .i64 0, .int .i64 0, .int .i64 0] 26) = w3 at *
  generalize w1.heap.size = cb at *
  obtain ⟨k0, k1, k2, k3⟩ := hE.c4
  go_wp2_with fail
  refine (nthP_ok _ exC 0 w3 hE.cv).mono ?_
  rintro e w4 hp
  clear k0 k1 k2 k3
  obtain ⟨aA, ac, rfl, hA, hb⟩ := hp.at_ ex11
  replace hE := hE.call hb
  replace hB := hB.trans ((hb).mono hB.size)
  clear hb hp
  obtain ⟨k0, k1, k2, k3⟩ := hE.c4
  go_wp2_with fail
  refine (nthP_ok _ exC 3 w4 hE.cv).mono ?_
  rintro e w5 hp
  clear k0 k1 k2 k3
  obtain ⟨bA, bc, rfl, hO, hb⟩ := hp.at_ ex12
  replace hE := hE.call hb
  replace hB := hB.trans ((hb).mono hB.size)
  replace hA := (hA.below hb).more (hb).size
  clear hb hp
  obtain ⟨k0, k1, k2, k3⟩ := hE.c4
  go_wp2_with fail
  refine (nthP_ok _ exC 4 w5 hE.cv).mono ?_
  rintro e w6 hp
  clear k0 k1 k2 k3
  obtain ⟨uA, uc, rfl, -, hb⟩ := hp.at_ ex13
  replace hE := hE.call hb
  replace hB := hB.trans ((hb).mono hB.size)
  replace hA := (hA.below hb).more (hb).size
  replace hO := (hO.below hb).more (hb).size
  clear hb hp
  obtain ⟨k0, k1, k2, k3⟩ := hE.c4
  go_wp2_with fail
  refine (rivals_ok _ exC (stF 0) w6 hE.cv).mono ?_
  rintro e w7 hp
  clear k0 k1 k2 k3
  obtain ⟨rA, rc, rfl, hR, hb⟩ := hp.at_ ex14
  replace hE := hE.call hb
  replace hB := hB.trans ((hb).mono hB.size)
  replace hA := (hA.below hb).more (hb).size
  replace hO := (hO.below hb).more (hb).size
  clear hb hp
  obtain ⟨k0, k1, k2, k3⟩ := hE.c4
  go_wp2_with fail
  refine (rivals_ok _ exC (stF 2) w7 hE.cv).mono ?_
  rintro e w8 hp
  clear k0 k1 k2 k3
  obtain ⟨sA, sc, rfl, -, hb⟩ := hp.at_ ex15
  replace hE := hE.call hb
  replace hB := hB.trans ((hb).mono hB.size)
  replace hA := (hA.below hb).more (hb).size
  replace hO := (hO.below hb).more (hb).size
  replace hR := (hR.below hb).more (hb).size
  clear hb hp
  go_wp2_with fail
  refine (whole_ok w8).mono ?_
  rintro e w9 ⟨v, rfl, hcv, hb⟩
  replace hE := hE.call hb
  replace hB := hB.trans ((hb).mono hB.size)
  replace hA := (hA.below hb).more (hb).size
  replace hO := (hO.below hb).more (hb).size
  replace hR := (hR.below hb).more (hb).size
  clear hb
  obtain ⟨pa, pc, hv, hD⟩ := hcv.open_
  have hv' : v = .agg #[.slice pa 3 pc, .int .i64 0, .int .i64 0, .int .i64 0] := hv
  subst hv'
  clear hv hD
  go_wp2_with fail
  refine (fits2_ok _ exD (stF 2) (stF 0) w9 hcv).mono ?_
  rintro e w10 hp
  rw [ex16] at hp
  obtain ⟨rfl, hb⟩ := hp
  replace hE := hE.call hb
  replace hB := hB.trans ((hb).mono hB.size)
  replace hA := (hA.below hb).more (hb).size
  replace hO := (hO.below hb).more (hb).size
  replace hR := (hR.below hb).more (hb).size
  clear hb hcv
  replace hA : Arr w10 w10.heap.size 2 (.slice aA 4 ac) (onL [0, 1, 3, 2]) stcell := hA
  replace hO : Arr w10 w10.heap.size 2 (.slice bA 4 bc) [stF 0, st3, stF 1, stF 2] stcell := hO
  replace hR : Arr w10 w10.heap.size 2 (.slice rA 3 rc) [stF 1, stF 3, st3] stcell := hR
  have hl4 : (onL [0, 1, 3, 2]).length = 4 := rfl
  go_upto_region 9 with (fail)
  have hT := Blk.new w10 28 #[.int .i64 3, .bool true]
  have hb := (Below.refl w10.heap.size w10).alloc (Nat.le_refl _) (.cells #[.int .i64 3, .bool true] 28)
  replace hE := hE.call hb
  replace hB := hB.trans ((hb).mono hB.size)
  replace hA := (hA.below hb).more (hb).size
  replace hO := (hO.below hb).more (hb).size
  replace hR := (hR.below hb).more (hb).size
  clear hb
  generalize w10.alloc (.cells #[.int .i64 3, .bool true] 28) = w11 at *
  generalize w10.heap.size = tb at *
  obtain ⟨k0, k1, k2, k3⟩ := hE.c4
  have t0 := hT.cell 0
  have t1 := hT.cell 1
  simp at t0 t1
  have f0 := Ext.of k0
  have f1 := Ext.of k1
  have f2 := Ext.of k2
  have f3 := Ext.of k3
  have f4 := Ext.of t0
  have f5 := Ext.of t1
  clear k0 k1 k2 k3 t0 t1 hT
  refine wp_region_schedH (C := fun w' => ∃ x : Ext w11, w' = x.w) [(0, true), (1, true), (2, true), (3, true), (4, true), (5, true), (6, true), (7, true), (8, true), (9, true), (10, true), (11, true), (12, true), (13, true), (14, true), (15, true), (16, true), (17, true), (18, true), (19, true), (20, true), (21, true), (22, true), (23, true), (24, false), (25, false), (26, false), (27, true), (28, true), (29, true), (30, true), (31, true), (32, true), (33, true), (34, false), (35, false), (36, true), (37, true), (38, true), (39, true), (40, true), (41, true), (42, false), (43, false), (44, true), (45, true), (46, true), (47, true), (48, true), (49, true), (50, true), (51, true), (52, true), (53, true), (54, true), (55, true), (56, false), (57, false), (58, false), (59, true), (60, true), (61, true), (62, false), (63, true), (64, true)] (by kernel_rfl) (by kernel_rfl) ⟨⟨w11.drew, (Below.refl _ w11).drew⟩, rfl⟩ ?_
  refine schedH_q (by rfl) (by rfl) ?_
  intro K hK
  go_big_quiet_op
  go_big_quiet_on
  refine schedH_q (by rfl) (by rfl) ?_
  intro K hK
  go_big_quiet_op
  go_big_quiet_on
  refine schedH_q (by rfl) (by rfl) ?_
  intro K hK
  go_big_quiet_op
  go_big_quiet_on
  refine schedH_q (by rfl) (by rfl) ?_
  intro K hK
  go_big_quiet_op
  go_big_quiet_on
  refine schedH_q (by rfl) (by rfl) ?_
  intro K hK
  go_big_quiet_op
  go_big_quiet_on
  refine schedH_q (by rfl) (by rfl) ?_
  intro K hK
  go_big_quiet_op
  go_big_quiet_on
  refine schedH_q (by rfl) (by rfl) ?_
  intro K hK
  go_big_quiet_op
  go_big_quiet_on
  refine schedH_q (by rfl) (by rfl) ?_
  intro K hK
  go_big_quiet_op
  go_big_quiet_on
  refine schedH_q (by rfl) (by rfl) ?_
  intro K hK
  go_big_quiet_op
  go_big_quiet_on
  refine schedH_q (by rfl) (by rfl) ?_
  intro K hK
  go_big_quiet_op
  go_big_quiet_on
  refine schedH_q (by rfl) (by rfl) ?_
  intro K hK
  go_big_quiet_op
  go_big_quiet_on
  refine schedH_q (by rfl) (by rfl) ?_
  intro K hK
  go_big_quiet_op
  go_big_quiet_on
  refine schedH_q (by rfl) (by rfl) ?_
  intro K hK
  go_big_quiet_op
  go_big_quiet_on
  refine schedH_q (by rfl) (by rfl) ?_
  intro K hK
  go_big_quiet_op
  go_big_quiet_on
  refine schedH_q (by rfl) (by rfl) ?_
  intro K hK
  go_big_quiet_op
  go_big_quiet_on
  refine schedH_q (by rfl) (by rfl) ?_
  intro K hK
  go_big_quiet_op
  go_big_quiet_on
  refine schedH_q (by rfl) (by rfl) ?_
  intro K hK
  go_big_quiet_op
  go_big_quiet_on
  refine schedH_q (by rfl) (by rfl) ?_
  intro K hK
  go_big_quiet_op
  go_big_quiet_on
  refine schedH_q (by rfl) (by rfl) ?_
  intro K hK
  go_big_quiet_op
  go_big_quiet_on
  refine schedH_q (by rfl) (by rfl) ?_
  intro K hK
  go_big_quiet_op
  go_big_quiet_on
  refine schedH_q (by rfl) (by rfl) ?_
  intro K hK
  go_big_quiet_op
  go_big_quiet_on
  refine schedH_q (by rfl) (by rfl) ?_
  intro K hK
  go_big_quiet_op
  go_big_quiet_on
  refine schedH_q (by rfl) (by rfl) ?_
  intro K hK
  go_big_quiet_op
  go_big_quiet_on
  refine schedH_q (by rfl) (by rfl) ?_
  intro K hK
  go_big_quiet_op
  go_big_quiet_on
  refine schedH_c (by rfl) (by rfl) ?_
  intro K' hK'
  have hxs := (Blk.new w11 3 #[.int .i64 0, .int .i64 1, .int .i64 3, .int .i64 2]).drew
  have hx := ((Below.refl w11.heap.size w11).alloc (Nat.le_refl _) (.cells #[.int .i64 0, .int .i64 1, .int .i64 3, .int .i64 2] 3)).drew
  go_wp2
  generalize (w11.alloc (.cells #[.int .i64 0, .int .i64 1, .int .i64 3, .int .i64 2] 3)).drew = v1 at *
  refine hK' _ _ ⟨⟨⟨v1, hx⟩, rfl⟩, ?_⟩
  clear hK' K'
  refine schedH_c (by rfl) (by rfl) ?_
  intro K' hK'
  go_wp2_with fail
  refine (on_law _ [0, 1, 3, 2] v1 (Arr.lit hxs hxs.lt rfl (by decide) (by decide) (by simp [cellsOf, List.range_succ, icell])) (by decide)).mono ?_
  rintro e v2 ⟨nA, nc, rfl, hL, hb⟩
  replace hx := hx.trans (hb.mono hx.size)
  go_wp2
  refine hK' _ _ ⟨⟨⟨v2, hx⟩, rfl⟩, ?_⟩
  clear hK' K'
  clear hb hxs
  refine schedH_c (by rfl) (by rfl) ?_
  intro K' hK'
  go_wp2_with fail
  refine (sameT _ _ _ v2 ((hA.below hx).more hx.size) hL).mono ?_
  rintro e v3 ⟨rfl, hb⟩
  replace hx := hx.trans (hb.mono hx.size)
  go_wp2
  refine hK' _ _ ⟨⟨⟨v3, hx⟩, rfl⟩, ?_⟩
  clear hK' K'
  clear hb hL hA hl4
  refine schedH_q (by rfl) (by rfl) ?_
  intro K hK
  go_big_quiet_op
  go_big_quiet_on
  refine schedH_q (by rfl) (by rfl) ?_
  intro K hK
  go_big_quiet_op
  go_big_quiet_on
  refine schedH_q (by rfl) (by rfl) ?_
  intro K hK
  go_big_quiet_op
  go_big_quiet_on
  refine schedH_q (by rfl) (by rfl) ?_
  intro K hK
  go_big_quiet_op
  go_big_quiet_on
  refine schedH_q (by rfl) (by rfl) ?_
  intro K hK
  go_big_quiet_op
  go_big_quiet_on
  refine schedH_q (by rfl) (by rfl) ?_
  intro K hK
  go_big_quiet_op
  go_big_quiet_on
  refine schedH_q (by rfl) (by rfl) ?_
  intro K hK
  go_big_quiet_op
  go_big_quiet_on
  refine schedH_c (by rfl) (by rfl) ?_
  intro K' hK'
  have hxs := Blk.new v3 28 #[.int .i64 0, .bool false, .int .i64 3, .bool true, .int .i64 1, .bool false, .int .i64 2, .bool false]
  have hb := (Below.refl v3.heap.size v3).alloc (Nat.le_refl _) (.cells #[.int .i64 0, .bool false, .int .i64 3, .bool true, .int .i64 1, .bool false, .int .i64 2, .bool false] 28)
  replace hx := hx.trans (hb.mono hx.size)
  go_wp2
  generalize v3.alloc (.cells #[.int .i64 0, .bool false, .int .i64 3, .bool true, .int .i64 1, .bool false, .int .i64 2, .bool false] 28) = v4 at *
  refine hK' _ _ ⟨⟨⟨v4, hx⟩, rfl⟩, ?_⟩
  clear hK' K' hb
  refine schedH_c (by rfl) (by rfl) ?_
  intro K' hK'
  have hL : Arr v4 v4.heap.size 2 (.slice (some ⟨v3.heap.size, 0, none⟩) 4 4) [stF 0, st3, stF 1, stF 2] stcell := Arr.lit hxs hxs.lt rfl (by decide) (by decide) (by simp [cellsOf, List.range_succ, stcell, stF, st3])
  go_wp2_with fail
  refine (sameT _ _ _ v4 ((hO.below hx).more hx.size) hL).mono ?_
  rintro e v5 ⟨rfl, hb⟩
  replace hx := hx.trans (hb.mono hx.size)
  go_wp2
  refine hK' _ _ ⟨⟨⟨v5, hx⟩, rfl⟩, ?_⟩
  clear hK' K'
  clear hb hL hO hxs
  refine schedH_q (by rfl) (by rfl) ?_
  intro K hK
  go_big_quiet_op
  go_big_quiet_on
  refine schedH_q (by rfl) (by rfl) ?_
  intro K hK
  go_big_quiet_op
  go_big_quiet_on
  refine schedH_q (by rfl) (by rfl) ?_
  intro K hK
  go_big_quiet_op
  go_big_quiet_on
  refine schedH_q (by rfl) (by rfl) ?_
  intro K hK
  go_big_quiet_op
  go_big_quiet_on
  refine schedH_q (by rfl) (by rfl) ?_
  intro K hK
  go_big_quiet_op
  go_big_quiet_on
  refine schedH_q (by rfl) (by rfl) ?_
  intro K hK
  go_big_quiet_op
  go_big_quiet_on
  refine schedH_c (by rfl) (by rfl) ?_
  intro K' hK'
  have hxs := Blk.new v5 28 #[.int .i64 1, .bool false, .int .i64 3, .bool false, .int .i64 3, .bool true]
  have hb := (Below.refl v5.heap.size v5).alloc (Nat.le_refl _) (.cells #[.int .i64 1, .bool false, .int .i64 3, .bool false, .int .i64 3, .bool true] 28)
  replace hx := hx.trans (hb.mono hx.size)
  go_wp2
  generalize v5.alloc (.cells #[.int .i64 1, .bool false, .int .i64 3, .bool false, .int .i64 3, .bool true] 28) = v6 at *
  refine hK' _ _ ⟨⟨⟨v6, hx⟩, rfl⟩, ?_⟩
  clear hK' K' hb
  refine schedH_c (by rfl) (by rfl) ?_
  intro K' hK'
  have hL : Arr v6 v6.heap.size 2 (.slice (some ⟨v5.heap.size, 0, none⟩) 3 3) [stF 1, stF 3, st3] stcell := Arr.lit hxs hxs.lt rfl (by decide) (by decide) (by simp [cellsOf, List.range_succ, stcell, stF, st3])
  go_wp2_with fail
  refine (sameT _ _ _ v6 ((hR.below hx).more hx.size) hL).mono ?_
  rintro e v7 ⟨rfl, hb⟩
  replace hx := hx.trans (hb.mono hx.size)
  go_wp2
  refine hK' _ _ ⟨⟨⟨v7, hx⟩, rfl⟩, ?_⟩
  clear hK' K'
  clear hb hL hR hxs
  refine schedH_q (by rfl) (by rfl) ?_
  intro K hK
  go_big_quiet_op
  go_big_quiet_on
  refine schedH_q (by rfl) (by rfl) ?_
  intro K hK
  go_big_quiet_op
  go_big_quiet_on
  refine schedH_q (by rfl) (by rfl) ?_
  intro K hK
  go_big_quiet_op
  go_big_quiet_on
  refine schedH_q (by rfl) (by rfl) ?_
  intro K hK
  go_big_quiet_op
  go_big_quiet_on
  refine schedH_q (by rfl) (by rfl) ?_
  intro K hK
  go_big_quiet_op
  go_big_quiet_on
  refine schedH_q (by rfl) (by rfl) ?_
  intro K hK
  go_big_quiet_op
  go_big_quiet_on
  refine schedH_q (by rfl) (by rfl) ?_
  intro K hK
  go_big_quiet_op
  go_big_quiet_on
  refine schedH_q (by rfl) (by rfl) ?_
  intro K hK
  go_big_quiet_op
  go_big_quiet_on
  refine schedH_q (by rfl) (by rfl) ?_
  intro K hK
  go_big_quiet_op
  go_big_quiet_on
  refine schedH_q (by rfl) (by rfl) ?_
  intro K hK
  go_big_quiet_op
  go_big_quiet_on
  refine schedH_q (by rfl) (by rfl) ?_
  intro K hK
  go_big_quiet_op
  go_big_quiet_on
  refine schedH_q (by rfl) (by rfl) ?_
  intro K hK
  go_big_quiet_op
  go_big_quiet_on
  refine schedH_c (by rfl) (by rfl) ?_
  intro K' hK'
  have hxs := Blk.new v7 3 #[.int .i64 0, .int .i64 1, .int .i64 2]
  have hb := (Below.refl v7.heap.size v7).alloc (Nat.le_refl _) (.cells #[.int .i64 0, .int .i64 1, .int .i64 2] 3)
  replace hx := hx.trans (hb.mono hx.size)
  go_wp2
  generalize v7.alloc (.cells #[.int .i64 0, .int .i64 1, .int .i64 2] 3) = v8 at *
  refine hK' _ _ ⟨⟨⟨v8, hx⟩, rfl⟩, ?_⟩
  clear hK' K' hb
  refine schedH_c (by rfl) (by rfl) ?_
  intro K' hK'
  go_wp2_with fail
  refine (on_law _ [0, 1, 2] v8 (Arr.lit hxs hxs.lt rfl (by decide) (by decide) (by simp [cellsOf, List.range_succ, icell])) (by decide)).mono ?_
  rintro e v9 ⟨mA, mc, rfl, hL, hb⟩
  replace hx := hx.trans (hb.mono hx.size)
  go_wp2
  refine hK' _ _ ⟨⟨⟨v9, hx⟩, rfl⟩, ?_⟩
  clear hK' K'
  clear hb hxs
  refine schedH_c (by rfl) (by rfl) ?_
  intro K' hK'
  have hEx := hE.call hx
  go_wp2_with fail
  have hrk := checkJoin_ok _ _ exC (onL [0, 1, 2]) v9 hEx.cv hL
  rw [ex17] at hrk
  refine hrk.mono ?_
  rintro e v10 ⟨rfl, hb⟩
  replace hx := hx.trans (hb.mono hx.size)
  go_wp2
  refine hK' _ _ ⟨⟨⟨v10, hx⟩, rfl⟩, ?_⟩
  clear hK' K'
  clear hb hL hEx hrk
  refine schedH_q (by rfl) (by rfl) ?_
  intro K hK
  go_big_quiet_op
  go_big_quiet_on
  refine schedH_q (by rfl) (by rfl) ?_
  intro K hK
  go_big_quiet_op
  go_big_quiet_on
  refine schedH_q (by rfl) (by rfl) ?_
  intro K hK
  go_big_quiet_op
  go_big_quiet_on
  refine schedH_c (by rfl) (by rfl) ?_
  intro K' hK'
  go_wp2_with fail
  refine (works_ok v10).mono ?_
  rintro e v11 ⟨rfl, hb⟩
  replace hx := hx.trans (hb.mono hx.size)
  go_wp2
  refine hK' _ _ ⟨⟨⟨v11, hx⟩, rfl⟩, ?_⟩
  clear hK' K'
  clear hb
  refine schedH_q (by rfl) (by rfl) ?_
  intro K hK
  go_big_quiet_op
  go_big_quiet_on
  refine schedH_q (by rfl) (by rfl) ?_
  intro K hK
  go_big_quiet_op
  go_big_quiet_on
  refine schedH_nil ?_
  replace hB := hB.trans (hx.mono hB.size)
  clear f0 f1 f2 f3 f4 f5
  go_wp2
  go_ret
  exact ⟨rfl, hB⟩
end Go.Proofs.Ytjjjockfppomdaa
