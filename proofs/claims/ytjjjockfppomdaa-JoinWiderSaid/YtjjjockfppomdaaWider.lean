/- Contract of the law JoinWider: true. -/
import Derived.Test.YtjjjockfppomdaaWid
import Derived.Test.YtjjjockfppomdaaWays
namespace Go.Proofs.Ytjjjockfppomdaa
open Go.RowKit Go.Shelf
set_option linter.unusedVariables false

set_option maxRecDepth 100000 in
set_option maxHeartbeats 6400000 in
theorem wider_ok (v : Value) (c : Cyl) (ov sv dv hv0 number : Int) (w : World) (hv : CylV w w.heap.size v c) (g1 : (Lit.int .u8 ov).wf = true) (g2 : (Lit.int .u8 sv).wf = true) (g3 : (Lit.int .u8 dv).wf = true) (g4 : (Lit.int .u8 hv0).wf = true) (g5 : (Lit.int .u32 number).wf = true) :
    Calls Try.prog 9 #[v, .int .u8 ov, .int .u8 sv, .int .u8 dv, .int .u8 hv0, .int .u32 number] w fun r w' => r = .returned (.bool true) ∧ Below w.heap.size w w' := by
  obtain ⟨num, rfl, hnum⟩ := u32_nat g5
  obtain ⟨o, rfl, ho⟩ := u8_nat g1
  obtain ⟨st, rfl, hst⟩ := u8_nat g2
  obtain ⟨dp, rfl, hdp⟩ := u8_nat g3
  obtain ⟨wh, rfl, hwh⟩ := u8_nat g4
  have HNUM := Lib.hid hnum
  have H8 := Lib.hid (And.intro ho (And.intro hst (And.intro hdp hwh)))
  clear g1 g2 g3 g4 g5 hnum ho hst hdp hwh
  obtain ⟨pa, pc, rfl, hp⟩ := hv.open_
  have hC := CB.new hp
  have hB := (Below.refl w.heap.size w).alloc (Nat.le_refl _) (.cells #[.slice pa c.pcs.length pc, .int .i64 c.off, .int .i64 c.slo, .int .i64 c.shi] 26)
  go_enter Try.func9, Try.ntmps9
  go_upto_region 1 with (fail)
  have HWS : Hid ((w.alloc (.cells #[.slice pa c.pcs.length pc, .int .i64 c.off, .int .i64 c.slo, .int .i64 c.shi] 26)).heap.size = w.heap.size + 1) := by simp [Hid]
  generalize hW : w.alloc (.cells #[.slice pa c.pcs.length pc, .int .i64 c.off, .int .i64 c.slo, .int .i64 c.shi] 26) = W at *
  clear hW hp
  clear hv HWS
  obtain ⟨k0, k1, k2, k3⟩ := hC.c4
  go_wp2_with fail
  refine (fine_ok _ c W hC.cyl).mono ?_
  rintro e w1 hp
  clear k0 k1 k2 k3
  obtain ⟨rfl, hb⟩ := hp
  replace hC := hC.call hb
  replace hB := hB.trans ((hb).mono hB.size)
  clear hb
  by_cases h0 : checkCyl c = 0
  · have d1 : decide (checkCyl c = 0) = true := by simpa using h0
    have HG := Lib.hid (good_len h0)
    have HBD := Lib.hid (cyl_bounds h0)
    go_upto_region 3 with (fail)
    go_cut [13] from 25 to 47 (fun g wx => ∃ g1 A cap, g = .pointer (some ⟨g1, 0, none⟩) ∧ w1.heap.size ≤ g1 ∧ Blk wx g1 26 #[.slice A c.pcs.length cap, .int .i64 (c.off + (o : Int)), .int .i64 (c.slo - (st : Int)), .int .i64 (c.shi + (st : Int))] ∧
      wx.ownsRow w1.heap.size 62 7 (.slice A c.pcs.length cap) c.pcs.length (c.pcs.flatMap (cellsOf 7 pccell)) ∧ Below w1.heap.size w1 wx)
    case first =>
      have e1 : IntKind.i64.wrap (o : Int) = o := wrap_id _ (by omega) (by have := H8.out; omega)
      have e2 : IntKind.i64.wrap (st : Int) = st := wrap_id _ (by omega) (by have := H8.out; omega)
      have e3 : IntKind.i64.wrap (c.off + (o : Int)) = c.off + o := wrap_id _ (by have := HBD.out; omega) (by have := H8.out; have := HBD.out; omega)
      have e4 : IntKind.i64.wrap (c.slo - (st : Int)) = c.slo - st := wrap_id _ (by have := H8.out; have := HBD.out; omega) (by have := HBD.out; omega)
      have e5 : IntKind.i64.wrap (c.shi + (st : Int)) = c.shi + st := wrap_id _ (by have := HBD.out; omega) (by have := H8.out; have := HBD.out; omega)
      obtain ⟨k0, k1, k2, k3⟩ := hC.c4
      have f0 := Ext.of k0
      have f1 := Ext.of k1
      have f2 := Ext.of k2
      have f3 := Ext.of k3
      have hAr := hC.ps.more (show w.heap.size ≤ w1.heap.size from hB.size)
      clear k0 k1 k2 k3
      refine ways_start 25 (fun w' => ∃ x : Ext w1, w' = x.w) (by rfl) (by kernel_rfl) ?_
      have hx : Below w1.heap.size w1 w1.drew := (Below.refl w1.heap.size w1).drew
      generalize w1.drew = v0 at *
      refine ways_q 1 (by rfl) (by rfl) (by kernel_rfl) (by kernel_rfl) (by kernel_rfl) (by rfl) ⟨⟨v0, hx⟩, rfl⟩ ?_
      intro K hK
      go_big_quiet_op
      go_big_quiet_on
      refine ways_q 2 (by rfl) (by rfl) (by kernel_rfl) (by kernel_rfl) (by kernel_rfl) (by rfl) ⟨⟨v0, hx⟩, rfl⟩ ?_
      intro K hK
      go_big_quiet_op
      go_big_quiet_on
      refine ways_q 4 (by rfl) (by rfl) (by kernel_rfl) (by kernel_rfl) (by kernel_rfl) (by rfl) ⟨⟨v0, hx⟩, rfl⟩ ?_
      intro K hK
      go_big_quiet_op
      go_big_quiet_on
      refine ways_q 5 (by rfl) (by rfl) (by kernel_rfl) (by kernel_rfl) (by kernel_rfl) (by rfl) ⟨⟨v0, hx⟩, rfl⟩ ?_
      intro K hK
      go_big_quiet_op
      go_big_quiet_on
      refine ways_q 6 (by rfl) (by rfl) (by kernel_rfl) (by kernel_rfl) (by kernel_rfl) (by rfl) ⟨⟨v0, hx⟩, rfl⟩ ?_
      intro K hK
      go_big_quiet_op
      go_big_quiet_on
      refine ways_q 7 (by rfl) (by rfl) (by kernel_rfl) (by kernel_rfl) (by kernel_rfl) (by rfl) ⟨⟨v0, hx⟩, rfl⟩ ?_
      intro K hK
      go_big_quiet_op
      go_big_quiet_on
      refine ways_q 8 (by rfl) (by rfl) (by kernel_rfl) (by kernel_rfl) (by kernel_rfl) (by rfl) ⟨⟨v0, hx⟩, rfl⟩ ?_
      intro K hK
      go_big_quiet_op
      go_big_quiet_on
      refine ways_q 9 (by rfl) (by rfl) (by kernel_rfl) (by kernel_rfl) (by kernel_rfl) (by rfl) ⟨⟨v0, hx⟩, rfl⟩ ?_
      intro K hK
      go_big_quiet_op
      go_big_quiet_on
      refine ways_q 10 (by rfl) (by rfl) (by kernel_rfl) (by kernel_rfl) (by kernel_rfl) (by rfl) ⟨⟨v0, hx⟩, rfl⟩ ?_
      intro K hK
      go_big_quiet_op
      go_big_quiet_on
      refine ways_q 11 (by rfl) (by rfl) (by kernel_rfl) (by kernel_rfl) (by kernel_rfl) (by rfl) ⟨⟨v0, hx⟩, rfl⟩ ?_
      intro K hK
      go_big_quiet_op
      go_big_quiet_on
      refine ways_q 12 (by rfl) (by rfl) (by kernel_rfl) (by kernel_rfl) (by kernel_rfl) (by rfl) ⟨⟨v0, hx⟩, rfl⟩ ?_
      intro K hK
      go_big_quiet_op
      go_big_quiet_on
      refine ways_q 13 (by rfl) (by rfl) (by kernel_rfl) (by kernel_rfl) (by kernel_rfl) (by rfl) ⟨⟨v0, hx⟩, rfl⟩ ?_
      intro K hK
      go_big_quiet_op
      go_big_quiet_on
      refine ways_q 14 (by rfl) (by rfl) (by kernel_rfl) (by kernel_rfl) (by kernel_rfl) (by rfl) ⟨⟨v0, hx⟩, rfl⟩ ?_
      intro K hK
      go_big_quiet_op
      go_big_quiet_on
      refine ways_q 15 (by rfl) (by rfl) (by kernel_rfl) (by kernel_rfl) (by kernel_rfl) (by rfl) ⟨⟨v0, hx⟩, rfl⟩ ?_
      intro K hK
      go_big_quiet_op
      go_big_quiet_on
      refine ways_q 16 (by rfl) (by rfl) (by kernel_rfl) (by kernel_rfl) (by kernel_rfl) (by rfl) ⟨⟨v0, hx⟩, rfl⟩ ?_
      intro K hK
      go_big_quiet_op
      go_big_quiet_on
      refine ways_q 17 (by rfl) (by rfl) (by kernel_rfl) (by kernel_rfl) (by kernel_rfl) (by rfl) ⟨⟨v0, hx⟩, rfl⟩ ?_
      intro K hK
      go_big_quiet_op
      go_big_quiet_on
      refine ways_q 18 (by rfl) (by rfl) (by kernel_rfl) (by kernel_rfl) (by kernel_rfl) (by rfl) ⟨⟨v0, hx⟩, rfl⟩ ?_
      intro K hK
      go_big_quiet_op
      go_big_quiet_on
      refine ways_q 19 (by rfl) (by rfl) (by kernel_rfl) (by kernel_rfl) (by kernel_rfl) (by rfl) ⟨⟨v0, hx⟩, rfl⟩ ?_
      intro K hK
      go_big_quiet_op
      go_big_quiet_on
      refine ways_q 20 (by rfl) (by rfl) (by kernel_rfl) (by kernel_rfl) (by kernel_rfl) (by rfl) ⟨⟨v0, hx⟩, rfl⟩ ?_
      intro K hK
      go_big_quiet_op
      go_big_quiet_on
      refine ways_q 21 (by rfl) (by rfl) (by kernel_rfl) (by kernel_rfl) (by kernel_rfl) (by rfl) ⟨⟨v0, hx⟩, rfl⟩ ?_
      intro K hK
      go_big_quiet_op
      go_big_quiet_on
      refine ways_2 0 23 (by kernel_rfl) ?_ ?_
      · refine ⟨_, _, (by rfl), (by rfl), ?_⟩
        intro K' hK'
        go_wp2
        have hown := own_empty v0 w1.heap.size 62 7 hx.size
        have hbb := (Below.refl (v0).heap.size v0).alloc (Nat.le_refl _) (.cells #[] 62)
        have hge := hx.size
        have hgs : (v0).heap.size < ((v0).alloc (.cells #[] 62)).heap.size := by simp
        replace hx := hx.trans (hbb.mono hx.size)
        skip
        generalize (v0).alloc (.cells #[] 62) = v1 at *
        generalize (v0).heap.size = eb at *
        refine hK' _ _ ⟨⟨⟨v1, hx⟩, rfl⟩, ?_⟩
        clear hK' K' hbb
        refine ways_2 3 23 (by kernel_rfl) ?_ ?_
        · refine ⟨_, _, (by rfl), (by rfl), ?_⟩
          intro K' hK'
          refine wpList_appArr (sv := .slice (some ⟨eb, 0, none⟩) 0 0) slT_pc rfl (.tmp 25) (.tmp 27) rfl rfl hown rfl (hAr.below hx) (one_pcs _) hx.size (by have := HG.out; omega) (by omega) ?_
          intro v' v2 hown2 hb2 hgr
          rw [Nat.zero_add, List.nil_append] at hown2
          obtain ⟨A, cap, rfl⟩ := own_form hown2
          replace hx := hx.trans hb2
          skip
          clear hown hgr hb2
          go_wp2
          refine hK' _ _ ⟨⟨⟨v2, hx⟩, rfl⟩, ?_⟩
          clear hK' K'
          refine ways_q 22 (by rfl) (by rfl) (by kernel_rfl) (by kernel_rfl) (by kernel_rfl) (by rfl) ⟨⟨v2, hx⟩, rfl⟩ ?_
          intro K hK
          go_big_quiet_op
          go_big_quiet_on
          refine ways_1 23 (by kernel_rfl) ?_
          refine ⟨_, _, (by rfl), (by rfl), ?_⟩
          intro K' hK'
          go_wp2
          have hbx := Blk.new v2 26 #[.slice none 0 0, .int .i64 0, .int .i64 0, .int .i64 0]
          have hbb := (Below.refl (v2).heap.size v2).alloc (Nat.le_refl _) (.cells #[.slice none 0 0, .int .i64 0, .int .i64 0, .int .i64 0] 26)
          have hgx := hx.size
          have hgs2 : (v2).heap.size < ((v2).alloc (.cells #[.slice none 0 0, .int .i64 0, .int .i64 0, .int .i64 0] 26)).heap.size := by simp
          replace hx := hx.trans (hbb.mono hx.size)
          replace hown2 := own_call hown2 hbb
          generalize (v2).alloc (.cells #[.slice none 0 0, .int .i64 0, .int .i64 0, .int .i64 0] 26) = v3 at *
          generalize (v2).heap.size = gx at *
          refine hK' _ _ ⟨⟨⟨v3, hx⟩, rfl⟩, ?_⟩
          clear hK' K' hbb
          have z0 := hbx.cell 0
          have z1 := hbx.cell 1
          have z2 := hbx.cell 2
          have z3 := hbx.cell 3
          have zf := fun i => hbx.frozen i
          simp at z0 z1 z2 z3
          have hb4 := hbx.put4w (.slice A c.pcs.length cap) (.int .i64 (c.off + (o : Int))) (.int .i64 (c.slo - (st : Int))) (.int .i64 (c.shi + (st : Int)))
          have hx4 := below_put4 hx hgx (.slice A c.pcs.length cap) (.int .i64 (c.off + (o : Int))) (.int .i64 (c.slo - (st : Int))) (.int .i64 (c.shi + (st : Int)))
          have hown4 := hown2.kept (grown_trans' (grown_trans' (grown_trans' (grown_setCell (g := gx) (o := 0) (.slice A c.pcs.length cap)) (grown_setCell (g := gx) (o := 1) (.int .i64 (c.off + (o : Int))))) (grown_setCell (g := gx) (o := 2) (.int .i64 (c.slo - (st : Int))))) (grown_setCell (g := gx) (o := 3) (.int .i64 (c.shi + (st : Int))))) (.inr fun e => own_blk_ne hown2 hbx (by decide) e.symm)
          refine ways_1 24 (by kernel_rfl) ?_
          refine ⟨_, _, (by rfl), (by rfl), ?_⟩
          intro K' hK'
          go_wp2
          clear z0 z1 z2 z3 zf hown2 hx
          generalize ((((v3).setCell ⟨gx, 0, none⟩ (.slice A c.pcs.length cap)).setCell ⟨gx, 1, none⟩ (.int .i64 (c.off + (o : Int)))).setCell ⟨gx, 2, none⟩ (.int .i64 (c.slo - (st : Int)))).setCell ⟨gx, 3, none⟩ (.int .i64 (c.shi + (st : Int))) = wz at *
          refine hK' _ _ ⟨⟨⟨wz, hx4⟩, rfl⟩, ?_⟩
          clear hK' K'
          refine ways_end (by kernel_rfl) ?_
          go_wp2
          go_meet
          case rel => exact ⟨gx, A, cap, rfl, hgx, hb4, hown4, hx4⟩
        · refine ⟨_, _, (by rfl), (by rfl), ?_⟩
          intro K' hK'
          go_wp2
          have hbx := Blk.new v1 26 #[.slice none 0 0, .int .i64 0, .int .i64 0, .int .i64 0]
          have hbb := (Below.refl (v1).heap.size v1).alloc (Nat.le_refl _) (.cells #[.slice none 0 0, .int .i64 0, .int .i64 0, .int .i64 0] 26)
          have hgx := hx.size
          have hgs2 : (v1).heap.size < ((v1).alloc (.cells #[.slice none 0 0, .int .i64 0, .int .i64 0, .int .i64 0] 26)).heap.size := by simp
          replace hx := hx.trans (hbb.mono hx.size)
          replace hown := own_call hown hbb
          generalize (v1).alloc (.cells #[.slice none 0 0, .int .i64 0, .int .i64 0, .int .i64 0] 26) = v2 at *
          generalize (v1).heap.size = gx at *
          refine hK' _ _ ⟨⟨⟨v2, hx⟩, rfl⟩, ?_⟩
          clear hK' K' hbb
          refine ways_1 3 (by kernel_rfl) ?_
          refine ⟨_, _, (by rfl), (by rfl), ?_⟩
          intro K' hK'
          refine wpList_appArr (sv := .slice (some ⟨eb, 0, none⟩) 0 0) slT_pc rfl (.tmp 25) (.tmp 27) rfl rfl hown rfl (hAr.below hx) (one_pcs _) hx.size (by have := HG.out; omega) (by omega) ?_
          intro v' v3 hown2 hb2 hgr
          rw [Nat.zero_add, List.nil_append] at hown2
          obtain ⟨A, cap, rfl⟩ := own_form hown2
          replace hx := hx.trans hb2
          replace hbx := hbx.grown hgr (fun e => absurd (show gx = eb by simpa [Value.ownBlock] using e) (by omega))
          clear hown hgr hb2
          go_wp2
          refine hK' _ _ ⟨⟨⟨v3, hx⟩, rfl⟩, ?_⟩
          clear hK' K'
          refine ways_q 22 (by rfl) (by rfl) (by kernel_rfl) (by kernel_rfl) (by kernel_rfl) (by rfl) ⟨⟨v3, hx⟩, rfl⟩ ?_
          intro K hK
          go_big_quiet_op
          go_big_quiet_on
          have z0 := hbx.cell 0
          have z1 := hbx.cell 1
          have z2 := hbx.cell 2
          have z3 := hbx.cell 3
          have zf := fun i => hbx.frozen i
          simp at z0 z1 z2 z3
          have hb4 := hbx.put4w (.slice A c.pcs.length cap) (.int .i64 (c.off + (o : Int))) (.int .i64 (c.slo - (st : Int))) (.int .i64 (c.shi + (st : Int)))
          have hx4 := below_put4 hx hgx (.slice A c.pcs.length cap) (.int .i64 (c.off + (o : Int))) (.int .i64 (c.slo - (st : Int))) (.int .i64 (c.shi + (st : Int)))
          have hown4 := hown2.kept (grown_trans' (grown_trans' (grown_trans' (grown_setCell (g := gx) (o := 0) (.slice A c.pcs.length cap)) (grown_setCell (g := gx) (o := 1) (.int .i64 (c.off + (o : Int))))) (grown_setCell (g := gx) (o := 2) (.int .i64 (c.slo - (st : Int))))) (grown_setCell (g := gx) (o := 3) (.int .i64 (c.shi + (st : Int))))) (.inr fun e => own_blk_ne hown2 hbx (by decide) e.symm)
          refine ways_1 24 (by kernel_rfl) ?_
          refine ⟨_, _, (by rfl), (by rfl), ?_⟩
          intro K' hK'
          go_wp2
          clear z0 z1 z2 z3 zf hown2 hx
          generalize ((((v3).setCell ⟨gx, 0, none⟩ (.slice A c.pcs.length cap)).setCell ⟨gx, 1, none⟩ (.int .i64 (c.off + (o : Int)))).setCell ⟨gx, 2, none⟩ (.int .i64 (c.slo - (st : Int)))).setCell ⟨gx, 3, none⟩ (.int .i64 (c.shi + (st : Int))) = wz at *
          refine hK' _ _ ⟨⟨⟨wz, hx4⟩, rfl⟩, ?_⟩
          clear hK' K'
          refine ways_end (by kernel_rfl) ?_
          go_wp2
          go_meet
          case rel => exact ⟨gx, A, cap, rfl, hgx, hb4, hown4, hx4⟩
      · refine ⟨_, _, (by rfl), (by rfl), ?_⟩
        intro K' hK'
        go_wp2
        have hbx := Blk.new v0 26 #[.slice none 0 0, .int .i64 0, .int .i64 0, .int .i64 0]
        have hbb := (Below.refl (v0).heap.size v0).alloc (Nat.le_refl _) (.cells #[.slice none 0 0, .int .i64 0, .int .i64 0, .int .i64 0] 26)
        have hgx := hx.size
        have hgs2 : (v0).heap.size < ((v0).alloc (.cells #[.slice none 0 0, .int .i64 0, .int .i64 0, .int .i64 0] 26)).heap.size := by simp
        replace hx := hx.trans (hbb.mono hx.size)
        skip
        generalize (v0).alloc (.cells #[.slice none 0 0, .int .i64 0, .int .i64 0, .int .i64 0] 26) = v1 at *
        generalize (v0).heap.size = gx at *
        refine hK' _ _ ⟨⟨⟨v1, hx⟩, rfl⟩, ?_⟩
        clear hK' K' hbb
        refine ways_1 0 (by kernel_rfl) ?_
        refine ⟨_, _, (by rfl), (by rfl), ?_⟩
        intro K' hK'
        go_wp2
        have hown := own_empty v1 w1.heap.size 62 7 hx.size
        have hbb := (Below.refl (v1).heap.size v1).alloc (Nat.le_refl _) (.cells #[] 62)
        have hge := hx.size
        have hgs : (v1).heap.size < ((v1).alloc (.cells #[] 62)).heap.size := by simp
        replace hx := hx.trans (hbb.mono hx.size)
        replace hbx := hbx.call hbb
        generalize (v1).alloc (.cells #[] 62) = v2 at *
        generalize (v1).heap.size = eb at *
        refine hK' _ _ ⟨⟨⟨v2, hx⟩, rfl⟩, ?_⟩
        clear hK' K' hbb
        refine ways_1 3 (by kernel_rfl) ?_
        refine ⟨_, _, (by rfl), (by rfl), ?_⟩
        intro K' hK'
        refine wpList_appArr (sv := .slice (some ⟨eb, 0, none⟩) 0 0) slT_pc rfl (.tmp 25) (.tmp 27) rfl rfl hown rfl (hAr.below hx) (one_pcs _) hx.size (by have := HG.out; omega) (by omega) ?_
        intro v' v3 hown2 hb2 hgr
        rw [Nat.zero_add, List.nil_append] at hown2
        obtain ⟨A, cap, rfl⟩ := own_form hown2
        replace hx := hx.trans hb2
        replace hbx := hbx.grown hgr (fun e => absurd (show gx = eb by simpa [Value.ownBlock] using e) (by omega))
        clear hown hgr hb2
        go_wp2
        refine hK' _ _ ⟨⟨⟨v3, hx⟩, rfl⟩, ?_⟩
        clear hK' K'
        refine ways_q 22 (by rfl) (by rfl) (by kernel_rfl) (by kernel_rfl) (by kernel_rfl) (by rfl) ⟨⟨v3, hx⟩, rfl⟩ ?_
        intro K hK
        go_big_quiet_op
        go_big_quiet_on
        have z0 := hbx.cell 0
        have z1 := hbx.cell 1
        have z2 := hbx.cell 2
        have z3 := hbx.cell 3
        have zf := fun i => hbx.frozen i
        simp at z0 z1 z2 z3
        have hb4 := hbx.put4w (.slice A c.pcs.length cap) (.int .i64 (c.off + (o : Int))) (.int .i64 (c.slo - (st : Int))) (.int .i64 (c.shi + (st : Int)))
        have hx4 := below_put4 hx hgx (.slice A c.pcs.length cap) (.int .i64 (c.off + (o : Int))) (.int .i64 (c.slo - (st : Int))) (.int .i64 (c.shi + (st : Int)))
        have hown4 := hown2.kept (grown_trans' (grown_trans' (grown_trans' (grown_setCell (g := gx) (o := 0) (.slice A c.pcs.length cap)) (grown_setCell (g := gx) (o := 1) (.int .i64 (c.off + (o : Int))))) (grown_setCell (g := gx) (o := 2) (.int .i64 (c.slo - (st : Int))))) (grown_setCell (g := gx) (o := 3) (.int .i64 (c.shi + (st : Int))))) (.inr fun e => own_blk_ne hown2 hbx (by decide) e.symm)
        refine ways_1 24 (by kernel_rfl) ?_
        refine ⟨_, _, (by rfl), (by rfl), ?_⟩
        intro K' hK'
        go_wp2
        clear z0 z1 z2 z3 zf hown2 hx
        generalize ((((v3).setCell ⟨gx, 0, none⟩ (.slice A c.pcs.length cap)).setCell ⟨gx, 1, none⟩ (.int .i64 (c.off + (o : Int)))).setCell ⟨gx, 2, none⟩ (.int .i64 (c.slo - (st : Int)))).setCell ⟨gx, 3, none⟩ (.int .i64 (c.shi + (st : Int))) = wz at *
        refine hK' _ _ ⟨⟨⟨wz, hx4⟩, rfl⟩, ?_⟩
        clear hK' K'
        refine ways_end (by kernel_rfl) ?_
        go_wp2
        go_meet
        case rel => exact ⟨gx, A, cap, rfl, hgx, hb4, hown4, hx4⟩
    case rest =>
      obtain ⟨g1, A, cap, rfl, hg1, hbx, hown, hb⟩ := hcut
      obtain ⟨rb, cap', hAeq, hR, hrb, hcap1, hcap2⟩ := Row.of_own hown rfl HG.out.1
      injection hAeq with hA1 hA2 hA3
      subst hA1 hA3
      clear hA2
      have hgr : rb ≠ g1 := fun e => own_blk_ne hown hbx (by decide) (by simp [Value.ownBlock, e])
      have hlt1 := hC.blk.lt
      replace hC := hC.call hb
      replace hB := hB.trans (hb.mono hB.size)
      clear hown hb
      obtain ⟨K, hK⟩ : ∃ K, K = wh % c.pcs.length := ⟨_, rfl⟩
      have hKl : K < c.pcs.length := by rw [hK]; exact Nat.mod_lt _ HG.out.1
      have hKi : (K : Int) < (c.pcs.length : Int) := by omega
      have c1 : IntKind.i64.wrap (wh : Int) = wh := wrap_id _ (by omega) (by have := H8.out; omega)
      have m1 : (wh : Int).tmod (c.pcs.length : Int) = (K : Int) := by rw [hK]; rfl
      have c3 : IntKind.i64.wrap (K : Int) = K := wrap_id _ (by omega) (by have := HG.out; omega)
      have nz : ¬ c.pcs = [] := fun e => by rw [e] at hKl; simp at hKl
      obtain ⟨e, he⟩ : ∃ e, e = wh % 2 := ⟨_, rfl⟩
      have he2 : e = 0 ∨ e = 1 := by omega
      have m2 : (wh : Int).tmod 2 = (e : Int) := by rw [he]; rfl
      have c4 : IntKind.i64.wrap (e : Int) = e := wrap_id _ (by omega) (by omega)
      have hei : (e : Int) < 2 := by omega
      obtain ⟨p, hp⟩ : ∃ p, c.pcs[K]? = some p := ⟨_, List.getElem?_eq_getElem hKl⟩
      have HP := Lib.hid hp
      have hpl := HBD.out.2.2.2 p (List.mem_of_getElem? hp)
      clear hK he
      -- region 5
      have r6 : wc.cell? ⟨rb, K * 7 + 6, none⟩ = some (.bool p.loose) := hR.cell K p hp 6 (by omega)
      have rf := fun i => hR.frozen i
      have x0 := hbx.cell 0
      simp at x0
      have hR1 : Row (wc.setCell ⟨rb, K * 7 + 6, none⟩ (.bool true)) rb (c.pcs.set K ⟨p.a, p.b, true⟩) := hR.set (q := ⟨p.a, p.b, true⟩) hp (j0 := 6) (by omega) (fun j h1 h2 => by
        have : j = 0 ∨ j = 1 ∨ j = 2 ∨ j = 3 ∨ j = 4 ∨ j = 5 := by omega
        rcases this with rfl | rfl | rfl | rfl | rfl | rfl <;> rfl)
      have hbs : Below w1.heap.size wc (wc.setCell ⟨rb, K * 7 + 6, none⟩ (.bool true)) := (Below.refl w1.heap.size wc).setCell (p := ⟨rb, K * 7 + 6, none⟩) hrb _
      have hbx1 := hbx.far (p := ⟨rb, K * 7 + 6, none⟩) (show g1 ≠ rb from fun e => hgr e.symm) (.bool true)
      clear hp
      go_upto_region 6 with (fail)
      clear r6 rf x0 hbx hR
      generalize wc.setCell ⟨rb, K * 7 + 6, none⟩ (.bool true) = wd at *
      replace hC := hC.belowB ((hbs).mono (show w.heap.size + 1 ≤ w1.heap.size from hlt1)) (Nat.lt_succ_self _)
      replace hB := hB.trans (hbs.mono (Nat.le_of_lt hlt1))
      obtain ⟨E, hE⟩ : ∃ E : En, E = if e = 0 then p.a else p.b := ⟨_, rfl⟩
      have HE := Lib.hid hE
      have hKq : (c.pcs.set K ⟨p.a, p.b, true⟩)[K]? = some ⟨p.a, p.b, true⟩ := List.getElem?_set_self hKl
      have r0 : wd.cell? ⟨rb, K * 7 + e * 3, none⟩ = some (.int .i64 E.lo) := by
        have := hR1.cell K _ hKq (e * 3) (by omega)
        rw [this, hE]
        rcases he2 with rfl | rfl <;> rfl
      have r1 : wd.cell? ⟨rb, K * 7 + e * 3 + 1, none⟩ = some (.int .i64 E.hi) := by
        have := hR1.cell K _ hKq (e * 3 + 1) (by omega)
        rw [← Nat.add_assoc] at this
        rw [this, hE]
        rcases he2 with rfl | rfl <;> rfl
      have x0 := hbx1.cell 0
      simp at x0
      have hEb : (0 ≤ E.lo ∧ E.lo ≤ E.hi) ∧ E.hi ≤ 1000 := by
        unfold okE okR at hpl
        simp only [Bool.and_eq_true, decide_eq_true_eq] at hpl
        rw [hE]
        rcases he2 with rfl | rfl
        · exact hpl.1.1.1
        · exact hpl.2.1.1
      clear hE hbs
      go_upto_region 7 with (fail)
      have hrr : rb ≠ wd.heap.size := Nat.ne_of_lt hR1.lt
      have hbr := Blk.new wd 24 #[.int .i64 E.lo, .int .i64 E.hi]
      have hbb := (Below.refl wd.heap.size wd).alloc (Nat.le_refl _) (.cells #[.int .i64 E.lo, .int .i64 E.hi] 24)
      replace hR1 := hR1.call hbb hR1.lt
      replace hbx1 := hbx1.call hbb
      replace hC := hC.call hbb
      replace hB := hB.trans (hbb.mono hB.size)
      clear hbb x0 r0 r1
      generalize wd.alloc (.cells #[.int .i64 E.lo, .int .i64 E.hi] 24) = ve at *
      generalize wd.heap.size = rg at *
      have r0 : ve.cell? ⟨rb, K * 7 + e * 3, none⟩ = some (.int .i64 E.lo) := by
        have := hR1.cell K _ hKq (e * 3) (by omega)
        rw [this, HE.out]
        rcases he2 with rfl | rfl <;> rfl
      have r1 : ve.cell? ⟨rb, K * 7 + e * 3 + 1, none⟩ = some (.int .i64 E.hi) := by
        have := hR1.cell K _ hKq (e * 3 + 1) (by omega)
        rw [← Nat.add_assoc] at this
        rw [this, HE.out]
        rcases he2 with rfl | rfl <;> rfl
      have x0 := hbx1.cell 0
      have y0 := hbr.cell 0
      have y1 := hbr.cell 1
      simp at x0 y0 y1
      go_cut [] from 70 to 92 (fun wx => ∃ q, Row wx rb (c.pcs.set K q) ∧ widE p.a q.a ∧ widE p.b q.b ∧ q.loose = true ∧ Below w1.heap.size ve wx ∧ Blk wx g1 26 #[.slice (some ⟨rb, 0, none⟩) c.pcs.length cap, .int .i64 (c.off + (o : Int)), .int .i64 (c.slo - (st : Int)), .int .i64 (c.shi + (st : Int))])
      case first =>
        have e1 : IntKind.i64.wrap (dp : Int) = dp := wrap_id _ (by omega) (by have := H8.out; omega)
        have e2 : IntKind.i64.wrap (E.lo - (dp : Int)) = E.lo - dp := wrap_id _ (by have := H8.out; omega) (by omega)
        have e3 : IntKind.i64.wrap (E.hi + (dp : Int)) = E.hi + dp := wrap_id _ (by omega) (by have := H8.out; omega)
        obtain ⟨F, hFd⟩ : ∃ F : World → Prop, (∀ w', F w' ↔ (w'.cell? ⟨g1, 0, none⟩ = some (.slice (some ⟨rb, 0, none⟩) c.pcs.length cap) ∧ w'.cell? ⟨rg, 0, none⟩ = some (.int .i64 E.lo) ∧ w'.cell? ⟨rg, 1, none⟩ = some (.int .i64 E.hi))) := ⟨_, fun _ => Iff.rfl⟩
        have hF0 : F ve := (hFd ve).2 ⟨x0, y0, y1⟩
        haveI : Nonempty (SubW F) := ⟨⟨ve, hF0⟩⟩
        have f0 : ∀ y : SubW F, y.w.cell? ⟨g1, 0, none⟩ = some (.slice (some ⟨rb, 0, none⟩) c.pcs.length cap) := fun y => ((hFd y.w).1 y.h).1
        have f1 : ∀ y : SubW F, y.w.cell? ⟨rg, 0, none⟩ = some (.int .i64 E.lo) := fun y => ((hFd y.w).1 y.h).2.1
        have f2 : ∀ y : SubW F, y.w.cell? ⟨rg, 1, none⟩ = some (.int .i64 E.hi) := fun y => ((hFd y.w).1 y.h).2.2
        have hl1 := hbx1.lt
        have hl2 := hbr.lt
        have hF : Hid (∀ {w' : World}, Below ve.heap.size ve w' → F w') := fun {w'} hb => (hFd w').2 ⟨(hb.cell (p := ⟨g1, 0, none⟩) hl1).trans x0, (hb.cell (p := ⟨rg, 0, none⟩) hl2).trans y0, (hb.cell (p := ⟨rg, 1, none⟩) hl2).trans y1⟩
        have hF2 : Hid (∀ w', Blk w' g1 26 #[.slice (some ⟨rb, 0, none⟩) c.pcs.length cap, .int .i64 (c.off + (o : Int)), .int .i64 (c.slo - (st : Int)), .int .i64 (c.shi + (st : Int))] → Blk w' rg 24 #[.int .i64 E.lo, .int .i64 E.hi] → F w') := fun w' h1 h2 => (hFd w').2 ⟨by have := h1.cell 0; simpa using this, by have := h2.cell 0; simpa using this, by have := h2.cell 1; simpa using this⟩
        clear x0 y0 y1 hFd hF0
        have hx : Below ve.heap.size ve ve.drew := (Below.refl ve.heap.size ve).drew
        refine ways_start 24 (fun w' => ∃ x : SubW F, w' = x.w) (by rfl) (by kernel_rfl) ?_
        have rf := fun i => hR1.frozen i
        generalize ve.drew = vd at *
        refine ways_q 0 (by rfl) (by rfl) (by kernel_rfl) (by kernel_rfl) (by kernel_rfl) (by rfl) ⟨⟨vd, hF.out hx⟩, rfl⟩ ?_
        intro K hK
        go_big_quiet_op
        go_big_quiet_on
        refine ways_q 1 (by rfl) (by rfl) (by kernel_rfl) (by kernel_rfl) (by kernel_rfl) (by rfl) ⟨⟨vd, hF.out hx⟩, rfl⟩ ?_
        intro K hK
        go_big_quiet_op
        go_big_quiet_on
        refine ways_q 2 (by rfl) (by rfl) (by kernel_rfl) (by kernel_rfl) (by kernel_rfl) (by rfl) ⟨⟨vd, hF.out hx⟩, rfl⟩ ?_
        intro K hK
        go_big_quiet_op
        go_big_quiet_on
        refine ways_q 3 (by rfl) (by rfl) (by kernel_rfl) (by kernel_rfl) (by kernel_rfl) (by rfl) ⟨⟨vd, hF.out hx⟩, rfl⟩ ?_
        intro K hK
        go_big_quiet_op
        go_big_quiet_on
        refine ways_q 4 (by rfl) (by rfl) (by kernel_rfl) (by kernel_rfl) (by kernel_rfl) (by rfl) ⟨⟨vd, hF.out hx⟩, rfl⟩ ?_
        intro K hK
        go_big_quiet_op
        go_big_quiet_on
        refine ways_q 5 (by rfl) (by rfl) (by kernel_rfl) (by kernel_rfl) (by kernel_rfl) (by rfl) ⟨⟨vd, hF.out hx⟩, rfl⟩ ?_
        intro K hK
        go_big_quiet_op
        go_big_quiet_on
        refine ways_q 6 (by rfl) (by rfl) (by kernel_rfl) (by kernel_rfl) (by kernel_rfl) (by rfl) ⟨⟨vd, hF.out hx⟩, rfl⟩ ?_
        intro K hK
        go_big_quiet_op
        go_big_quiet_on
        refine ways_q 7 (by rfl) (by rfl) (by kernel_rfl) (by kernel_rfl) (by kernel_rfl) (by rfl) ⟨⟨vd, hF.out hx⟩, rfl⟩ ?_
        intro K hK
        go_big_quiet_op
        go_big_quiet_on
        refine ways_q 8 (by rfl) (by rfl) (by kernel_rfl) (by kernel_rfl) (by kernel_rfl) (by rfl) ⟨⟨vd, hF.out hx⟩, rfl⟩ ?_
        intro K hK
        go_big_quiet_op
        go_big_quiet_on
        refine ways_q 9 (by rfl) (by rfl) (by kernel_rfl) (by kernel_rfl) (by kernel_rfl) (by rfl) ⟨⟨vd, hF.out hx⟩, rfl⟩ ?_
        intro K hK
        go_big_quiet_op
        go_big_quiet_on
        refine ways_q 10 (by rfl) (by rfl) (by kernel_rfl) (by kernel_rfl) (by kernel_rfl) (by rfl) ⟨⟨vd, hF.out hx⟩, rfl⟩ ?_
        intro K hK
        go_big_quiet_op
        go_big_quiet_on
        refine ways_q 12 (by rfl) (by rfl) (by kernel_rfl) (by kernel_rfl) (by kernel_rfl) (by rfl) ⟨⟨vd, hF.out hx⟩, rfl⟩ ?_
        intro K hK
        go_big_quiet_op
        go_big_quiet_on
        refine ways_q 13 (by rfl) (by rfl) (by kernel_rfl) (by kernel_rfl) (by kernel_rfl) (by rfl) ⟨⟨vd, hF.out hx⟩, rfl⟩ ?_
        intro K hK
        go_big_quiet_op
        go_big_quiet_on
        refine ways_q 14 (by rfl) (by rfl) (by kernel_rfl) (by kernel_rfl) (by kernel_rfl) (by rfl) ⟨⟨vd, hF.out hx⟩, rfl⟩ ?_
        intro K hK
        go_big_quiet_op
        go_big_quiet_on
        refine ways_q 15 (by rfl) (by rfl) (by kernel_rfl) (by kernel_rfl) (by kernel_rfl) (by rfl) ⟨⟨vd, hF.out hx⟩, rfl⟩ ?_
        intro K hK
        go_big_quiet_op
        go_big_quiet_on
        refine ways_q 16 (by rfl) (by rfl) (by kernel_rfl) (by kernel_rfl) (by kernel_rfl) (by rfl) ⟨⟨vd, hF.out hx⟩, rfl⟩ ?_
        intro K hK
        go_big_quiet_op
        go_big_quiet_on
        refine ways_q 19 (by rfl) (by rfl) (by kernel_rfl) (by kernel_rfl) (by kernel_rfl) (by rfl) ⟨⟨vd, hF.out hx⟩, rfl⟩ ?_
        intro K hK
        go_big_quiet_op
        go_big_quiet_on
        refine ways_q 20 (by rfl) (by rfl) (by kernel_rfl) (by kernel_rfl) (by kernel_rfl) (by rfl) ⟨⟨vd, hF.out hx⟩, rfl⟩ ?_
        intro K hK
        go_big_quiet_op
        go_big_quiet_on
        have hRd := hR1.call hx hR1.lt
        have hbd := hbx1.call hx
        have hrgd := hbr.call hx
        have hw1e : w1.heap.size ≤ ve.heap.size := by have := hR1.lt; omega
        have hrt := hR1.lt
        have q0 := (hx.cell (p := ⟨rb, K * 7 + e * 3, none⟩) hrt).trans r0
        have q1 := (hx.cell (p := ⟨rb, K * 7 + e * 3 + 1, none⟩) hrt).trans r1
        have qf := fun i => hRd.frozen i
        clear r0 r1 rf
        by_cases hlo : E.lo ≤ (dp : Int)
        · by_cases hhi : 1000 ≤ E.hi + (dp : Int)
          · have hlo' : ¬ ((dp : Int) < E.lo) := by omega
            have hhi' : ¬ (E.hi + (dp : Int) < 1000) := by omega
            refine ways_2 11 17 (by kernel_rfl) ?_ ?_
            · refine ⟨_, _, (by rfl), (by rfl), ?_⟩
              intro K' hK'
              go_wp2
              refine hK' _ _ ⟨⟨⟨vd, hF.out hx⟩, rfl⟩, ?_⟩
              clear hK' K'
              refine ways_1 17 (by kernel_rfl) ?_
              refine ⟨_, _, (by rfl), (by rfl), ?_⟩
              intro K' hK'
              go_wp2
              refine hK' _ _ ⟨⟨⟨vd, hF.out hx⟩, rfl⟩, ?_⟩
              clear hK' K'
              refine ways_q 18 (by rfl) (by rfl) (by kernel_rfl) (by kernel_rfl) (by kernel_rfl) (by rfl) ⟨⟨vd, hF.out hx⟩, rfl⟩ ?_
              intro K hK
              go_big_quiet_op
              go_big_quiet_on
              refine ways_q 21 (by rfl) (by rfl) (by kernel_rfl) (by kernel_rfl) (by kernel_rfl) (by rfl) ⟨⟨vd, hF.out hx⟩, rfl⟩ ?_
              intro K hK
              go_big_quiet_op
              go_big_quiet_on
              refine ways_q 22 (by rfl) (by rfl) (by kernel_rfl) (by kernel_rfl) (by kernel_rfl) (by rfl) ⟨⟨vd, hF.out hx⟩, rfl⟩ ?_
              intro K hK
              go_big_quiet_op
              go_big_quiet_on
              have hw := setE_wid (lo := 0) (hi := 1000) HE.out he2 (by omega) (by omega)
              have hRe := hRd.setE (p := ⟨p.a, p.b, true⟩) hKq he2 (0) (1000)
              rw [List.set_set] at hRe
              have hbe : Below w1.heap.size ve ((vd.setCell ⟨rb, K * 7 + e * 3, none⟩ (.int .i64 (0))).setCell ⟨rb, K * 7 + e * 3 + 1, none⟩ (.int .i64 (1000))) := ((hx.mono hw1e).setCell (p := ⟨rb, K * 7 + e * 3, none⟩) hrb _).setCell (p := ⟨rb, K * 7 + e * 3 + 1, none⟩) hrb _
              have hbg := (hbd.far (p := ⟨rb, K * 7 + e * 3, none⟩) (show g1 ≠ rb from fun e => hgr e.symm) (.int .i64 (0))).far (p := ⟨rb, K * 7 + e * 3 + 1, none⟩) (show g1 ≠ rb from fun e => hgr e.symm) (.int .i64 (1000))
              have hrg2 := (hrgd.far (p := ⟨rb, K * 7 + e * 3, none⟩) (show rg ≠ rb from fun e => hrr e.symm) (.int .i64 (0))).far (p := ⟨rb, K * 7 + e * 3 + 1, none⟩) (show rg ≠ rb from fun e => hrr e.symm) (.int .i64 (1000))
              have hFe := hF2.out _ hbg hrg2
              refine ways_1 23 (by kernel_rfl) ?_
              refine ⟨_, _, (by rfl), (by rfl), ?_⟩
              intro K' hK'
              go_wp2
              refine hK' _ _ ⟨⟨⟨_, hFe⟩, rfl⟩, ?_⟩
              clear hK' K'
              refine ways_end (by kernel_rfl) ?_
              go_wp2
              go_meet
              case rel => exact ⟨_, hRe, hw.1, hw.2.1, hw.2.2, hbe, hbg⟩
            · refine ⟨_, _, (by rfl), (by rfl), ?_⟩
              intro K' hK'
              go_wp2
              refine hK' _ _ ⟨⟨⟨vd, hF.out hx⟩, rfl⟩, ?_⟩
              clear hK' K'
              refine ways_1 11 (by kernel_rfl) ?_
              refine ⟨_, _, (by rfl), (by rfl), ?_⟩
              intro K' hK'
              go_wp2
              refine hK' _ _ ⟨⟨⟨vd, hF.out hx⟩, rfl⟩, ?_⟩
              clear hK' K'
              refine ways_q 18 (by rfl) (by rfl) (by kernel_rfl) (by kernel_rfl) (by kernel_rfl) (by rfl) ⟨⟨vd, hF.out hx⟩, rfl⟩ ?_
              intro K hK
              go_big_quiet_op
              go_big_quiet_on
              refine ways_q 21 (by rfl) (by rfl) (by kernel_rfl) (by kernel_rfl) (by kernel_rfl) (by rfl) ⟨⟨vd, hF.out hx⟩, rfl⟩ ?_
              intro K hK
              go_big_quiet_op
              go_big_quiet_on
              refine ways_q 22 (by rfl) (by rfl) (by kernel_rfl) (by kernel_rfl) (by kernel_rfl) (by rfl) ⟨⟨vd, hF.out hx⟩, rfl⟩ ?_
              intro K hK
              go_big_quiet_op
              go_big_quiet_on
              have hw := setE_wid (lo := 0) (hi := 1000) HE.out he2 (by omega) (by omega)
              have hRe := hRd.setE (p := ⟨p.a, p.b, true⟩) hKq he2 (0) (1000)
              rw [List.set_set] at hRe
              have hbe : Below w1.heap.size ve ((vd.setCell ⟨rb, K * 7 + e * 3, none⟩ (.int .i64 (0))).setCell ⟨rb, K * 7 + e * 3 + 1, none⟩ (.int .i64 (1000))) := ((hx.mono hw1e).setCell (p := ⟨rb, K * 7 + e * 3, none⟩) hrb _).setCell (p := ⟨rb, K * 7 + e * 3 + 1, none⟩) hrb _
              have hbg := (hbd.far (p := ⟨rb, K * 7 + e * 3, none⟩) (show g1 ≠ rb from fun e => hgr e.symm) (.int .i64 (0))).far (p := ⟨rb, K * 7 + e * 3 + 1, none⟩) (show g1 ≠ rb from fun e => hgr e.symm) (.int .i64 (1000))
              have hrg2 := (hrgd.far (p := ⟨rb, K * 7 + e * 3, none⟩) (show rg ≠ rb from fun e => hrr e.symm) (.int .i64 (0))).far (p := ⟨rb, K * 7 + e * 3 + 1, none⟩) (show rg ≠ rb from fun e => hrr e.symm) (.int .i64 (1000))
              have hFe := hF2.out _ hbg hrg2
              refine ways_1 23 (by kernel_rfl) ?_
              refine ⟨_, _, (by rfl), (by rfl), ?_⟩
              intro K' hK'
              go_wp2
              refine hK' _ _ ⟨⟨⟨_, hFe⟩, rfl⟩, ?_⟩
              clear hK' K'
              refine ways_end (by kernel_rfl) ?_
              go_wp2
              go_meet
              case rel => exact ⟨_, hRe, hw.1, hw.2.1, hw.2.2, hbe, hbg⟩
          · have hlo' : ¬ ((dp : Int) < E.lo) := by omega
            have hhi' : E.hi + (dp : Int) < 1000 := by omega
            refine ways_2 11 17 (by kernel_rfl) ?_ ?_
            · refine ⟨_, _, (by rfl), (by rfl), ?_⟩
              intro K' hK'
              go_wp2
              refine hK' _ _ ⟨⟨⟨vd, hF.out hx⟩, rfl⟩, ?_⟩
              clear hK' K'
              refine ways_1 17 (by kernel_rfl) ?_
              refine ⟨_, _, (by rfl), (by rfl), ?_⟩
              intro K' hK'
              go_wp2
              refine hK' _ _ ⟨⟨⟨vd, hF.out hx⟩, rfl⟩, ?_⟩
              clear hK' K'
              refine ways_q 18 (by rfl) (by rfl) (by kernel_rfl) (by kernel_rfl) (by kernel_rfl) (by rfl) ⟨⟨vd, hF.out hx⟩, rfl⟩ ?_
              intro K hK
              go_big_quiet_op
              go_big_quiet_on
              refine ways_q 21 (by rfl) (by rfl) (by kernel_rfl) (by kernel_rfl) (by kernel_rfl) (by rfl) ⟨⟨vd, hF.out hx⟩, rfl⟩ ?_
              intro K hK
              go_big_quiet_op
              go_big_quiet_on
              refine ways_q 22 (by rfl) (by rfl) (by kernel_rfl) (by kernel_rfl) (by kernel_rfl) (by rfl) ⟨⟨vd, hF.out hx⟩, rfl⟩ ?_
              intro K hK
              go_big_quiet_op
              go_big_quiet_on
              have hw := setE_wid (lo := 0) (hi := (E.hi + (dp : Int))) HE.out he2 (by omega) (by omega)
              have hRe := hRd.setE (p := ⟨p.a, p.b, true⟩) hKq he2 (0) ((E.hi + (dp : Int)))
              rw [List.set_set] at hRe
              have hbe : Below w1.heap.size ve ((vd.setCell ⟨rb, K * 7 + e * 3, none⟩ (.int .i64 (0))).setCell ⟨rb, K * 7 + e * 3 + 1, none⟩ (.int .i64 ((E.hi + (dp : Int))))) := ((hx.mono hw1e).setCell (p := ⟨rb, K * 7 + e * 3, none⟩) hrb _).setCell (p := ⟨rb, K * 7 + e * 3 + 1, none⟩) hrb _
              have hbg := (hbd.far (p := ⟨rb, K * 7 + e * 3, none⟩) (show g1 ≠ rb from fun e => hgr e.symm) (.int .i64 (0))).far (p := ⟨rb, K * 7 + e * 3 + 1, none⟩) (show g1 ≠ rb from fun e => hgr e.symm) (.int .i64 ((E.hi + (dp : Int))))
              have hrg2 := (hrgd.far (p := ⟨rb, K * 7 + e * 3, none⟩) (show rg ≠ rb from fun e => hrr e.symm) (.int .i64 (0))).far (p := ⟨rb, K * 7 + e * 3 + 1, none⟩) (show rg ≠ rb from fun e => hrr e.symm) (.int .i64 ((E.hi + (dp : Int))))
              have hFe := hF2.out _ hbg hrg2
              refine ways_1 23 (by kernel_rfl) ?_
              refine ⟨_, _, (by rfl), (by rfl), ?_⟩
              intro K' hK'
              go_wp2
              refine hK' _ _ ⟨⟨⟨_, hFe⟩, rfl⟩, ?_⟩
              clear hK' K'
              refine ways_end (by kernel_rfl) ?_
              go_wp2
              go_meet
              case rel => exact ⟨_, hRe, hw.1, hw.2.1, hw.2.2, hbe, hbg⟩
            · refine ⟨_, _, (by rfl), (by rfl), ?_⟩
              intro K' hK'
              go_wp2
              refine hK' _ _ ⟨⟨⟨vd, hF.out hx⟩, rfl⟩, ?_⟩
              clear hK' K'
              refine ways_1 11 (by kernel_rfl) ?_
              refine ⟨_, _, (by rfl), (by rfl), ?_⟩
              intro K' hK'
              go_wp2
              refine hK' _ _ ⟨⟨⟨vd, hF.out hx⟩, rfl⟩, ?_⟩
              clear hK' K'
              refine ways_q 18 (by rfl) (by rfl) (by kernel_rfl) (by kernel_rfl) (by kernel_rfl) (by rfl) ⟨⟨vd, hF.out hx⟩, rfl⟩ ?_
              intro K hK
              go_big_quiet_op
              go_big_quiet_on
              refine ways_q 21 (by rfl) (by rfl) (by kernel_rfl) (by kernel_rfl) (by kernel_rfl) (by rfl) ⟨⟨vd, hF.out hx⟩, rfl⟩ ?_
              intro K hK
              go_big_quiet_op
              go_big_quiet_on
              refine ways_q 22 (by rfl) (by rfl) (by kernel_rfl) (by kernel_rfl) (by kernel_rfl) (by rfl) ⟨⟨vd, hF.out hx⟩, rfl⟩ ?_
              intro K hK
              go_big_quiet_op
              go_big_quiet_on
              have hw := setE_wid (lo := 0) (hi := (E.hi + (dp : Int))) HE.out he2 (by omega) (by omega)
              have hRe := hRd.setE (p := ⟨p.a, p.b, true⟩) hKq he2 (0) ((E.hi + (dp : Int)))
              rw [List.set_set] at hRe
              have hbe : Below w1.heap.size ve ((vd.setCell ⟨rb, K * 7 + e * 3, none⟩ (.int .i64 (0))).setCell ⟨rb, K * 7 + e * 3 + 1, none⟩ (.int .i64 ((E.hi + (dp : Int))))) := ((hx.mono hw1e).setCell (p := ⟨rb, K * 7 + e * 3, none⟩) hrb _).setCell (p := ⟨rb, K * 7 + e * 3 + 1, none⟩) hrb _
              have hbg := (hbd.far (p := ⟨rb, K * 7 + e * 3, none⟩) (show g1 ≠ rb from fun e => hgr e.symm) (.int .i64 (0))).far (p := ⟨rb, K * 7 + e * 3 + 1, none⟩) (show g1 ≠ rb from fun e => hgr e.symm) (.int .i64 ((E.hi + (dp : Int))))
              have hrg2 := (hrgd.far (p := ⟨rb, K * 7 + e * 3, none⟩) (show rg ≠ rb from fun e => hrr e.symm) (.int .i64 (0))).far (p := ⟨rb, K * 7 + e * 3 + 1, none⟩) (show rg ≠ rb from fun e => hrr e.symm) (.int .i64 ((E.hi + (dp : Int))))
              have hFe := hF2.out _ hbg hrg2
              refine ways_1 23 (by kernel_rfl) ?_
              refine ⟨_, _, (by rfl), (by rfl), ?_⟩
              intro K' hK'
              go_wp2
              refine hK' _ _ ⟨⟨⟨_, hFe⟩, rfl⟩, ?_⟩
              clear hK' K'
              refine ways_end (by kernel_rfl) ?_
              go_wp2
              go_meet
              case rel => exact ⟨_, hRe, hw.1, hw.2.1, hw.2.2, hbe, hbg⟩
        · by_cases hhi : 1000 ≤ E.hi + (dp : Int)
          · have hlo' : (dp : Int) < E.lo := by omega
            have hhi' : ¬ (E.hi + (dp : Int) < 1000) := by omega
            refine ways_2 11 17 (by kernel_rfl) ?_ ?_
            · refine ⟨_, _, (by rfl), (by rfl), ?_⟩
              intro K' hK'
              go_wp2
              refine hK' _ _ ⟨⟨⟨vd, hF.out hx⟩, rfl⟩, ?_⟩
              clear hK' K'
              refine ways_1 17 (by kernel_rfl) ?_
              refine ⟨_, _, (by rfl), (by rfl), ?_⟩
              intro K' hK'
              go_wp2
              refine hK' _ _ ⟨⟨⟨vd, hF.out hx⟩, rfl⟩, ?_⟩
              clear hK' K'
              refine ways_q 18 (by rfl) (by rfl) (by kernel_rfl) (by kernel_rfl) (by kernel_rfl) (by rfl) ⟨⟨vd, hF.out hx⟩, rfl⟩ ?_
              intro K hK
              go_big_quiet_op
              go_big_quiet_on
              refine ways_q 21 (by rfl) (by rfl) (by kernel_rfl) (by kernel_rfl) (by kernel_rfl) (by rfl) ⟨⟨vd, hF.out hx⟩, rfl⟩ ?_
              intro K hK
              go_big_quiet_op
              go_big_quiet_on
              refine ways_q 22 (by rfl) (by rfl) (by kernel_rfl) (by kernel_rfl) (by kernel_rfl) (by rfl) ⟨⟨vd, hF.out hx⟩, rfl⟩ ?_
              intro K hK
              go_big_quiet_op
              go_big_quiet_on
              have hw := setE_wid (lo := (E.lo - (dp : Int))) (hi := 1000) HE.out he2 (by omega) (by omega)
              have hRe := hRd.setE (p := ⟨p.a, p.b, true⟩) hKq he2 ((E.lo - (dp : Int))) (1000)
              rw [List.set_set] at hRe
              have hbe : Below w1.heap.size ve ((vd.setCell ⟨rb, K * 7 + e * 3, none⟩ (.int .i64 ((E.lo - (dp : Int))))).setCell ⟨rb, K * 7 + e * 3 + 1, none⟩ (.int .i64 (1000))) := ((hx.mono hw1e).setCell (p := ⟨rb, K * 7 + e * 3, none⟩) hrb _).setCell (p := ⟨rb, K * 7 + e * 3 + 1, none⟩) hrb _
              have hbg := (hbd.far (p := ⟨rb, K * 7 + e * 3, none⟩) (show g1 ≠ rb from fun e => hgr e.symm) (.int .i64 ((E.lo - (dp : Int))))).far (p := ⟨rb, K * 7 + e * 3 + 1, none⟩) (show g1 ≠ rb from fun e => hgr e.symm) (.int .i64 (1000))
              have hrg2 := (hrgd.far (p := ⟨rb, K * 7 + e * 3, none⟩) (show rg ≠ rb from fun e => hrr e.symm) (.int .i64 ((E.lo - (dp : Int))))).far (p := ⟨rb, K * 7 + e * 3 + 1, none⟩) (show rg ≠ rb from fun e => hrr e.symm) (.int .i64 (1000))
              have hFe := hF2.out _ hbg hrg2
              refine ways_1 23 (by kernel_rfl) ?_
              refine ⟨_, _, (by rfl), (by rfl), ?_⟩
              intro K' hK'
              go_wp2
              refine hK' _ _ ⟨⟨⟨_, hFe⟩, rfl⟩, ?_⟩
              clear hK' K'
              refine ways_end (by kernel_rfl) ?_
              go_wp2
              go_meet
              case rel => exact ⟨_, hRe, hw.1, hw.2.1, hw.2.2, hbe, hbg⟩
            · refine ⟨_, _, (by rfl), (by rfl), ?_⟩
              intro K' hK'
              go_wp2
              refine hK' _ _ ⟨⟨⟨vd, hF.out hx⟩, rfl⟩, ?_⟩
              clear hK' K'
              refine ways_1 11 (by kernel_rfl) ?_
              refine ⟨_, _, (by rfl), (by rfl), ?_⟩
              intro K' hK'
              go_wp2
              refine hK' _ _ ⟨⟨⟨vd, hF.out hx⟩, rfl⟩, ?_⟩
              clear hK' K'
              refine ways_q 18 (by rfl) (by rfl) (by kernel_rfl) (by kernel_rfl) (by kernel_rfl) (by rfl) ⟨⟨vd, hF.out hx⟩, rfl⟩ ?_
              intro K hK
              go_big_quiet_op
              go_big_quiet_on
              refine ways_q 21 (by rfl) (by rfl) (by kernel_rfl) (by kernel_rfl) (by kernel_rfl) (by rfl) ⟨⟨vd, hF.out hx⟩, rfl⟩ ?_
              intro K hK
              go_big_quiet_op
              go_big_quiet_on
              refine ways_q 22 (by rfl) (by rfl) (by kernel_rfl) (by kernel_rfl) (by kernel_rfl) (by rfl) ⟨⟨vd, hF.out hx⟩, rfl⟩ ?_
              intro K hK
              go_big_quiet_op
              go_big_quiet_on
              have hw := setE_wid (lo := (E.lo - (dp : Int))) (hi := 1000) HE.out he2 (by omega) (by omega)
              have hRe := hRd.setE (p := ⟨p.a, p.b, true⟩) hKq he2 ((E.lo - (dp : Int))) (1000)
              rw [List.set_set] at hRe
              have hbe : Below w1.heap.size ve ((vd.setCell ⟨rb, K * 7 + e * 3, none⟩ (.int .i64 ((E.lo - (dp : Int))))).setCell ⟨rb, K * 7 + e * 3 + 1, none⟩ (.int .i64 (1000))) := ((hx.mono hw1e).setCell (p := ⟨rb, K * 7 + e * 3, none⟩) hrb _).setCell (p := ⟨rb, K * 7 + e * 3 + 1, none⟩) hrb _
              have hbg := (hbd.far (p := ⟨rb, K * 7 + e * 3, none⟩) (show g1 ≠ rb from fun e => hgr e.symm) (.int .i64 ((E.lo - (dp : Int))))).far (p := ⟨rb, K * 7 + e * 3 + 1, none⟩) (show g1 ≠ rb from fun e => hgr e.symm) (.int .i64 (1000))
              have hrg2 := (hrgd.far (p := ⟨rb, K * 7 + e * 3, none⟩) (show rg ≠ rb from fun e => hrr e.symm) (.int .i64 ((E.lo - (dp : Int))))).far (p := ⟨rb, K * 7 + e * 3 + 1, none⟩) (show rg ≠ rb from fun e => hrr e.symm) (.int .i64 (1000))
              have hFe := hF2.out _ hbg hrg2
              refine ways_1 23 (by kernel_rfl) ?_
              refine ⟨_, _, (by rfl), (by rfl), ?_⟩
              intro K' hK'
              go_wp2
              refine hK' _ _ ⟨⟨⟨_, hFe⟩, rfl⟩, ?_⟩
              clear hK' K'
              refine ways_end (by kernel_rfl) ?_
              go_wp2
              go_meet
              case rel => exact ⟨_, hRe, hw.1, hw.2.1, hw.2.2, hbe, hbg⟩
          · have hlo' : (dp : Int) < E.lo := by omega
            have hhi' : E.hi + (dp : Int) < 1000 := by omega
            refine ways_2 11 17 (by kernel_rfl) ?_ ?_
            · refine ⟨_, _, (by rfl), (by rfl), ?_⟩
              intro K' hK'
              go_wp2
              refine hK' _ _ ⟨⟨⟨vd, hF.out hx⟩, rfl⟩, ?_⟩
              clear hK' K'
              refine ways_1 17 (by kernel_rfl) ?_
              refine ⟨_, _, (by rfl), (by rfl), ?_⟩
              intro K' hK'
              go_wp2
              refine hK' _ _ ⟨⟨⟨vd, hF.out hx⟩, rfl⟩, ?_⟩
              clear hK' K'
              refine ways_q 18 (by rfl) (by rfl) (by kernel_rfl) (by kernel_rfl) (by kernel_rfl) (by rfl) ⟨⟨vd, hF.out hx⟩, rfl⟩ ?_
              intro K hK
              go_big_quiet_op
              go_big_quiet_on
              refine ways_q 21 (by rfl) (by rfl) (by kernel_rfl) (by kernel_rfl) (by kernel_rfl) (by rfl) ⟨⟨vd, hF.out hx⟩, rfl⟩ ?_
              intro K hK
              go_big_quiet_op
              go_big_quiet_on
              refine ways_q 22 (by rfl) (by rfl) (by kernel_rfl) (by kernel_rfl) (by kernel_rfl) (by rfl) ⟨⟨vd, hF.out hx⟩, rfl⟩ ?_
              intro K hK
              go_big_quiet_op
              go_big_quiet_on
              have hw := setE_wid (lo := (E.lo - (dp : Int))) (hi := (E.hi + (dp : Int))) HE.out he2 (by omega) (by omega)
              have hRe := hRd.setE (p := ⟨p.a, p.b, true⟩) hKq he2 ((E.lo - (dp : Int))) ((E.hi + (dp : Int)))
              rw [List.set_set] at hRe
              have hbe : Below w1.heap.size ve ((vd.setCell ⟨rb, K * 7 + e * 3, none⟩ (.int .i64 ((E.lo - (dp : Int))))).setCell ⟨rb, K * 7 + e * 3 + 1, none⟩ (.int .i64 ((E.hi + (dp : Int))))) := ((hx.mono hw1e).setCell (p := ⟨rb, K * 7 + e * 3, none⟩) hrb _).setCell (p := ⟨rb, K * 7 + e * 3 + 1, none⟩) hrb _
              have hbg := (hbd.far (p := ⟨rb, K * 7 + e * 3, none⟩) (show g1 ≠ rb from fun e => hgr e.symm) (.int .i64 ((E.lo - (dp : Int))))).far (p := ⟨rb, K * 7 + e * 3 + 1, none⟩) (show g1 ≠ rb from fun e => hgr e.symm) (.int .i64 ((E.hi + (dp : Int))))
              have hrg2 := (hrgd.far (p := ⟨rb, K * 7 + e * 3, none⟩) (show rg ≠ rb from fun e => hrr e.symm) (.int .i64 ((E.lo - (dp : Int))))).far (p := ⟨rb, K * 7 + e * 3 + 1, none⟩) (show rg ≠ rb from fun e => hrr e.symm) (.int .i64 ((E.hi + (dp : Int))))
              have hFe := hF2.out _ hbg hrg2
              refine ways_1 23 (by kernel_rfl) ?_
              refine ⟨_, _, (by rfl), (by rfl), ?_⟩
              intro K' hK'
              go_wp2
              refine hK' _ _ ⟨⟨⟨_, hFe⟩, rfl⟩, ?_⟩
              clear hK' K'
              refine ways_end (by kernel_rfl) ?_
              go_wp2
              go_meet
              case rel => exact ⟨_, hRe, hw.1, hw.2.1, hw.2.2, hbe, hbg⟩
            · refine ⟨_, _, (by rfl), (by rfl), ?_⟩
              intro K' hK'
              go_wp2
              refine hK' _ _ ⟨⟨⟨vd, hF.out hx⟩, rfl⟩, ?_⟩
              clear hK' K'
              refine ways_1 11 (by kernel_rfl) ?_
              refine ⟨_, _, (by rfl), (by rfl), ?_⟩
              intro K' hK'
              go_wp2
              refine hK' _ _ ⟨⟨⟨vd, hF.out hx⟩, rfl⟩, ?_⟩
              clear hK' K'
              refine ways_q 18 (by rfl) (by rfl) (by kernel_rfl) (by kernel_rfl) (by kernel_rfl) (by rfl) ⟨⟨vd, hF.out hx⟩, rfl⟩ ?_
              intro K hK
              go_big_quiet_op
              go_big_quiet_on
              refine ways_q 21 (by rfl) (by rfl) (by kernel_rfl) (by kernel_rfl) (by kernel_rfl) (by rfl) ⟨⟨vd, hF.out hx⟩, rfl⟩ ?_
              intro K hK
              go_big_quiet_op
              go_big_quiet_on
              refine ways_q 22 (by rfl) (by rfl) (by kernel_rfl) (by kernel_rfl) (by kernel_rfl) (by rfl) ⟨⟨vd, hF.out hx⟩, rfl⟩ ?_
              intro K hK
              go_big_quiet_op
              go_big_quiet_on
              have hw := setE_wid (lo := (E.lo - (dp : Int))) (hi := (E.hi + (dp : Int))) HE.out he2 (by omega) (by omega)
              have hRe := hRd.setE (p := ⟨p.a, p.b, true⟩) hKq he2 ((E.lo - (dp : Int))) ((E.hi + (dp : Int)))
              rw [List.set_set] at hRe
              have hbe : Below w1.heap.size ve ((vd.setCell ⟨rb, K * 7 + e * 3, none⟩ (.int .i64 ((E.lo - (dp : Int))))).setCell ⟨rb, K * 7 + e * 3 + 1, none⟩ (.int .i64 ((E.hi + (dp : Int))))) := ((hx.mono hw1e).setCell (p := ⟨rb, K * 7 + e * 3, none⟩) hrb _).setCell (p := ⟨rb, K * 7 + e * 3 + 1, none⟩) hrb _
              have hbg := (hbd.far (p := ⟨rb, K * 7 + e * 3, none⟩) (show g1 ≠ rb from fun e => hgr e.symm) (.int .i64 ((E.lo - (dp : Int))))).far (p := ⟨rb, K * 7 + e * 3 + 1, none⟩) (show g1 ≠ rb from fun e => hgr e.symm) (.int .i64 ((E.hi + (dp : Int))))
              have hrg2 := (hrgd.far (p := ⟨rb, K * 7 + e * 3, none⟩) (show rg ≠ rb from fun e => hrr e.symm) (.int .i64 ((E.lo - (dp : Int))))).far (p := ⟨rb, K * 7 + e * 3 + 1, none⟩) (show rg ≠ rb from fun e => hrr e.symm) (.int .i64 ((E.hi + (dp : Int))))
              have hFe := hF2.out _ hbg hrg2
              refine ways_1 23 (by kernel_rfl) ?_
              refine ⟨_, _, (by rfl), (by rfl), ?_⟩
              intro K' hK'
              go_wp2
              refine hK' _ _ ⟨⟨⟨_, hFe⟩, rfl⟩, ?_⟩
              clear hK' K'
              refine ways_end (by kernel_rfl) ?_
              go_wp2
              go_meet
              case rel => exact ⟨_, hRe, hw.1, hw.2.1, hw.2.2, hbe, hbg⟩
      case rest =>
        obtain ⟨q, hRq, hwa, hwb, hql, hb, hbq⟩ := hcut
        replace hC := hC.belowB hb hlt1
        replace hB := hB.trans (hb.mono (Nat.le_of_lt hlt1))
        obtain ⟨d, hd⟩ : ∃ d : Cyl, d = ⟨c.pcs.set K q, c.off + o, c.slo - st, c.shi + st⟩ := ⟨_, rfl⟩
        have hW : WB wc g1 (.slice (some ⟨rb, 0, none⟩) c.pcs.length cap) d := by
          rw [hd]
          exact ⟨hbq, _, rfl, hRq.arr (by rw [List.length_set]) (by rw [List.length_set]; exact hcap1) hcap2⟩
        have hwid : Wider c d := by
          rw [hd]
          exact wider_of HP.out rfl hwa hwb hql (show c.off ≤ c.off + o by omega) (show c.slo - st ≤ c.slo by omega) (show c.shi ≤ c.shi + st by omega)
        obtain ⟨wk, hwk⟩ : ∃ wk : World, wk = wc := ⟨_, rfl⟩
        rw [← hwk] at hC hW hB ⊢
        clear hwk hd hb hbq hRq hwa hwb hql hR1 hbx1 hbr hrr hgr hrb hcap1 hcap2 hKq HE hEb hpl
        obtain ⟨m0, m1, m2, m3⟩ := hW.c4
        go_wp2_with fail
        refine (fine_ok _ d wk hW.cv).mono ?_
        rintro e w2 ⟨rfl, hb⟩
        clear m0 m1 m2 m3
        replace hC := hC.call hb
        replace hW := hW.call hb
        replace hB := hB.trans ((hb).mono hB.size)
        clear hb
        by_cases h0r : checkCyl d = 0
        · have d2 : decide (checkCyl d = 0) = true := by simpa using h0r
          obtain ⟨n, hn⟩ : ∃ n, n = (joinsS c).length := ⟨_, rfl⟩
          obtain ⟨m, hm⟩ : ∃ m, m = (joinsS d).length := ⟨_, rfl⟩
          have hnm : n ≤ m := by rw [hn, hm]; exact count_wider hwid
          have HNN := Lib.hid hn
          have HN32 : Hid (n ≤ 4294967296) := by rw [Hid, hn]; exact joins_i64 (good_len h0).2
          have hcnt : countM c = ((n : Int), 0) := by rw [countM_good h0, hn]
          have hcnt2 : countM d = ((m : Int), 0) := by rw [countM_good h0r, hm]
          have hn0 : ¬ ((n : Int) < 0) := by omega
          have hmn : ¬ ((m : Int) < (n : Int)) := by omega
          clear hn hm hnm
          obtain ⟨k0, k1, k2, k3⟩ := hC.c4
          obtain ⟨m0, m1, m2, m3⟩ := hW.c4
          go_wp2_with fail
          refine (count_ok _ c w2 hC.cyl).mono ?_
          rintro e w3 hp
          clear k0 k1 k2 k3 m0 m1 m2 m3
          rw [hcnt] at hp
          obtain ⟨rfl, hb⟩ := hp
          replace hC := hC.call hb
          replace hW := hW.call hb
          replace hB := hB.trans ((hb).mono hB.size)
          clear hb hcnt
          obtain ⟨k0, k1, k2, k3⟩ := hC.c4
          obtain ⟨m0, m1, m2, m3⟩ := hW.c4
          go_wp2_with fail
          refine (count_ok _ d w3 hW.cv).mono ?_
          rintro e w4 hp
          clear k0 k1 k2 k3 m0 m1 m2 m3
          rw [hcnt2] at hp
          obtain ⟨rfl, hb⟩ := hp
          replace hC := hC.call hb
          replace hW := hW.call hb
          replace hB := hB.trans ((hb).mono hB.size)
          clear hb hcnt2
          by_cases hz : n = 0
          · have d4 : ((n : Int) == 0) = true := by simp; omega
            clear hz
            go_wp2_with fail
            refine (works_ok w4).mono ?_
            rintro e wy ⟨rfl, hb⟩
            replace hB := hB.trans (hb.mono hB.size)
            clear hb
            go_wp2
            go_ret
            exact ⟨rfl, hB⟩
          · have d4 : ((n : Int) == 0) = false := beq_false_of_ne (by omega)
            have HZ := Lib.hid hz
            clear hz
            obtain ⟨A2, hA⟩ : ∃ A2, A2 = num % n := ⟨_, rfl⟩
            have hA1 : A2 < n := by rw [hA]; exact Nat.mod_lt _ (by have := HZ.out; omega)
            obtain ⟨l, hl⟩ : ∃ l, (joinsS c)[A2]? = some l := ⟨_, List.getElem?_eq_getElem (by have := HNN.out; omega)⟩
            have c1 : IntKind.i64.wrap (num : Int) = num := wrap_id _ (by omega) (by have := HNUM.out; omega)
            have m1 : (num : Int).tmod (n : Int) = (A2 : Int) := by rw [hA]; rfl
            have c3 : IntKind.i64.wrap (A2 : Int) = A2 := wrap_id _ (by omega) (by have := HN32.out; omega)
            clear hA
            obtain ⟨k0, k1, k2, k3⟩ := hC.c4
            have f0 := Ext.of k0
            have f1 := Ext.of k1
            have f2 := Ext.of k2
            have f3 := Ext.of k3
            clear k0 k1 k2 k3
            go_upto_region 16 with (fail)
            refine wp_region_schedH (C := fun w' => ∃ x : Ext w4, w' = x.w) [(0, true), (1, true), (2, true), (3, true), (4, false), (5, false), (6, true), (7, true), (8, true), (9, true), (10, true)] (by kernel_rfl) (by kernel_rfl) ⟨⟨w4.drew, (Below.refl _ w4).drew⟩, rfl⟩ ?_
            refine schedH_q (by rfl) (by rfl) ?_
            intro K hK
            go_big_quiet_op
            go_big_quiet_on
            refine schedH_q (by rfl) (by rfl) ?_
            intro K hK
            go_big_quiet_op
            go_big_quiet_on
            refine schedH_q (by rfl) (by rfl) ?_
            intro K hK
            go_big_quiet_op
            go_big_quiet_on
            refine schedH_q (by rfl) (by rfl) ?_
            intro K hK
            go_big_quiet_op
            go_big_quiet_on
            refine schedH_c (by rfl) (by rfl) ?_
            intro K' hK'
            have hx : Below w4.heap.size w4 w4.drew := (Below.refl _ w4).drew
            go_wp2
            refine hK' _ _ ⟨⟨⟨w4.drew, hx⟩, rfl⟩, ?_⟩
            clear hK' K'
            refine schedH_c (by rfl) (by rfl) ?_
            intro K' hK'
            have hCx := hC.call hx
            go_wp2_with fail
            refine (nthP_ok _ c A2 w4.drew hCx.cyl).mono ?_
            rintro e w5 hp
            obtain ⟨lA, lc, rfl, hL, hb⟩ := hp.at_ (nthM_good h0 hl)
            replace hx := hx.trans (hb.mono hx.size)
            go_wp2
            refine hK' _ _ ⟨⟨⟨w5, hx⟩, rfl⟩, ?_⟩
            clear hK' K'
            clear hb hp hCx
            refine schedH_q (by rfl) (by rfl) ?_
            intro K hK
            go_big_quiet_op
            go_big_quiet_on
            refine schedH_q (by rfl) (by rfl) ?_
            intro K hK
            go_big_quiet_op
            go_big_quiet_on
            refine schedH_q (by rfl) (by rfl) ?_
            intro K hK
            go_big_quiet_op
            go_big_quiet_on
            refine schedH_q (by rfl) (by rfl) ?_
            intro K hK
            go_big_quiet_op
            go_big_quiet_on
            refine schedH_q (by rfl) (by rfl) ?_
            intro K hK
            go_big_quiet_op
            go_big_quiet_on
            refine schedH_nil ?_
            clear f0 f1 f2 f3 c1 m1 c3
            replace hC := hC.call hx
            replace hW := hW.call hx
            replace hB := hB.trans ((hx).mono hB.size)
            clear hx
            have hgl := mem_joinsS.1 (List.mem_of_getElem? hl)
            have hg1 := checkJoin_iff.2 ⟨h0, hgl⟩
            have hg2 := checkJoin_iff.2 ⟨h0r, good_wider hwid hgl⟩
            clear hl hgl
            have hcj := rcheckJoin_ok _ _ c l w5 hC.cyl hL
            rw [hg1] at hcj
            obtain ⟨k0, k1, k2, k3⟩ := hC.c4
            go_wp2_with fail
            refine hcj.mono ?_
            rintro e w6 ⟨rfl, hb⟩
            clear k0 k1 k2 k3 hcj
            replace hC := hC.call hb
            replace hW := hW.call hb
            replace hB := hB.trans ((hb).mono hB.size)
            replace hL := (hL.below hb).more hb.size
            clear hb
            have hcj := checkJoin_ok _ _ d l w6 hW.cv hL
            rw [hg2] at hcj
            obtain ⟨m0, m1, m2, m3⟩ := hW.c4
            go_wp2_with fail
            refine hcj.mono ?_
            rintro e w7 ⟨rfl, hb⟩
            clear m0 m1 m2 m3 hcj hL
            replace hC := hC.call hb
            replace hW := hW.call hb
            replace hB := hB.trans ((hb).mono hB.size)
            clear hb
            go_wp2_with fail
            refine (works_ok w7).mono ?_
            rintro e w8 ⟨rfl, hb⟩
            replace hB := hB.trans (hb.mono hB.size)
            clear hb
            go_wp2
            go_ret
            exact ⟨rfl, hB⟩
        · have d2 : decide (checkCyl d = 0) = false := by simpa using h0r
          go_wp2_with fail
          refine (works_ok w2).mono ?_
          rintro e wy ⟨rfl, hb⟩
          replace hB := hB.trans (hb.mono hB.size)
          clear hb
          go_wp2
          go_ret
          exact ⟨rfl, hB⟩
  · have d1 : decide (checkCyl c = 0) = false := by simpa using h0
    go_wp2_with fail
    refine (works_ok w1).mono ?_
    rintro e w2 ⟨rfl, hb⟩
    replace hB := hB.trans (hb.mono hB.size)
    clear hb
    go_wp2
    go_ret
    exact ⟨rfl, hB⟩
end Go.Proofs.Ytjjjockfppomdaa
