/- Contract of the law NameProved. -/
import Derived.Test.YtpkccmohlcndgaaNaQM
namespace Go.Proofs.Ytpkccmohlcndgaa
open Go.RowKit Go.Shelf
set_option linter.unusedVariables false

set_option maxRecDepth 100000 in
set_option maxHeartbeats 3200000 in
theorem nproved_ok (v fv : Value) (l : NL) (b : Nat) (fl : List Int) (w : World) (hbb : b < 18446744073709551616) (hv : NLV w w.heap.size v l) (hf : Arr w w.heap.size 1 fv fl icell) :
    Calls Try.prog 7 #[v, .int .u64 (b : Int), fv] w fun r w' => r = .returned (.bool true) ∧ Below w.heap.size w w' := by
  obtain ⟨fa, fc, rfl, -⟩ := id hf
  obtain ⟨ka, kc, aa, ac, ba, bc, rfl, hna⟩ := hv
  have hE := NB.new hna
  have hB := (Below.refl w.heap.size w).alloc (Nat.le_refl _) (.cells #[.int .i64 l.n, .slice ka l.links.length kc, .slice aa l.left.length ac, .slice ba l.right.length bc] 25)
  go_enter Try.func7, Try.ntmps7
  go_upto_region 1 with (fail)
  generalize hW : w.alloc (.cells #[.int .i64 l.n, .slice ka l.links.length kc, .slice aa l.left.length ac, .slice ba l.right.length bc] 25) = W at *
  clear hW
  have HFF := Lib.hid (fun (W' : World) (hb : Below w.heap.size w W') => (hf.below hb).more hb.size)
  have hfi := lfine_ok _ l W hE.v
  clear hf
  cases hg : fineN l
  · rw [hg] at hfi
    clear hg
    obtain ⟨k0, k1, k2, k3⟩ := hE.blk.c4
    go_wp2_with fail
    refine (hfi).mono ?_
    rintro e w1 hp
    clear k0 k1 k2 k3
    obtain ⟨rfl, hb⟩ := hp
    replace hE := hE.call hb
    replace hB := hB.trans ((hb).mono hB.size)
    clear hfi hb
    go_wp2_with fail
    refine (lworks_ok _).mono ?_
    rintro e wz ⟨rfl, hbz⟩
    have hBz := hB.trans (hbz.mono hB.size)
    go_wp2
    try rw [Exit.noGoto_ret]
    go_ret
    exact ⟨rfl, hBz⟩
  · rw [hg] at hfi
    have hc0 := fineN_iff.1 hg
    have hgd := check_good.1 hc0
    clear hg
    by_cases hl : 140 < fl.length
    · have d2 : decide (140 < fl.length) = true := decide_eq_true hl
      have d2' : decide ((140 : Int) < (fl.length : Int)) = true := decide_eq_true (by omega)
      clear hl hc0
      obtain ⟨k0, k1, k2, k3⟩ := hE.blk.c4
      go_wp2_with fail
      refine (hfi).mono ?_
      rintro e w1 hp
      clear k0 k1 k2 k3
      obtain ⟨rfl, hb⟩ := hp
      replace hE := hE.call hb
      replace hB := hB.trans ((hb).mono hB.size)
      clear hfi hb
      go_wp2_with fail
      refine (lworks_ok _).mono ?_
      rintro e wz ⟨rfl, hbz⟩
      have hBz := hB.trans (hbz.mono hB.size)
      go_wp2
      try rw [Exit.noGoto_ret]
      go_ret
      exact ⟨rfl, hBz⟩
    · have d2 : decide (140 < fl.length) = false := decide_eq_false hl
      have d2' : decide ((140 : Int) < (fl.length : Int)) = false := decide_eq_false (by omega)
      have HC0 := Lib.hid hc0
      have hl140 : fl.length ≤ 140 := by omega
      clear hl hc0
      obtain ⟨k0, k1, k2, k3⟩ := hE.blk.c4
      go_wp2_with fail
      refine (hfi).mono ?_
      rintro e w1 hp
      clear k0 k1 k2 k3
      obtain ⟨rfl, hb⟩ := hp
      replace hE := hE.call hb
      replace hB := hB.trans ((hb).mono hB.size)
      clear hfi hb
      go_wp2
      go_loopw [7] (fun i wr => ∃ k : Nat, k ≤ fl.length ∧ i = .int .i64 k ∧ wr = w1) (fun i _ => fl.length - (intOf i).toNat)
      case atStart => exact ⟨0, Nat.zero_le _, rfl, rfl⟩
      case round =>
        obtain ⟨k, hk, rfl, hw⟩ := hrel
        subst hw
        by_cases hlt : k < fl.length
        · have d3 : decide (k < fl.length) = true := decide_eq_true hlt
          have d3' : decide ((k : Int) < (fl.length : Int)) = true := decide_eq_true (by omega)
          have hki : (k : Int) < (fl.length : Int) := by omega
          obtain ⟨b2, off, x, rfl, hbl, hx, c0⟩ := numx_at (HFF.out wr hB) hlt
          clear hx
          by_cases q1 : x < -1099511627776
          · have e1 : decide (x < -1099511627776) = true := decide_eq_true q1
            clear q1
            go_wp2_with fail
            refine (lworks_ok _).mono ?_
            rintro e wz ⟨rfl, hbz⟩
            have hBz := hB.trans (hbz.mono hB.size)
            go_wp2
            try rw [Exit.noGoto_ret]
            go_ret
            exact ⟨rfl, hBz⟩
          · have e1 : decide (x < -1099511627776) = false := decide_eq_false q1
            by_cases q2 : 1099511627776 < x
            · have e2 : decide (1099511627776 < x) = true := decide_eq_true q2
              clear q1 q2
              go_wp2_with fail
              refine (lworks_ok _).mono ?_
              rintro e wz ⟨rfl, hbz⟩
              have hBz := hB.trans (hbz.mono hB.size)
              go_wp2
              try rw [Exit.noGoto_ret]
              go_ret
              exact ⟨rfl, hBz⟩
            · have e2 : decide (1099511627776 < x) = false := decide_eq_false q2
              clear q1 q2
              go_wp2
              go_roundw
              case rel => exact ⟨k + 1, by omega, by go_num, by first | trivial | rfl⟩
              case measure => (simp [intOf]; try omega)
        · obtain rfl : k = fl.length := by omega
          have d3 : decide (fl.length < fl.length) = false := by simp
          have HLN := Lib.hid (lstL_names hgd)
          have HLC := Lib.hid (lstC_eq hgd)
          have hlc := least_ok _ l wr hE.v
          rw [HLN.out, HLC.out, HC0.out] at hlc
          obtain ⟨hk0, hk1, hk2⟩ := cut_names hgd (least_side hgd).1
          rw [← cost_least] at hk1
          have HK := Lib.hid (And.intro hk0 (And.intro hk1 hk2))
          obtain ⟨hs0, hs1, hs2⟩ := cut_names hgd (on_side hgd b)
          have hcs := cost_le hgd (on_side hgd b)
          have HS := Lib.hid (And.intro hs0 hs1)
          have HRI := Lib.hid (cut_rises l (leastB l))
          have HFW := Lib.hid (fun fl (h : FlowOf l fl) => flow_worth hgd h)
          have HFL := Lib.hid (fun (h : (chkF l fl).2 = 0) => flow_less hgd h)
          have HSU := Lib.hid (sideU_names l b)
          have HGD := Lib.hid hgd
          clear hk0 hk1 hk2 hs0 hs1 hs2
          generalize cutC l.L (onSide l b) = cx at *
          generalize namesOf l (leastB l) = ln at *
          obtain ⟨sn, hsn⟩ : ∃ sn, sn = namesOf l (onSide l b) := ⟨_, rfl⟩
          rw [← hsn] at HS HSU
          generalize costL l = cl at *
          generalize cutL l (leastB l) = cu at *
          clear hsn hgd
          obtain ⟨k0, k1, k2, k3⟩ := hE.blk.c4
          go_wp2_with fail
          refine (hlc).mono ?_
          rintro e w2 hp
          clear k0 k1 k2 k3
          obtain ⟨sv, rfl, hS, hb⟩ := hp
          obtain ⟨sA, sc, rfl, -⟩ := id hS
          replace hE := hE.call hb
          replace hB := hB.trans ((hb).mono hB.size)
          clear hb hlc
          have hfl := flow_ok _ l w2 hE.v
          rw [HC0.out] at hfl
          obtain ⟨k0, k1, k2, k3⟩ := hE.blk.c4
          go_wp2_with fail
          refine (hfl).mono ?_
          rintro e w3 hp
          clear k0 k1 k2 k3
          obtain ⟨xv, xl, rfl, hfo, hX, hb⟩ := hp
          obtain ⟨xA, xc, rfl, -⟩ := id hX
          replace hE := hE.call hb
          replace hB := hB.trans ((hb).mono hB.size)
          replace hS := hS.call hb
          have hcf := HFW.out xl hfo
          clear hb hfl hfo
          have h1 := checkFlow_ok _ _ l xl w3 hE.v hX
          rw [hcf] at h1
          obtain ⟨k0, k1, k2, k3⟩ := hE.blk.c4
          go_wp2_with fail
          refine (h1).mono ?_
          rintro e w4 hp
          clear k0 k1 k2 k3
          obtain ⟨rfl, hb⟩ := hp
          replace hE := hE.call hb
          replace hB := hB.trans ((hb).mono hB.size)
          replace hS := hS.call hb
          replace hX := hX.call hb
          clear hb h1
          have h1 := rcheckFlow_ok _ _ l xl w4 hE.v hX
          rw [hcf] at h1
          obtain ⟨k0, k1, k2, k3⟩ := hE.blk.c4
          go_wp2_with fail
          refine (h1).mono ?_
          rintro e w5 hp
          clear k0 k1 k2 k3
          obtain ⟨rfl, hb⟩ := hp
          replace hE := hE.call hb
          replace hB := hB.trans ((hb).mono hB.size)
          replace hS := hS.call hb
          clear hb h1 hX hcf
          have h1 := cut_ok _ _ l (intL ln) w5 hE.v hS
          rw [HK.out.1, HK.out.2.1, HK.out.2.2] at h1
          obtain ⟨k0, k1, k2, k3⟩ := hE.blk.c4
          go_wp2_with fail
          refine (h1).mono ?_
          rintro e w6 hp
          clear k0 k1 k2 k3
          obtain ⟨cv, rfl, hC1, hb⟩ := hp
          obtain ⟨cA, cc, rfl, -⟩ := id hC1
          replace hE := hE.call hb
          replace hB := hB.trans ((hb).mono hB.size)
          replace hS := hS.call hb
          clear hb h1
          have h1 := rCut_ok _ _ l (intL ln) w6 hE.v hS
          rw [HK.out.1, HK.out.2.1] at h1
          obtain ⟨k0, k1, k2, k3⟩ := hE.blk.c4
          go_wp2_with fail
          refine (h1).mono ?_
          rintro e w7 hp
          clear k0 k1 k2 k3
          obtain ⟨dv, rfl, -, hb⟩ := hp
          replace hE := hE.call hb
          replace hB := hB.trans ((hb).mono hB.size)
          replace hC1 := hC1.call hb
          clear hb h1 hS
          have h1 := rrising_ok _ (intL cu) (l.links.length : Int) w7 hC1
          rw [HRI.out] at h1
          have e1 : (cl != cl) = false := by simp
          obtain ⟨k0, k1, k2, k3⟩ := hE.blk.c4
          go_wp2_with fail
          refine h1.mono ?_
          rintro e w8 ⟨rfl, hb⟩
          replace hE := hE.call hb
          replace hB := hB.trans ((hb).mono hB.size)
          clear h1 hb hC1 k0 k1 k2 k3
          obtain ⟨k0, k1, k2, k3⟩ := hE.blk.c4
          have f0 := Ext.of k0
          have f1 := Ext.of k1
          have f2 := Ext.of k2
          have f3 := Ext.of k3
          go_upto_region 16 with (fail)
          refine wp_region_schedH (C := fun w' => ∃ x : Ext w8, w' = x.w) [(0, true), (1, true), (2, true), (3, false), (4, false), (5, true), (6, true), (7, true), (8, true), (9, true), (10, true), (11, true)] (by kernel_rfl) (by kernel_rfl) ⟨⟨w8.drew, (Below.refl _ w8).drew⟩, rfl⟩ ?_
          have hE8 := hE.call (Below.refl _ w8).drew
          refine schedH_q (by rfl) (by rfl) ?_
          intro K hK
          go_big_quiet_op
          go_big_quiet_on
          refine schedH_q (by rfl) (by rfl) ?_
          intro K hK
          go_big_quiet_op
          go_big_quiet_on
          refine schedH_q (by rfl) (by rfl) ?_
          intro K hK
          go_big_quiet_op
          go_big_quiet_on
          refine schedH_c (by rfl) (by rfl) ?_
          intro K' hK'
          go_wp2_with fail
          refine (lside_ok _ l b w8.drew HGD.out hbb hE8.v).mono ?_
          rintro e w9 ⟨sv, rfl, hS, hb⟩
          rw [HSU.out] at hS
          have hx9 : Below w8.heap.size w8 w9 := (Below.refl _ w8).drew.trans hb
          have hE9 := hE8.call hb
          go_wp2
          refine hK' _ _ ⟨⟨⟨w9, hx9⟩, rfl⟩, ?_⟩
          clear hK' K'
          refine schedH_c (by rfl) (by rfl) ?_
          intro K' hK'
          have h1 := cut_ok _ _ l (intL sn) w9 hE9.v hS
          rw [HS.out.1, HS.out.2] at h1
          obtain ⟨sA, sc, rfl, -⟩ := id hS
          go_wp2_with fail
          refine h1.mono ?_
          rintro e w10 ⟨cv, rfl, -, hb2⟩
          have hx10 : Below w8.heap.size w8 w10 := hx9.trans (hb2.mono hx9.size)
          go_wp2
          refine hK' _ _ ⟨⟨⟨w10, hx10⟩, rfl⟩, ?_⟩
          clear hK' K'
          refine schedH_q (by rfl) (by rfl) ?_
          intro K hK
          go_big_quiet_op
          go_big_quiet_on
          refine schedH_q (by rfl) (by rfl) ?_
          intro K hK
          go_big_quiet_op
          go_big_quiet_on
          refine schedH_q (by rfl) (by rfl) ?_
          intro K hK
          go_big_quiet_op
          go_big_quiet_on
          refine schedH_q (by rfl) (by rfl) ?_
          intro K hK
          go_big_quiet_op
          go_big_quiet_on
          refine schedH_q (by rfl) (by rfl) ?_
          intro K hK
          go_big_quiet_op
          go_big_quiet_on
          refine schedH_q (by rfl) (by rfl) ?_
          intro K hK
          go_big_quiet_op
          go_big_quiet_on
          refine schedH_q (by rfl) (by rfl) ?_
          intro K hK
          go_big_quiet_op
          go_big_quiet_on
          refine schedH_nil ?_
          replace hE := hE.call hx10
          replace hB := hB.trans (hx10.mono hB.size)
          clear hE8 hE9 hb hb2 hx9 hx10 hS f0 f1 f2 f3 k0 k1 k2 k3
          have h1 := checkFlow_ok _ _ l fl w10 hE.v (HFF.out w10 hB)
          have h2 := HFL.out
          generalize (chkF l fl).1 = y1 at *
          generalize (chkF l fl).2 = y2 at *
          have e2 : decide (cl ≤ cx) = true := decide_eq_true hcs
          clear hcs
          by_cases hy : y2 = 0
          · have e3 : (y2 != 0) = false := by simp [hy]
            have e4 : decide (y1 ≤ cl) = true := decide_eq_true (h2 hy)
            clear h2 hy
            obtain ⟨k0, k1, k2, k3⟩ := hE.blk.c4
            go_wp2_with fail
            refine (h1).mono ?_
            rintro e w11 hp
            clear k0 k1 k2 k3
            obtain ⟨rfl, hb⟩ := hp
            replace hE := hE.call hb
            replace hB := hB.trans ((hb).mono hB.size)
            clear hb h1
            go_wp2_with fail
            refine (lworks_ok _).mono ?_
            rintro e wz ⟨rfl, hbz⟩
            have hBz := hB.trans (hbz.mono hB.size)
            go_wp2
            try rw [Exit.noGoto_ret]
            go_ret
            exact ⟨rfl, hBz⟩
          · have e3 : (y2 != 0) = true := by simpa using hy
            clear h2 hy
            obtain ⟨k0, k1, k2, k3⟩ := hE.blk.c4
            go_wp2_with fail
            refine (h1).mono ?_
            rintro e w11 hp
            clear k0 k1 k2 k3
            obtain ⟨rfl, hb⟩ := hp
            replace hE := hE.call hb
            replace hB := hB.trans ((hb).mono hB.size)
            clear hb h1
            go_wp2_with fail
            refine (lworks_ok _).mono ?_
            rintro e wz ⟨rfl, hbz⟩
            have hBz := hB.trans (hbz.mono hB.size)
            go_wp2
            try rw [Exit.noGoto_ret]
            go_ret
            exact ⟨rfl, hBz⟩
end Go.Proofs.Ytpkccmohlcndgaa
