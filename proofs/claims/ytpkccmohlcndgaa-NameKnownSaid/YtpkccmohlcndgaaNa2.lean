/- Contracts of the laws NameCuts, NameKnown. -/
import Derived.Test.YtpkccmohlcndgaaLwFM
namespace Go.Proofs.Ytpkccmohlcndgaa
open Go.RowKit Go.Shelf
set_option linter.unusedVariables false

set_option maxRecDepth 100000 in
set_option maxHeartbeats 3200000 in
theorem ncuts_ok (v sv fv : Value) (l : NL) (S fl : List Int) (w : World) (hv : NLV w w.heap.size v l) (hs : Arr w w.heap.size 1 sv S icell) (hf : Arr w w.heap.size 1 fv fl icell) :
    Calls Try.prog 5 #[v, sv, fv] w fun r w' => r = .returned (.bool true) ∧ Below w.heap.size w w' := by
  obtain ⟨sa, sc, rfl, -⟩ := id hs
  obtain ⟨fa, fc, rfl, -⟩ := id hf
  obtain ⟨ka, kc, aa, ac, ba, bc, rfl, hna⟩ := hv
  have hE := NB.new hna
  have hB := (Below.refl w.heap.size w).alloc (Nat.le_refl _) (.cells #[.int .i64 l.n, .slice ka l.links.length kc, .slice aa l.left.length ac, .slice ba l.right.length bc] 25)
  go_enter Try.func5, Try.ntmps5
  go_upto_region 1 with (fail)
  generalize hW : w.alloc (.cells #[.int .i64 l.n, .slice ka l.links.length kc, .slice aa l.left.length ac, .slice ba l.right.length bc] 25) = W at *
  clear hW
  have HSS := Lib.hid (fun (W' : World) (hb : Below w.heap.size w W') => (hs.below hb).more hb.size)
  have HFF := Lib.hid (fun (W' : World) (hb : Below w.heap.size w W') => (hf.below hb).more hb.size)
  have hgr := lgreat_ok _ l W hE.v
  clear hs hf
  cases hg : greatN l
  · rw [hg] at hgr
    clear hg
    by_cases hl : 50 < S.length
    · have d1 : decide (50 < S.length) = true := decide_eq_true hl
      have d1' : decide ((50 : Int) < (S.length : Int)) = true := decide_eq_true (by omega)
      clear hl
      obtain ⟨k0, k1, k2, k3⟩ := hE.blk.c4
      go_wp2_with fail
      refine (hgr).mono ?_
      rintro e w1 hp
      clear k0 k1 k2 k3
      obtain ⟨rfl, hb⟩ := hp
      replace hE := hE.call hb
      replace hB := hB.trans ((hb).mono hB.size)
      clear hgr hb
      go_wp2_with fail
      refine (lworks_ok _).mono ?_
      rintro e wz ⟨rfl, hbz⟩
      have hBz := hB.trans (hbz.mono hB.size)
      go_wp2
      try rw [Exit.noGoto_ret]
      go_ret
      exact ⟨rfl, hBz⟩
    · have d1 : decide (50 < S.length) = false := decide_eq_false hl
      have d1' : decide ((50 : Int) < (S.length : Int)) = false := decide_eq_false (by omega)
      clear hl
      by_cases hl : 140 < fl.length
      · have d2 : decide (140 < fl.length) = true := decide_eq_true hl
        have d2' : decide ((140 : Int) < (fl.length : Int)) = true := decide_eq_true (by omega)
        clear hl
        obtain ⟨k0, k1, k2, k3⟩ := hE.blk.c4
        go_wp2_with fail
        refine (hgr).mono ?_
        rintro e w1 hp
        clear k0 k1 k2 k3
        obtain ⟨rfl, hb⟩ := hp
        replace hE := hE.call hb
        replace hB := hB.trans ((hb).mono hB.size)
        clear hgr hb
        go_wp2_with fail
        refine (lworks_ok _).mono ?_
        rintro e wz ⟨rfl, hbz⟩
        have hBz := hB.trans (hbz.mono hB.size)
        go_wp2
        try rw [Exit.noGoto_ret]
        go_ret
        exact ⟨rfl, hBz⟩
      · have d2 : decide (140 < fl.length) = false := decide_eq_false hl
        have d2' : decide ((140 : Int) < (fl.length : Int)) = false := decide_eq_false (by omega)
        have hl140 : fl.length ≤ 140 := by omega
        clear hl
        obtain ⟨k0, k1, k2, k3⟩ := hE.blk.c4
        go_wp2_with fail
        refine (hgr).mono ?_
        rintro e w1 hp
        clear k0 k1 k2 k3
        obtain ⟨rfl, hb⟩ := hp
        replace hE := hE.call hb
        replace hB := hB.trans ((hb).mono hB.size)
        clear hgr hb
        go_wp2
        go_loopw [7] (fun i wr => ∃ k : Nat, k ≤ fl.length ∧ i = .int .i64 k ∧ wr = w1) (fun i _ => fl.length - (intOf i).toNat)
        case atStart => exact ⟨0, Nat.zero_le _, rfl, rfl⟩
        case round =>
          obtain ⟨k, hk, rfl, hw⟩ := hrel
          subst hw
          by_cases hlt : k < fl.length
          · have d3 : decide (k < fl.length) = true := decide_eq_true hlt
            have d3' : decide ((k : Int) < (fl.length : Int)) = true := decide_eq_true (by omega)
            have hki : (k : Int) < (fl.length : Int) := by omega
            obtain ⟨b, off, x, rfl, hbl, hx, c0⟩ := numx_at (HFF.out wr hB) hlt
            clear hx
            by_cases q1 : x < -1099511627776
            · have e1 : decide (x < -1099511627776) = true := decide_eq_true q1
              clear q1
              go_wp2_with fail
              refine (lworks_ok _).mono ?_
              rintro e wz ⟨rfl, hbz⟩
              have hBz := hB.trans (hbz.mono hB.size)
              go_wp2
              try rw [Exit.noGoto_ret]
              go_ret
              exact ⟨rfl, hBz⟩
            · have e1 : decide (x < -1099511627776) = false := decide_eq_false q1
              by_cases q2 : 1099511627776 < x
              · have e2 : decide (1099511627776 < x) = true := decide_eq_true q2
                clear q1 q2
                go_wp2_with fail
                refine (lworks_ok _).mono ?_
                rintro e wz ⟨rfl, hbz⟩
                have hBz := hB.trans (hbz.mono hB.size)
                go_wp2
                try rw [Exit.noGoto_ret]
                go_ret
                exact ⟨rfl, hBz⟩
              · have e2 : decide (1099511627776 < x) = false := decide_eq_false q2
                clear q1 q2
                go_wp2
                go_roundw
                case rel => exact ⟨k + 1, by omega, by go_num, by first | trivial | rfl⟩
                case measure => (simp [intOf]; try omega)
          · obtain rfl : k = fl.length := by omega
            have d3 : decide (fl.length < fl.length) = false := by simp
            obtain ⟨k0, k1, k2, k3⟩ := hE.blk.c4
            go_wp2_with fail
            refine (cut_ok _ _ l S wr hE.v (HSS.out wr hB)).mono ?_
            rintro e w2 hp
            clear k0 k1 k2 k3
            obtain ⟨av, rfl, hA, hb⟩ := hp
            obtain ⟨aA, ac2, rfl, -⟩ := id hA
            replace hE := hE.call hb
            replace hB := hB.trans ((hb).mono hB.size)
            clear hb
            obtain ⟨k0, k1, k2, k3⟩ := hE.blk.c4
            go_wp2_with fail
            refine (rCut_ok _ _ l S w2 hE.v (HSS.out w2 hB)).mono ?_
            rintro e w3 hp
            clear k0 k1 k2 k3
            obtain ⟨bv, rfl, hB1, hb⟩ := hp
            obtain ⟨bA, bc2, rfl, -⟩ := id hB1
            replace hE := hE.call hb
            replace hB := hB.trans ((hb).mono hB.size)
            replace hA := hA.call hb
            clear hb
            obtain ⟨k0, k1, k2, k3⟩ := hE.blk.c4
            go_wp2_with fail
            refine (checkFlow_ok _ _ l fl w3 hE.v (HFF.out w3 hB)).mono ?_
            rintro e w4 hp
            clear k0 k1 k2 k3
            obtain ⟨rfl, hb⟩ := hp
            replace hE := hE.call hb
            replace hB := hB.trans ((hb).mono hB.size)
            replace hA := hA.call hb
            replace hB1 := hB1.call hb
            clear hb
            obtain ⟨k0, k1, k2, k3⟩ := hE.blk.c4
            go_wp2_with fail
            refine (rcheckFlow_ok _ _ l fl w4 hE.v (HFF.out w4 hB)).mono ?_
            rintro e w5 hp
            clear k0 k1 k2 k3
            obtain ⟨rfl, hb⟩ := hp
            replace hE := hE.call hb
            replace hB := hB.trans ((hb).mono hB.size)
            replace hA := hA.call hb
            replace hB1 := hB1.call hb
            clear hb
            generalize (chkF l fl).1 = c1 at *
            generalize (chkF l fl).2 = c2 at *
            generalize cutsC l S = c3 at *
            generalize cutE l S = c4 at *
            have e1 : (c1 != c1) = false := by simp
            have e2 : (c2 != c2) = false := by simp
            have e3 : (c3 != c3) = false := by simp
            have e4 : (c4 != c4) = false := by simp
            go_wp2_with fail
            refine (intsT _ _ _ _ hA hB1).mono ?_
            rintro e w6 ⟨rfl, hb⟩
            replace hE := hE.call hb
            replace hB := hB.trans ((hb).mono hB.size)
            clear hb hA hB1
            obtain ⟨k0, k1, k2, k3⟩ := hE.blk.c4
            go_wp2_with fail
            refine (flow_ok _ l w6 hE.v).mono ?_
            rintro e w7 hp
            clear k0 k1 k2 k3
            obtain ⟨xv, xl, rfl, hfo, hX, hb⟩ := hp
            obtain ⟨xA, xc, rfl, -⟩ := id hX
            replace hE := hE.call hb
            replace hB := hB.trans ((hb).mono hB.size)
            clear hb e1 e2 e3 e4
            by_cases h0 : checkL l = 0
            · have d0 : (checkL l != 0) = false := by simp [h0]
              have e5 : (checkL l == 0) = true := by simp [h0]
              have hg := check_good.1 h0
              obtain ⟨h1, h2⟩ := hfo.2 h0
              have hcx := chkF_ok h0 h1 h2.right
              generalize greatF l.N l.L (flF xl) l.A = gg at hcx
              have HCX := Lib.hid hcx
              clear h0 h1 h2 hfo hcx hg
              obtain ⟨k0, k1, k2, k3⟩ := hE.blk.c4
              go_wp2_with fail
              refine (rcheckList_ok _ l w7 hE.v).mono ?_
              rintro e w8 hp
              clear k0 k1 k2 k3
              obtain ⟨rfl, hb⟩ := hp
              replace hE := hE.call hb
              replace hB := hB.trans ((hb).mono hB.size)
              replace hX := hX.call hb
              clear hb
              have hcf := rcheckFlow_ok _ _ l xl w8 hE.v hX
              rw [HCX.out] at hcf
              obtain ⟨k0, k1, k2, k3⟩ := hE.blk.c4
              go_wp2_with fail
              refine (hcf).mono ?_
              rintro e w9 hp
              clear k0 k1 k2 k3
              obtain ⟨rfl, hb⟩ := hp
              replace hE := hE.call hb
              replace hB := hB.trans ((hb).mono hB.size)
              clear hb hcf hX
              go_wp2_with fail
              refine (lworks_ok _).mono ?_
              rintro e wz ⟨rfl, hbz⟩
              have hBz := hB.trans (hbz.mono hB.size)
              go_wp2
              try rw [Exit.noGoto_ret]
              go_ret
              exact ⟨rfl, hBz⟩
            · have d0 : (checkL l != 0) = true := by simpa using h0
              have e5 : (checkL l == checkL l) = true := by simp
              have hxl : xl.length = 0 := by rw [hfo.1 h0]; rfl
              rw [hxl] at hX ⊢
              clear h0 hfo hxl
              obtain ⟨k0, k1, k2, k3⟩ := hE.blk.c4
              go_wp2_with fail
              refine (rcheckList_ok _ l w7 hE.v).mono ?_
              rintro e w8 hp
              clear k0 k1 k2 k3
              obtain ⟨rfl, hb⟩ := hp
              replace hE := hE.call hb
              replace hB := hB.trans ((hb).mono hB.size)
              clear hb
              obtain ⟨k0, k1, k2, k3⟩ := hE.blk.c4
              go_wp2_with fail
              refine (rcheckList_ok _ l w8 hE.v).mono ?_
              rintro e w9 hp
              clear k0 k1 k2 k3
              obtain ⟨rfl, hb⟩ := hp
              replace hE := hE.call hb
              replace hB := hB.trans ((hb).mono hB.size)
              clear hb
              go_wp2_with fail
              refine (lworks_ok _).mono ?_
              rintro e wz ⟨rfl, hbz⟩
              have hBz := hB.trans (hbz.mono hB.size)
              go_wp2
              try rw [Exit.noGoto_ret]
              go_ret
              exact ⟨rfl, hBz⟩
  · rw [hg] at hgr
    clear hg
    obtain ⟨k0, k1, k2, k3⟩ := hE.blk.c4
    go_wp2_with fail
    refine (hgr).mono ?_
    rintro e w1 hp
    clear k0 k1 k2 k3
    obtain ⟨rfl, hb⟩ := hp
    replace hE := hE.call hb
    replace hB := hB.trans ((hb).mono hB.size)
    clear hgr hb
    go_wp2_with fail
    refine (lworks_ok _).mono ?_
    rintro e wz ⟨rfl, hbz⟩
    have hBz := hB.trans (hbz.mono hB.size)
    go_wp2
    try rw [Exit.noGoto_ret]
    go_ret
    exact ⟨rfl, hBz⟩

theorem lit5 (w : World) (a b c d e : Int) : LLi ((((((w.alloc (.cells #[.int .i64 a] 3)).alloc (.cells #[.int .i64 b] 3)).alloc (.cells #[.int .i64 c] 3)).alloc (.cells #[.int .i64 d] 3)).alloc (.cells #[.int .i64 e] 3)).alloc (.cells #[.slice (some ⟨w.heap.size, 0, none⟩) 1 1, .slice (some ⟨w.heap.size + 1, 0, none⟩) 1 1, .slice (some ⟨w.heap.size + 1 + 1, 0, none⟩) 1 1, .slice (some ⟨w.heap.size + 1 + 1 + 1, 0, none⟩) 1 1, .slice (some ⟨w.heap.size + 1 + 1 + 1 + 1, 0, none⟩) 1 1] 23)) (.slice (some ⟨w.heap.size + 5, 0, none⟩) 5 5) [[a], [b], [c], [d], [e]] ∧
    Below w.heap.size w ((((((w.alloc (.cells #[.int .i64 a] 3)).alloc (.cells #[.int .i64 b] 3)).alloc (.cells #[.int .i64 c] 3)).alloc (.cells #[.int .i64 d] 3)).alloc (.cells #[.int .i64 e] 3)).alloc (.cells #[.slice (some ⟨w.heap.size, 0, none⟩) 1 1, .slice (some ⟨w.heap.size + 1, 0, none⟩) 1 1, .slice (some ⟨w.heap.size + 1 + 1, 0, none⟩) 1 1, .slice (some ⟨w.heap.size + 1 + 1 + 1, 0, none⟩) 1 1, .slice (some ⟨w.heap.size + 1 + 1 + 1 + 1, 0, none⟩) 1 1] 23)) := by
  have h := lit_ok w [[a], [b], [c], [d], [e]] 23 (by simp) (by simp)
  exact ⟨h.1, h.2.1⟩
set_option maxRecDepth 100000 in
set_option maxHeartbeats 3200000 in
theorem nknown_ok (w : World) : Calls Try.prog 12 #[] w fun r w' => r = .returned (.bool true) ∧ Below w.heap.size w w' := by
  go_enter Try.func12, Try.ntmps12
  go_wp2_with fail
  refine (llist_ok w).mono ?_
  rintro e w1 ⟨ka, kc, aa, ac, ba, bc, rfl, hna, hB⟩
  go_upto_region 2 with (fail)
  have hE := NB.new hna
  have hb := (Below.refl w1.heap.size w1).alloc (Nat.le_refl _) (.cells #[.int .i64 exN.n, .slice ka exN.links.length kc, .slice aa exN.left.length ac, .slice ba exN.right.length bc] 25)
  replace hB := hB.trans (hb.mono hB.size)
  clear hna hb
  generalize w1.alloc (.cells #[.int .i64 exN.n, .slice ka exN.links.length kc, .slice aa exN.left.length ac, .slice ba exN.right.length bc] 25) = w2 at *
  generalize w1.heap.size = g0 at *
  obtain ⟨hq, hb⟩ := ints6 w2 0 1 2 3 4 5
  obtain ⟨k0, k1, k2, k3⟩ := hE.blk.c4
  go_wp2_with fail
  refine (groups_ok _ _ exN [0, 1, 2, 3, 4, 5] _ (hE.call hb).v hq).mono ?_
  rintro e w3 hp
  clear k0 k1 k2 k3
  rw [ex12.1, ex12.2] at hp
  obtain ⟨gv, rfl, hG, hb2⟩ := hp
  obtain ⟨gA, gc, rfl, -, -⟩ := hG.form
  replace hb := hb.trans (hb2.mono hb.size)
  replace hE := hE.call hb
  replace hB := hB.trans ((hb).mono hB.size)
  clear hb hb2 hq
  obtain ⟨hq, hb⟩ := ints1 w3 0
  obtain ⟨hr, hb2⟩ := ints3 (w3.alloc (.cells #[.int .i64 0] 3)) 0 1 4
  rw [show (w3.alloc (.cells #[.int .i64 0] 3)).heap.size = w3.heap.size + 1 by simp] at hr
  replace hq := hq.call hb2
  replace hb := hb.trans (hb2.mono hb.size)
  clear hb2
  obtain ⟨k0, k1, k2, k3⟩ := hE.blk.c4
  go_wp2_with fail
  refine (checkChain_ok _ _ _ exN [0] [0, 1, 4] _ (hE.call hb).v hq hr).mono ?_
  rintro e w4 hp
  clear k0 k1 k2 k3
  rw [ex13] at hp
  obtain ⟨rfl, hb2⟩ := hp
  replace hb := hb.trans (hb2.mono hb.size)
  replace hE := hE.call hb
  replace hB := hB.trans ((hb).mono hB.size)
  replace hG := hG.call hb
  clear hb hb2 hq hr
  obtain ⟨hq, hb⟩ := ints1 w4 0
  obtain ⟨k0, k1, k2, k3⟩ := hE.blk.c4
  go_wp2_with fail
  refine (cut_ok _ _ exN [0] _ (hE.call hb).v hq).mono ?_
  rintro e w5 hp
  clear k0 k1 k2 k3
  rw [ex14.1, ex14.2.1, ex14.2.2] at hp
  obtain ⟨cv, rfl, hC, hb2⟩ := hp
  obtain ⟨cA, cc, rfl, -⟩ := id hC
  replace hb := hb.trans (hb2.mono hb.size)
  replace hE := hE.call hb
  replace hB := hB.trans ((hb).mono hB.size)
  replace hG := hG.call hb
  clear hb hb2 hq
  obtain ⟨hq, hb⟩ := ints3 w5 0 1 2
  obtain ⟨k0, k1, k2, k3⟩ := hE.blk.c4
  go_wp2_with fail
  refine (cut_ok _ _ exN [0, 1, 2] _ (hE.call hb).v hq).mono ?_
  rintro e w6 hp
  clear k0 k1 k2 k3
  rw [ex15.1, ex15.2.1, ex15.2.2] at hp
  obtain ⟨dv, rfl, hD, hb2⟩ := hp
  obtain ⟨dA, dc, rfl, -⟩ := id hD
  replace hb := hb.trans (hb2.mono hb.size)
  replace hE := hE.call hb
  replace hB := hB.trans ((hb).mono hB.size)
  replace hG := hG.call hb
  replace hC := hC.call hb
  clear hb hb2 hq
  obtain ⟨hq, hb⟩ := flows6 w6 3 3 2 2 0 0
  obtain ⟨k0, k1, k2, k3⟩ := hE.blk.c4
  go_wp2_with fail
  refine (checkFlow_ok _ _ exN [3, 3, 2, 2, 0, 0] _ (hE.call hb).v hq).mono ?_
  rintro e w7 hp
  clear k0 k1 k2 k3
  rw [ex16] at hp
  obtain ⟨rfl, hb2⟩ := hp
  replace hb := hb.trans (hb2.mono hb.size)
  replace hE := hE.call hb
  replace hB := hB.trans ((hb).mono hB.size)
  replace hG := hG.call hb
  replace hC := hC.call hb
  replace hD := hD.call hb
  clear hb hb2 hq
  obtain ⟨hq, hb⟩ := lit5 w7 0 1 2 3 4
  go_wp2_with fail
  refine (listsT _ _ _ _ (hG.call hb) hq).mono ?_
  rintro e w8 ⟨rfl, hb2⟩
  replace hb := hb.trans (hb2.mono hb.size)
  replace hE := hE.call hb
  replace hB := hB.trans ((hb).mono hB.size)
  replace hC := hC.call hb
  replace hD := hD.call hb
  clear hb hb2 hq hG
  obtain ⟨hq, hb⟩ := ints2 w8 0 2
  go_wp2_with fail
  refine (intsT _ _ _ _ (hC.call hb) hq).mono ?_
  rintro e w9 ⟨rfl, hb2⟩
  replace hb := hb.trans (hb2.mono hb.size)
  replace hE := hE.call hb
  replace hB := hB.trans ((hb).mono hB.size)
  replace hD := hD.call hb
  clear hb hb2 hq hC
  obtain ⟨hq, hb⟩ := ints2 w9 1 3
  go_wp2_with fail
  refine (intsT _ _ _ _ (hD.call hb) hq).mono ?_
  rintro e w10 ⟨rfl, hb2⟩
  replace hb := hb.trans (hb2.mono hb.size)
  replace hE := hE.call hb
  replace hB := hB.trans ((hb).mono hB.size)
  clear hb hb2 hq hD
  go_wp2_with fail
  refine (lworks_ok _).mono ?_
  rintro e wz ⟨rfl, hbz⟩
  have hBz := hB.trans (hbz.mono hB.size)
  go_wp2
  try rw [Exit.noGoto_ret]
  go_ret
  exact ⟨rfl, hBz⟩
end Go.Proofs.Ytpkccmohlcndgaa
