/- Contracts of the laws NameLists, NameChains, NameSides. -/
import Derived.Test.YtpkccmohlcndgaaLwFM
namespace Go.Proofs.Ytpkccmohlcndgaa
open Go.RowKit Go.Shelf
set_option linter.unusedVariables false

set_option maxRecDepth 100000 in
set_option maxHeartbeats 3200000 in
theorem nlists_ok (v dv : Value) (l : NL) (drop : List Int) (w : World) (hv : NLV w w.heap.size v l) (hd : Arr w w.heap.size 1 dv drop icell) :
    Calls Try.prog 3 #[v, dv] w fun r w' => r = .returned (.bool true) ∧ Below w.heap.size w w' := by
  obtain ⟨da, dc, rfl, -⟩ := id hd
  obtain ⟨ka, kc, aa, ac, ba, bc, rfl, hna⟩ := hv
  have hE := NB.new hna
  have hB := (Below.refl w.heap.size w).alloc (Nat.le_refl _) (.cells #[.int .i64 l.n, .slice ka l.links.length kc, .slice aa l.left.length ac, .slice ba l.right.length bc] 25)
  go_enter Try.func3, Try.ntmps3
  go_upto_region 1 with (fail)
  generalize hW : w.alloc (.cells #[.int .i64 l.n, .slice ka l.links.length kc, .slice aa l.left.length ac, .slice ba l.right.length bc] 25) = W at *
  clear hW
  have HDD := Lib.hid (fun (W' : World) (hb : Below w.heap.size w W') => (hd.below hb).more hb.size)
  have hgr := lgreat_ok _ l W hE.v
  clear hd
  cases hg : greatN l
  · rw [hg] at hgr
    clear hg
    by_cases hl : 140 < drop.length
    · have d1 : decide (140 < drop.length) = true := decide_eq_true hl
      have d1' : decide ((140 : Int) < (drop.length : Int)) = true := decide_eq_true (by omega)
      clear hl
      obtain ⟨k0, k1, k2, k3⟩ := hE.blk.c4
      go_wp2_with fail
      refine (hgr).mono ?_
      rintro e w1 hp
      clear k0 k1 k2 k3
      obtain ⟨rfl, hb⟩ := hp
      replace hE := hE.call hb
      replace hB := hB.trans ((hb).mono hB.size)
      clear hgr hb
      go_wp2_with fail
      refine (lworks_ok _).mono ?_
      rintro e wz ⟨rfl, hbz⟩
      have hBz := hB.trans (hbz.mono hB.size)
      go_wp2
      try rw [Exit.noGoto_ret]
      go_ret
      exact ⟨rfl, hBz⟩
    · have d1 : decide (140 < drop.length) = false := decide_eq_false hl
      have d1' : decide ((140 : Int) < (drop.length : Int)) = false := decide_eq_false (by omega)
      clear hl
      obtain ⟨k0, k1, k2, k3⟩ := hE.blk.c4
      go_wp2_with fail
      refine (hgr).mono ?_
      rintro e w1 hp
      clear k0 k1 k2 k3
      obtain ⟨rfl, hb⟩ := hp
      replace hE := hE.call hb
      replace hB := hB.trans ((hb).mono hB.size)
      clear hgr hb
      obtain ⟨k0, k1, k2, k3⟩ := hE.blk.c4
      go_wp2_with fail
      refine (groups_ok _ _ l drop w1 hE.v (HDD.out w1 hB)).mono ?_
      rintro e w2 hp
      clear k0 k1 k2 k3
      obtain ⟨gv, rfl, hG, hb⟩ := hp
      obtain ⟨gA, gc, rfl, -, -⟩ := hG.form
      replace hE := hE.call hb
      replace hB := hB.trans ((hb).mono hB.size)
      clear hb
      obtain ⟨k0, k1, k2, k3⟩ := hE.blk.c4
      go_wp2_with fail
      refine (rGroups_ok _ _ l drop w2 hE.v (HDD.out w2 hB)).mono ?_
      rintro e w3 hp
      clear k0 k1 k2 k3
      obtain ⟨hv2, rfl, hH, hb⟩ := hp
      obtain ⟨hA, hc, rfl, -, -⟩ := hH.form
      replace hE := hE.call hb
      replace hB := hB.trans ((hb).mono hB.size)
      replace hG := hG.call hb
      clear hb
      obtain ⟨k0, k1, k2, k3⟩ := hE.blk.c4
      have f0 := Ext.of k0
      have f1 := Ext.of k1
      have f2 := Ext.of k2
      have f3 := Ext.of k3
      have HA1 : Hid (∀ y : Ext w3, Calls Try.prog 17 #[nlV l ka kc aa ac ba bc] y.w fun r w' => r = .returned (.int .i64 (checkL l)) ∧ ∃ z : Ext w3, w' = z.w) := fun y => ext_call y (checkList_ok _ l y.w (hE.call y.h).v)
      have HA2 : Hid (∀ y : Ext w3, Calls Try.prog 18 #[nlV l ka kc aa ac ba bc] y.w fun r w' => r = .returned (.int .i64 (checkL l)) ∧ ∃ z : Ext w3, w' = z.w) := fun y => ext_call y (rcheckList_ok _ l y.w (hE.call y.h).v)
      have HA3 : Hid (∀ y : Ext w3, Calls Try.prog 19 #[.slice gA (grpL l drop).length gc, .slice hA (grpL l drop).length hc] y.w fun r w' => r = .returned (.bool true) ∧ ∃ z : Ext w3, w' = z.w) := fun y => ext_call y (listsT _ _ _ y.w (hG.call y.h) (hH.call y.h))
      have HA4 : Hid (∀ y : Ext w3, Calls Try.prog 14 #[] y.w fun r w' => r = .returned (.bool true) ∧ ∃ z : Ext w3, w' = z.w) := fun y => ext_call y (lworks_ok y.w)
      clear hG hH hE
      generalize (grpL l drop).length = gl at *
      generalize openE l drop = oe at *
      generalize checkL l = ce at *
      have e1 : (ce == ce) = true := by simp
      have e2 : (oe == oe) = true := by simp
      go_upto_region 5 with (fail)
      clear k0 k1 k2 k3
      refine wp_region_ext (by kernel_rfl) (by kernel_rfl) ?_
      repeat (go_big_quiet_step ((first | (go_at_call 17; with_reducible exact HA1.out _) | (go_at_call 18; with_reducible exact HA2.out _) | (go_at_call 19; with_reducible exact HA3.out _) | (go_at_call 14; with_reducible exact HA4.out _))))
      refine wpQuiet_nil ?_
      intro _ hw'
      obtain ⟨xr, hw''⟩ := hw'
      subst hw''
      go_wp2
      go_ret
      exact ⟨rfl, hB.trans (xr.h.mono hB.size)⟩
  · rw [hg] at hgr
    clear hg
    obtain ⟨k0, k1, k2, k3⟩ := hE.blk.c4
    go_wp2_with fail
    refine (hgr).mono ?_
    rintro e w1 hp
    clear k0 k1 k2 k3
    obtain ⟨rfl, hb⟩ := hp
    replace hE := hE.call hb
    replace hB := hB.trans ((hb).mono hB.size)
    clear hgr hb
    go_wp2_with fail
    refine (lworks_ok _).mono ?_
    rintro e wz ⟨rfl, hbz⟩
    have hBz := hB.trans (hbz.mono hB.size)
    go_wp2
    try rw [Exit.noGoto_ret]
    go_ret
    exact ⟨rfl, hBz⟩
set_option maxRecDepth 100000 in
set_option maxHeartbeats 3200000 in
theorem nchains_ok (v dv cv : Value) (l : NL) (drop c : List Int) (w : World) (hv : NLV w w.heap.size v l) (hd : Arr w w.heap.size 1 dv drop icell) (hc : Arr w w.heap.size 1 cv c icell) :
    Calls Try.prog 4 #[v, dv, cv] w fun r w' => r = .returned (.bool true) ∧ Below w.heap.size w w' := by
  obtain ⟨da, dc, rfl, -⟩ := id hd
  obtain ⟨ca, cc, rfl, -⟩ := id hc
  obtain ⟨ka, kc, aa, ac, ba, bc, rfl, hna⟩ := hv
  have hE := NB.new hna
  have hB := (Below.refl w.heap.size w).alloc (Nat.le_refl _) (.cells #[.int .i64 l.n, .slice ka l.links.length kc, .slice aa l.left.length ac, .slice ba l.right.length bc] 25)
  go_enter Try.func4, Try.ntmps4
  go_upto_region 1 with (fail)
  generalize hW : w.alloc (.cells #[.int .i64 l.n, .slice ka l.links.length kc, .slice aa l.left.length ac, .slice ba l.right.length bc] 25) = W at *
  clear hW
  have HDD := Lib.hid (fun (W' : World) (hb : Below w.heap.size w W') => (hd.below hb).more hb.size)
  have HCC := Lib.hid (fun (W' : World) (hb : Below w.heap.size w W') => (hc.below hb).more hb.size)
  have hgr := lgreat_ok _ l W hE.v
  clear hd hc
  cases hg : greatN l
  · rw [hg] at hgr
    clear hg
    by_cases hl : 140 < drop.length
    · have d1 : decide (140 < drop.length) = true := decide_eq_true hl
      have d1' : decide ((140 : Int) < (drop.length : Int)) = true := decide_eq_true (by omega)
      clear hl
      obtain ⟨k0, k1, k2, k3⟩ := hE.blk.c4
      go_wp2_with fail
      refine (hgr).mono ?_
      rintro e w1 hp
      clear k0 k1 k2 k3
      obtain ⟨rfl, hb⟩ := hp
      replace hE := hE.call hb
      replace hB := hB.trans ((hb).mono hB.size)
      clear hgr hb
      go_wp2_with fail
      refine (lworks_ok _).mono ?_
      rintro e wz ⟨rfl, hbz⟩
      have hBz := hB.trans (hbz.mono hB.size)
      go_wp2
      try rw [Exit.noGoto_ret]
      go_ret
      exact ⟨rfl, hBz⟩
    · have d1 : decide (140 < drop.length) = false := decide_eq_false hl
      have d1' : decide ((140 : Int) < (drop.length : Int)) = false := decide_eq_false (by omega)
      clear hl
      by_cases hl : 50 < c.length
      · have d2 : decide (50 < c.length) = true := decide_eq_true hl
        have d2' : decide ((50 : Int) < (c.length : Int)) = true := decide_eq_true (by omega)
        clear hl
        obtain ⟨k0, k1, k2, k3⟩ := hE.blk.c4
        go_wp2_with fail
        refine (hgr).mono ?_
        rintro e w1 hp
        clear k0 k1 k2 k3
        obtain ⟨rfl, hb⟩ := hp
        replace hE := hE.call hb
        replace hB := hB.trans ((hb).mono hB.size)
        clear hgr hb
        go_wp2_with fail
        refine (lworks_ok _).mono ?_
        rintro e wz ⟨rfl, hbz⟩
        have hBz := hB.trans (hbz.mono hB.size)
        go_wp2
        try rw [Exit.noGoto_ret]
        go_ret
        exact ⟨rfl, hBz⟩
      · have d2 : decide (50 < c.length) = false := decide_eq_false hl
        have d2' : decide ((50 : Int) < (c.length : Int)) = false := decide_eq_false (by omega)
        clear hl
        obtain ⟨k0, k1, k2, k3⟩ := hE.blk.c4
        go_wp2_with fail
        refine (hgr).mono ?_
        rintro e w1 hp
        clear k0 k1 k2 k3
        obtain ⟨rfl, hb⟩ := hp
        replace hE := hE.call hb
        replace hB := hB.trans ((hb).mono hB.size)
        clear hgr hb
        obtain ⟨k0, k1, k2, k3⟩ := hE.blk.c4
        go_wp2_with fail
        refine (chain_ok _ _ l drop w1 hE.v (HDD.out w1 hB)).mono ?_
        rintro e w2 hp
        clear k0 k1 k2 k3
        obtain ⟨xv, xc, rfl, hxo, hX, hb⟩ := hp
        obtain ⟨xA, xcc, rfl, -⟩ := id hX
        replace hE := hE.call hb
        replace hB := hB.trans ((hb).mono hB.size)
        clear hb
        obtain ⟨k0, k1, k2, k3⟩ := hE.blk.c4
        have f0 := Ext.of k0
        have f1 := Ext.of k1
        have f2 := Ext.of k2
        have f3 := Ext.of k3
        have HA1 : Hid (∀ y : Ext w2, Calls Try.prog 21 #[nlV l ka kc aa ac ba bc, .slice da drop.length dc, .slice ca c.length cc] y.w fun r w' => r = .returned (.int .i64 (chkC l drop c)) ∧ ∃ z : Ext w2, w' = z.w) := fun y => ext_call y (checkChain_ok _ _ _ l drop c y.w (hE.call y.h).v (HDD.out _ (hB.trans (y.h.mono hB.size))) (HCC.out _ (hB.trans (y.h.mono hB.size))))
        have HA2 : Hid (∀ y : Ext w2, Calls Try.prog 22 #[nlV l ka kc aa ac ba bc, .slice da drop.length dc, .slice ca c.length cc] y.w fun r w' => r = .returned (.int .i64 (chkC l drop c)) ∧ ∃ z : Ext w2, w' = z.w) := fun y => ext_call y (rcheckChain_ok _ _ _ l drop c y.w (hE.call y.h).v (HDD.out _ (hB.trans (y.h.mono hB.size))) (HCC.out _ (hB.trans (y.h.mono hB.size))))
        have HA3 : Hid (∀ y : Ext w2, Calls Try.prog 23 #[nlV l ka kc aa ac ba bc, .slice da drop.length dc] y.w fun r w' => r = .returned (.int .i64 (chainE l drop)) ∧ ∃ z : Ext w2, w' = z.w) := fun y => ext_call y (rchainE_ok _ _ l drop y.w (hE.call y.h).v (HDD.out _ (hB.trans (y.h.mono hB.size))))
        have hcb : (chkC l drop c != chkC l drop c) = false := by simp
        have hce : (chainE l drop != chainE l drop) = false := by simp
        go_upto_region 4 with (fail)
        clear k0 k1 k2 k3
        refine wp_region_ext (by kernel_rfl) (by kernel_rfl) ?_
        repeat (go_big_quiet_step ((first | (go_at_call 21; with_reducible exact HA1.out _) | (go_at_call 22; with_reducible exact HA2.out _) | (go_at_call 23; with_reducible exact HA3.out _))))
        refine wpQuiet_nil ?_
        intro _ hw'
        obtain ⟨xr, hw''⟩ := hw'
        subst hw''
        replace hB := hB.trans (xr.h.mono hB.size)
        replace hE := hE.call xr.h
        replace hX := hX.call xr.h
        obtain ⟨w3, hw3⟩ : ∃ w3 : World, w3 = xr.w := ⟨_, rfl⟩
        rw [← hw3] at hB hE hX ⊢
        clear hw3 xr f0 f1 f2 f3 HA1 HA2 HA3 hcb hce
        by_cases h0 : chainE l drop = 0
        · have d3 : (chainE l drop != 0) = false := by simp [h0]
          have hch := rcheckChain_ok _ _ _ l drop xc w3 hE.v (HDD.out _ hB) hX
          rw [hxo.2 h0] at hch
          clear h0 hxo
          obtain ⟨k0, k1, k2, k3⟩ := hE.blk.c4
          go_wp2_with fail
          refine (hch).mono ?_
          rintro e w4 hp
          clear k0 k1 k2 k3
          obtain ⟨rfl, hb⟩ := hp
          replace hE := hE.call hb
          replace hB := hB.trans ((hb).mono hB.size)
          clear hch hb
          go_wp2_with fail
          refine (lworks_ok _).mono ?_
          rintro e wz ⟨rfl, hbz⟩
          have hBz := hB.trans (hbz.mono hB.size)
          go_wp2
          try rw [Exit.noGoto_ret]
          go_ret
          exact ⟨rfl, hBz⟩
        · have d3 : (chainE l drop != 0) = true := by simpa using h0
          have hxn : xc.length = 0 := by rw [hxo.1 h0]; rfl
          rw [hxn]
          clear h0 hxo hxn
          go_wp2_with fail
          refine (lworks_ok _).mono ?_
          rintro e wz ⟨rfl, hbz⟩
          have hBz := hB.trans (hbz.mono hB.size)
          go_wp2
          try rw [Exit.noGoto_ret]
          go_ret
          exact ⟨rfl, hBz⟩
  · rw [hg] at hgr
    clear hg
    obtain ⟨k0, k1, k2, k3⟩ := hE.blk.c4
    go_wp2_with fail
    refine (hgr).mono ?_
    rintro e w1 hp
    clear k0 k1 k2 k3
    obtain ⟨rfl, hb⟩ := hp
    replace hE := hE.call hb
    replace hB := hB.trans ((hb).mono hB.size)
    clear hgr hb
    go_wp2_with fail
    refine (lworks_ok _).mono ?_
    rintro e wz ⟨rfl, hbz⟩
    have hBz := hB.trans (hbz.mono hB.size)
    go_wp2
    try rw [Exit.noGoto_ret]
    go_ret
    exact ⟨rfl, hBz⟩

set_option maxRecDepth 100000 in
set_option maxHeartbeats 3200000 in
theorem nsides_ok (v : Value) (l : NL) (w : World) (hv : NLV w w.heap.size v l) :
    Calls Try.prog 6 #[v] w fun r w' => r = .returned (.bool true) ∧ Below w.heap.size w w' := by
  obtain ⟨ka, kc, aa, ac, ba, bc, rfl, hna⟩ := hv
  have hE := NB.new hna
  have hB := (Below.refl w.heap.size w).alloc (Nat.le_refl _) (.cells #[.int .i64 l.n, .slice ka l.links.length kc, .slice aa l.left.length ac, .slice ba l.right.length bc] 25)
  go_enter Try.func6, Try.ntmps6
  go_upto_region 1 with (fail)
  generalize hW : w.alloc (.cells #[.int .i64 l.n, .slice ka l.links.length kc, .slice aa l.left.length ac, .slice ba l.right.length bc] 25) = W at *
  clear hW
  have hgr := lgreat_ok _ l W hE.v
  cases hg : greatN l
  · rw [hg] at hgr
    clear hg
    by_cases hl : 9 < l.n ∧ l.n ≤ 40
    · have d1 : decide (9 < l.n) = true := decide_eq_true hl.1
      have d2 : decide (l.n ≤ 40) = true := decide_eq_true hl.2
      clear hl
      obtain ⟨k0, k1, k2, k3⟩ := hE.blk.c4
      go_wp2_with fail
      refine hgr.mono ?_
      rintro e w1 ⟨rfl, hb⟩
      replace hE := hE.call hb
      replace hB := hB.trans ((hb).mono hB.size)
      clear hgr hb k0 k1 k2 k3
      obtain ⟨k0, k1, k2, k3⟩ := hE.blk.c4
      go_wp2_with fail
      refine (lworks_ok _).mono ?_
      rintro e wz ⟨rfl, hbz⟩
      have hBz := hB.trans (hbz.mono hB.size)
      go_wp2
      try rw [Exit.noGoto_ret]
      go_ret
      exact ⟨rfl, hBz⟩
    · have h9 : checkL l = 0 → l.N ≤ 9 := fun h => by
        have hgd := check_good.1 h
        have := hgd.forty
        have := hgd.nN
        omega
      by_cases hq : 9 < l.n
      · have d1 : decide (9 < l.n) = true := decide_eq_true hq
        have d2 : decide (l.n ≤ 40) = false := decide_eq_false (by omega)
        clear hq hl
        obtain ⟨k0, k1, k2, k3⟩ := hE.blk.c4
        go_wp2_with fail
        refine hgr.mono ?_
        rintro e w1 ⟨rfl, hb⟩
        replace hE := hE.call hb
        replace hB := hB.trans ((hb).mono hB.size)
        clear hgr hb k0 k1 k2 k3
        obtain ⟨k0, k1, k2, k3⟩ := hE.blk.c4
        go_wp2_with fail
        refine (least_ok _ l w1 hE.v).mono ?_
        rintro e w2 hp
        clear k0 k1 k2 k3
        obtain ⟨av, rfl, hA, hb⟩ := hp
        obtain ⟨aA, ac2, rfl, -⟩ := id hA
        replace hE := hE.call hb
        replace hB := hB.trans ((hb).mono hB.size)
        clear hb
        obtain ⟨k0, k1, k2, k3⟩ := hE.blk.c4
        go_wp2_with fail
        refine (rleast_ok _ l w2 hE.v h9).mono ?_
        rintro e w3 hp
        clear k0 k1 k2 k3
        obtain ⟨bv, rfl, hB1, hb⟩ := hp
        obtain ⟨bA, bc2, rfl, -⟩ := id hB1
        replace hE := hE.call hb
        replace hB := hB.trans ((hb).mono hB.size)
        replace hA := hA.call hb
        clear hb
        obtain ⟨k0, k1, k2, k3⟩ := hE.blk.c4
        go_wp2_with fail
        refine (sides_ok _ l w3 hE.v).mono ?_
        rintro e w4 hp
        clear k0 k1 k2 k3
        obtain ⟨cv, rfl, hC1, hb⟩ := hp
        obtain ⟨cA, cc2, rfl, -⟩ := id hC1
        replace hE := hE.call hb
        replace hB := hB.trans ((hb).mono hB.size)
        replace hA := hA.call hb
        replace hB1 := hB1.call hb
        clear hb
        obtain ⟨k0, k1, k2, k3⟩ := hE.blk.c4
        go_wp2_with fail
        refine (rsides_ok _ l w4 hE.v h9).mono ?_
        rintro e w5 hp
        clear k0 k1 k2 k3
        obtain ⟨dv, rfl, hD1, hb⟩ := hp
        obtain ⟨dA, dc2, rfl, -⟩ := id hD1
        replace hE := hE.call hb
        replace hB := hB.trans ((hb).mono hB.size)
        replace hA := hA.call hb
        replace hB1 := hB1.call hb
        replace hC1 := hC1.call hb
        clear hb h9
        have e1 : (lstC l == lstC l) = true := by simp
        have e2 : (checkL l == checkL l) = true := by simp
        go_wp2_with fail
        refine (intsT _ _ _ _ hA hB1).mono ?_
        rintro e w6 ⟨rfl, hb⟩
        replace hE := hE.call hb
        replace hB := hB.trans ((hb).mono hB.size)
        replace hC1 := hC1.call hb
        replace hD1 := hD1.call hb
        clear hb hA hB1
        go_wp2_with fail
        refine (intsT _ _ _ _ hC1 hD1).mono ?_
        rintro e w7 ⟨rfl, hb⟩
        replace hE := hE.call hb
        replace hB := hB.trans ((hb).mono hB.size)
        clear hb hC1 hD1
        go_wp2_with fail
        refine (lworks_ok _).mono ?_
        rintro e wz ⟨rfl, hbz⟩
        have hBz := hB.trans (hbz.mono hB.size)
        go_wp2
        try rw [Exit.noGoto_ret]
        go_ret
        exact ⟨rfl, hBz⟩
      · have d1 : decide (9 < l.n) = false := decide_eq_false hq
        clear hq hl
        obtain ⟨k0, k1, k2, k3⟩ := hE.blk.c4
        go_wp2_with fail
        refine hgr.mono ?_
        rintro e w1 ⟨rfl, hb⟩
        replace hE := hE.call hb
        replace hB := hB.trans ((hb).mono hB.size)
        clear hgr hb k0 k1 k2 k3
        obtain ⟨k0, k1, k2, k3⟩ := hE.blk.c4
        go_wp2_with fail
        refine (least_ok _ l w1 hE.v).mono ?_
        rintro e w2 hp
        clear k0 k1 k2 k3
        obtain ⟨av, rfl, hA, hb⟩ := hp
        obtain ⟨aA, ac2, rfl, -⟩ := id hA
        replace hE := hE.call hb
        replace hB := hB.trans ((hb).mono hB.size)
        clear hb
        obtain ⟨k0, k1, k2, k3⟩ := hE.blk.c4
        go_wp2_with fail
        refine (rleast_ok _ l w2 hE.v h9).mono ?_
        rintro e w3 hp
        clear k0 k1 k2 k3
        obtain ⟨bv, rfl, hB1, hb⟩ := hp
        obtain ⟨bA, bc2, rfl, -⟩ := id hB1
        replace hE := hE.call hb
        replace hB := hB.trans ((hb).mono hB.size)
        replace hA := hA.call hb
        clear hb
        obtain ⟨k0, k1, k2, k3⟩ := hE.blk.c4
        go_wp2_with fail
        refine (sides_ok _ l w3 hE.v).mono ?_
        rintro e w4 hp
        clear k0 k1 k2 k3
        obtain ⟨cv, rfl, hC1, hb⟩ := hp
        obtain ⟨cA, cc2, rfl, -⟩ := id hC1
        replace hE := hE.call hb
        replace hB := hB.trans ((hb).mono hB.size)
        replace hA := hA.call hb
        replace hB1 := hB1.call hb
        clear hb
        obtain ⟨k0, k1, k2, k3⟩ := hE.blk.c4
        go_wp2_with fail
        refine (rsides_ok _ l w4 hE.v h9).mono ?_
        rintro e w5 hp
        clear k0 k1 k2 k3
        obtain ⟨dv, rfl, hD1, hb⟩ := hp
        obtain ⟨dA, dc2, rfl, -⟩ := id hD1
        replace hE := hE.call hb
        replace hB := hB.trans ((hb).mono hB.size)
        replace hA := hA.call hb
        replace hB1 := hB1.call hb
        replace hC1 := hC1.call hb
        clear hb h9
        have e1 : (lstC l == lstC l) = true := by simp
        have e2 : (checkL l == checkL l) = true := by simp
        go_wp2_with fail
        refine (intsT _ _ _ _ hA hB1).mono ?_
        rintro e w6 ⟨rfl, hb⟩
        replace hE := hE.call hb
        replace hB := hB.trans ((hb).mono hB.size)
        replace hC1 := hC1.call hb
        replace hD1 := hD1.call hb
        clear hb hA hB1
        go_wp2_with fail
        refine (intsT _ _ _ _ hC1 hD1).mono ?_
        rintro e w7 ⟨rfl, hb⟩
        replace hE := hE.call hb
        replace hB := hB.trans ((hb).mono hB.size)
        clear hb hC1 hD1
        go_wp2_with fail
        refine (lworks_ok _).mono ?_
        rintro e wz ⟨rfl, hbz⟩
        have hBz := hB.trans (hbz.mono hB.size)
        go_wp2
        try rw [Exit.noGoto_ret]
        go_ret
        exact ⟨rfl, hBz⟩
  · rw [hg] at hgr
    clear hg
    obtain ⟨k0, k1, k2, k3⟩ := hE.blk.c4
    go_wp2_with fail
    refine (hgr).mono ?_
    rintro e w1 hp
    clear k0 k1 k2 k3
    obtain ⟨rfl, hb⟩ := hp
    replace hE := hE.call hb
    replace hB := hB.trans ((hb).mono hB.size)
    clear hgr hb
    go_wp2_with fail
    refine (lworks_ok _).mono ?_
    rintro e wz ⟨rfl, hbz⟩
    have hBz := hB.trans (hbz.mono hB.size)
    go_wp2
    try rw [Exit.noGoto_ret]
    go_ret
    exact ⟨rfl, hBz⟩
end Go.Proofs.Ytpkccmohlcndgaa
