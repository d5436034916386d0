/- Contract of the law WordLevels. -/
import Derived.Test.YtgngpdnppdbgoaaLawC
namespace Go.Proofs.Ytgngpdnppdbgoaa
open Go.RowKit Go.Shelf
set_option linter.unusedVariables false

set_option maxRecDepth 100000 in
set_option maxHeartbeats 3200000 in
theorem levs_ok (v lv pv gv : Value) (b : List (Int × Int)) (ls p : List (List Int)) (g : List Int) (w : World) (hv : BookV w w.heap.size v b) (hl : LLi w lv ls) (hpv : LLi w pv p) (hgv : Arr w w.heap.size 1 gv g icell) :
    Calls Try.prog 4 #[v, lv, pv, gv] w fun r w' => r = .returned (.bool true) ∧ Below w.heap.size w w' := by
  obtain ⟨ma, mc, rfl, hp1, hp2⟩ := hpv.form
  obtain ⟨ga, gc, rfl, hg1, hg2, -⟩ := id hgv
  obtain ⟨pa, pc, rfl, hp⟩ := hv.open_
  obtain ⟨la, lc, rfl, -, -⟩ := hl.form
  have hC := BB.new hp
  have hB := (Below.refl w.heap.size w).alloc (Nat.le_refl _) (.cells #[.slice pa b.length pc] 24)
  go_enter Try.func4, Try.ntmps4
  go_upto_region 1 with (fail)
  generalize w.alloc (.cells #[.slice pa b.length pc] 24) = W at *
  have hL := (hl.below hB).more hB.size
  clear hp hv hl
  have hP := (hpv.below hB).more hB.size
  have hG := (hgv.below hB).more hB.size
  clear hpv hgv
  have hgr := lgreat_ok _ _ b ls W hC.bv hL
  cases hg : greatB b ls
  · rw [hg] at hgr
    clear hg
    have k0 := hC.c0
    go_wp2_with fail
    refine (hgr).mono ?_
    rintro e w1 hp
    clear k0
    obtain ⟨rfl, hb⟩ := hp
    replace hC := hC.call hb
    replace hL := hL.call hb
    replace hB := hB.trans ((hb).mono hB.size)
    replace hP := hP.call hb
    replace hG := hG.call hb
    clear hb hgr
    have hde := ldense_ok _ _ b ls 600 w1 hC.bv hL
    cases hg : denseB b ls 600
    · rw [hg] at hde
      clear hg
      have k0 := hC.c0
      go_wp2_with fail
      refine (hde).mono ?_
      rintro e w2 hp
      clear k0
      obtain ⟨rfl, hb⟩ := hp
      replace hC := hC.call hb
      replace hL := hL.call hb
      replace hB := hB.trans ((hb).mono hB.size)
      replace hP := hP.call hb
      replace hG := hG.call hb
      clear hb hde
      by_cases h12 : 12 < p.length
      · have d1 : decide ((12 : Int) < (p.length : Int)) = true := decide_eq_true (by omega)
        have d1' : decide (12 < p.length) = true := decide_eq_true h12
        clear h12
        go_wp2_with fail
        refine (works_ok _).mono ?_
        rintro e wz ⟨rfl, hbz⟩
        have hBz := hB.trans (hbz.mono hB.size)
        go_wp2
        try rw [Exit.noGoto_ret]
        go_ret
        exact ⟨rfl, hBz⟩
      · have d1 : decide ((12 : Int) < (p.length : Int)) = false := decide_eq_false (by omega)
        have d1' : decide (12 < p.length) = false := decide_eq_false h12
        by_cases h41 : 4100 < g.length
        · have d2 : decide ((4100 : Int) < (g.length : Int)) = true := decide_eq_true (by omega)
          have d2' : decide (4100 < g.length) = true := decide_eq_true h41
          clear h12 h41
          go_wp2_with fail
          refine (works_ok _).mono ?_
          rintro e wz ⟨rfl, hbz⟩
          have hBz := hB.trans (hbz.mono hB.size)
          go_wp2
          try rw [Exit.noGoto_ret]
          go_ret
          exact ⟨rfl, hBz⟩
        · have d2 : decide ((4100 : Int) < (g.length : Int)) = false := decide_eq_false (by omega)
          have d2' : decide (4100 < g.length) = false := decide_eq_false h41
          go_wp2
          go_loopw [9] (fun i wr => ∃ k : Nat, k ≤ p.length ∧ i = .int .i64 k ∧ Below w2.heap.size w2 wr) (fun i _ => p.length - (intOf i).toNat)
          case atStart => exact ⟨0, Nat.zero_le _, rfl, Below.refl _ _⟩
          case round =>
            obtain ⟨k, hk, rfl, hb⟩ := hrel
            by_cases hlt : k < p.length
            · have d3 : decide (k < p.length) = true := decide_eq_true hlt
              have d3' : decide ((k : Int) < (p.length : Int)) = true := decide_eq_true (by omega)
              have hki : (k : Int) < (p.length : Int) := by omega
              obtain ⟨eb, eo, eA, ec, hA, heb, hec, -⟩ := (hP.call hb).at_ (getD_some [] hlt)
              subst hA
              obtain ⟨m, hm⟩ : ∃ m, m = p.getD k [] := ⟨_, rfl⟩
              rw [← hm] at hec
              clear hm
              by_cases h10 : 10 < m.length
              · have d4 : decide ((10 : Int) < (m.length : Int)) = true := decide_eq_true (by omega)
                have d4' : decide (10 < m.length) = true := decide_eq_true h10
                replace hB := hB.trans (hb.mono hB.size)
                clear h10
                go_wp2_with fail
                refine (works_ok _).mono ?_
                rintro e wz ⟨rfl, hbz⟩
                have hBz := hB.trans (hbz.mono hB.size)
                go_wp2
                try rw [Exit.noGoto_ret]
                go_ret
                exact ⟨rfl, hBz⟩
              · have d4 : decide ((10 : Int) < (m.length : Int)) = false := decide_eq_false (by omega)
                have d4' : decide (10 < m.length) = false := decide_eq_false h10
                clear h10
                go_wp2
                go_roundw
                case rel => exact ⟨k + 1, by omega, by go_num, hb⟩
                case measure => (simp [intOf]; try omega)
            · obtain rfl : p.length = k := by omega
              have d3 : decide (p.length < p.length) = false := by simp
              obtain ⟨wo, hwo⟩ : ∃ wo : World, wo = wr := ⟨_, rfl⟩
              rw [← hwo] at hb ⊢
              clear hwo
              replace hC := hC.call hb
              replace hL := hL.call hb
              replace hB := hB.trans ((hb).mono hB.size)
              replace hP := hP.call hb
              replace hG := hG.call hb
              clear hb hk hlt
              have k0 := hC.c0
              go_wp2_with fail
              refine (levelsP_ok _ _ b ls wo hC.bv hL).mono ?_
              rintro e w3 hp
              clear k0
              obtain ⟨mv, rfl, hM, hb⟩ := hp
              obtain ⟨mA, mc', rfl, -⟩ := id hM
              replace hC := hC.call hb
              replace hL := hL.call hb
              replace hB := hB.trans ((hb).mono hB.size)
              replace hP := hP.call hb
              replace hG := hG.call hb
              clear hb d3
              have k0 := hC.c0
              go_wp2_with fail
              refine (rlevelsP_ok _ _ b ls w3 hC.bv hL).mono ?_
              rintro e w4 hp
              clear k0
              obtain ⟨nv, rfl, hN, hb⟩ := hp
              obtain ⟨nA, nc, rfl, -⟩ := id hN
              replace hC := hC.call hb
              replace hL := hL.call hb
              replace hB := hB.trans ((hb).mono hB.size)
              replace hP := hP.call hb
              replace hG := hG.call hb
              replace hM := hM.call hb
              clear hb
              have k0 := hC.c0
              go_wp2_with fail
              refine (checkLv_ok _ _ _ b ls g w4 hC.bv hL hG).mono ?_
              rintro e w5 hp
              clear k0
              obtain ⟨rfl, hb⟩ := hp
              replace hC := hC.call hb
              replace hL := hL.call hb
              replace hB := hB.trans ((hb).mono hB.size)
              replace hP := hP.call hb
              replace hG := hG.call hb
              replace hM := hM.call hb
              replace hN := hN.call hb
              clear hb
              have k0 := hC.c0
              go_wp2_with fail
              refine (rcheckLv_ok _ _ _ b ls g w5 hC.bv hL hG).mono ?_
              rintro e w6 hp
              clear k0
              obtain ⟨rfl, hb⟩ := hp
              replace hC := hC.call hb
              replace hL := hL.call hb
              replace hB := hB.trans ((hb).mono hB.size)
              replace hP := hP.call hb
              replace hM := hM.call hb
              replace hN := hN.call hb
              clear hb hG
              have f0 := Ext.of hC.c0
              have HA1 : Hid (∀ y : Ext w6, Calls Try.prog 29 #[.agg #[.slice pa b.length pc], .slice la ls.length lc, .slice ma p.length mc] y.w fun r w' => r = .returned (.int .i64 (checkPass b ls p)) ∧ ∃ z : Ext w6, w' = z.w) := fun y => ext_call y (checkPass_ok _ _ _ b ls p y.w (hC.call y.h).bv (hL.call y.h) (hP.call y.h))
              have HA2 : Hid (∀ y : Ext w6, Calls Try.prog 30 #[.agg #[.slice pa b.length pc], .slice la ls.length lc, .slice ma p.length mc] y.w fun r w' => r = .returned (.int .i64 (checkPass b ls p)) ∧ ∃ z : Ext w6, w' = z.w) := fun y => ext_call y (rcheckPass_ok _ _ _ b ls p y.w (hC.call y.h).bv (hL.call y.h) (hP.call y.h))
              have HA5 : Hid (∀ y : Ext w6, Calls Try.prog 31 #[.slice mA (levelsM b ls).1.length mc', .slice nA (levelsM b ls).1.length nc] y.w fun r w' => r = .returned (.bool true) ∧ ∃ z : Ext w6, w' = z.w) := fun y => ext_call y (intsT _ _ _ y.w (hM.call y.h) (hN.call y.h))
              have HA6 : Hid (∀ y : Ext w6, Calls Try.prog 14 #[] y.w fun r w' => r = .returned (.bool true) ∧ ∃ z : Ext w6, w' = z.w) := fun y => ext_call y (works_ok y.w)
              clear hM hN hC hL hP
              generalize (levelsM b ls).1 = M at *
              generalize (levelsM b ls).2 = me at *
              generalize (checkLv b ls g).1 = a1 at *
              generalize (checkLv b ls g).2 = a2 at *
              generalize checkPass b ls p = cp at *
              go_upto_region 12 with (fail)
              refine wp_region_ext (by kernel_rfl) (by kernel_rfl) ?_
              repeat (go_big_quiet_step ((first | (go_at_call 29; with_reducible exact HA1.out _) | (go_at_call 30; with_reducible exact HA2.out _) | (go_at_call 31; with_reducible exact HA5.out _) | (go_at_call 14; with_reducible exact HA6.out _))))
              refine wpQuiet_nil ?_
              intro _ hw'
              obtain ⟨xr, hw''⟩ := hw'
              subst hw''
              go_wp2
              go_ret
              exact ⟨rfl, hB.trans (xr.h.mono hB.size)⟩
    · rw [hg] at hde
      clear hg
      have k0 := hC.c0
      go_wp2_with fail
      refine (hde).mono ?_
      rintro e w2 hp
      clear k0
      obtain ⟨rfl, hb⟩ := hp
      replace hC := hC.call hb
      replace hL := hL.call hb
      replace hB := hB.trans ((hb).mono hB.size)
      clear hde
      go_wp2_with fail
      refine (works_ok _).mono ?_
      rintro e wz ⟨rfl, hbz⟩
      have hBz := hB.trans (hbz.mono hB.size)
      go_wp2
      try rw [Exit.noGoto_ret]
      go_ret
      exact ⟨rfl, hBz⟩
  · rw [hg] at hgr
    clear hg
    have k0 := hC.c0
    go_wp2_with fail
    refine (hgr).mono ?_
    rintro e w1 hp
    clear k0
    obtain ⟨rfl, hb⟩ := hp
    replace hC := hC.call hb
    replace hL := hL.call hb
    replace hB := hB.trans ((hb).mono hB.size)
    clear hgr
    go_wp2_with fail
    refine (works_ok _).mono ?_
    rintro e wz ⟨rfl, hbz⟩
    have hBz := hB.trans (hbz.mono hB.size)
    go_wp2
    try rw [Exit.noGoto_ret]
    go_ret
    exact ⟨rfl, hBz⟩
end Go.Proofs.Ytgngpdnppdbgoaa
