/- Contract of the law WordBooks. -/
import Derived.Test.YtgngpdnppdbgoaaLawC
namespace Go.Proofs.Ytgngpdnppdbgoaa
open Go.RowKit Go.Shelf
set_option linter.unusedVariables false

set_option maxRecDepth 100000 in
set_option maxHeartbeats 3200000 in
theorem books_ok (v lv : Value) (b : List (Int × Int)) (ls : List (List Int)) (one two : Int) (w : World) (hv : BookV w w.heap.size v b) (hl : LLi w lv ls) :
    Calls Try.prog 3 #[v, lv, .int .i64 one, .int .i64 two] w fun r w' => r = .returned (.bool true) ∧ Below w.heap.size w w' := by
  obtain ⟨pa, pc, rfl, hp⟩ := hv.open_
  obtain ⟨la, lc, rfl, -, -⟩ := hl.form
  have hC := BB.new hp
  have hB := (Below.refl w.heap.size w).alloc (Nat.le_refl _) (.cells #[.slice pa b.length pc] 24)
  go_enter Try.func3, Try.ntmps3
  go_upto_region 1 with (fail)
  generalize w.alloc (.cells #[.slice pa b.length pc] 24) = W at *
  have hL := (hl.below hB).more hB.size
  clear hp hv hl
  have hgr := lgreat_ok _ _ b ls W hC.bv hL
  cases hg : greatB b ls
  · rw [hg] at hgr
    clear hg
    have k0 := hC.c0
    go_wp2_with fail
    refine (hgr).mono ?_
    rintro e w1 hp
    clear k0
    obtain ⟨rfl, hb⟩ := hp
    replace hC := hC.call hb
    replace hL := hL.call hb
    replace hB := hB.trans ((hb).mono hB.size)
    clear hb hgr
    have k0 := hC.c0
    go_wp2_with fail
    refine (alikeP_ok _ b one two w1 hC.bv).mono ?_
    rintro e w2 hp
    clear k0
    obtain ⟨rfl, hb⟩ := hp
    replace hC := hC.call hb
    replace hL := hL.call hb
    replace hB := hB.trans ((hb).mono hB.size)
    clear hb
    have k0 := hC.c0
    go_wp2_with fail
    refine (ralike_ok _ b one two w2 hC.bv).mono ?_
    rintro e w3 hp
    clear k0
    obtain ⟨rfl, hb⟩ := hp
    replace hC := hC.call hb
    replace hL := hL.call hb
    replace hB := hB.trans ((hb).mono hB.size)
    clear hb
    have k0 := hC.c0
    go_wp2_with fail
    refine (matches_ok _ _ b ls w3 hC.bv hL).mono ?_
    rintro e w4 hp
    clear k0
    obtain ⟨mv, rfl, hM, hb⟩ := hp
    obtain ⟨mA, mc, rfl, -, -⟩ := hM.form
    replace hC := hC.call hb
    replace hL := hL.call hb
    replace hB := hB.trans ((hb).mono hB.size)
    clear hb
    have k0 := hC.c0
    go_wp2_with fail
    refine (rmatches_ok _ _ b ls w4 hC.bv hL).mono ?_
    rintro e w5 hp
    clear k0
    obtain ⟨nv, rfl, hN, hb⟩ := hp
    obtain ⟨nA, nc, rfl, -, -⟩ := hN.form
    replace hM := hM.call hb
    replace hC := hC.call hb
    replace hL := hL.call hb
    replace hB := hB.trans ((hb).mono hB.size)
    clear hb
    have f0 := Ext.of hC.c0
    have HA1 : Hid (∀ y : Ext w5, Calls Try.prog 19 #[.agg #[.slice pa b.length pc]] y.w fun r w' => r = .returned (.int .i64 (checkBook b)) ∧ ∃ z : Ext w5, w' = z.w) := fun y => ext_call y (checkBook_ok _ b y.w (hC.call y.h).bv)
    have HA2 : Hid (∀ y : Ext w5, Calls Try.prog 20 #[.agg #[.slice pa b.length pc]] y.w fun r w' => r = .returned (.int .i64 (checkBook b)) ∧ ∃ z : Ext w5, w' = z.w) := fun y => ext_call y (rcheckBook_ok _ b y.w (hC.call y.h).bv)
    have HA3 : Hid (∀ y : Ext w5, Calls Try.prog 21 #[.agg #[.slice pa b.length pc], .slice la ls.length lc] y.w fun r w' => r = .returned (.int .i64 (checkLines b ls)) ∧ ∃ z : Ext w5, w' = z.w) := fun y => ext_call y (checkLines_ok _ _ b ls y.w (hC.call y.h).bv (hL.call y.h))
    have HA4 : Hid (∀ y : Ext w5, Calls Try.prog 22 #[.agg #[.slice pa b.length pc], .slice la ls.length lc] y.w fun r w' => r = .returned (.int .i64 (checkLines b ls)) ∧ ∃ z : Ext w5, w' = z.w) := fun y => ext_call y (rcheckLines_ok _ _ b ls y.w (hC.call y.h).bv (hL.call y.h))
    have HA5 : Hid (∀ y : Ext w5, Calls Try.prog 23 #[.slice mA (matchesM b ls).1.length mc, .slice nA (matchesM b ls).1.length nc] y.w fun r w' => r = .returned (.bool true) ∧ ∃ z : Ext w5, w' = z.w) := fun y => ext_call y (matchesT _ _ _ y.w (hM.call y.h) (hN.call y.h))
    have HA6 : Hid (∀ y : Ext w5, Calls Try.prog 14 #[] y.w fun r w' => r = .returned (.bool true) ∧ ∃ z : Ext w5, w' = z.w) := fun y => ext_call y (works_ok y.w)
    clear hM hN hC hL
    generalize (matchesM b ls).1 = M at *
    generalize (matchesM b ls).2 = me at *
    generalize (alikeM b one two).1 = a1 at *
    generalize (alikeM b one two).2 = a2 at *
    generalize checkBook b = cb at *
    generalize checkLines b ls = cl at *
    have hq : (a1 == a1) = true := by simp
    go_upto_region 7 with (fail)
    refine wp_region_ext (by kernel_rfl) (by kernel_rfl) ?_
    repeat (go_big_quiet_step ((first | (go_at_call 19; with_reducible exact HA1.out _) | (go_at_call 20; with_reducible exact HA2.out _) | (go_at_call 21; with_reducible exact HA3.out _) | (go_at_call 22; with_reducible exact HA4.out _) | (go_at_call 23; with_reducible exact HA5.out _) | (go_at_call 14; with_reducible exact HA6.out _))))
    refine wpQuiet_nil ?_
    intro _ hw'
    obtain ⟨xr, hw''⟩ := hw'
    subst hw''
    go_wp2
    go_ret
    exact ⟨rfl, hB.trans (xr.h.mono hB.size)⟩
  · rw [hg] at hgr
    clear hg
    have k0 := hC.c0
    go_wp2_with fail
    refine (hgr).mono ?_
    rintro e w1 hp
    clear k0
    obtain ⟨rfl, hb⟩ := hp
    replace hC := hC.call hb
    replace hL := hL.call hb
    replace hB := hB.trans ((hb).mono hB.size)
    clear hgr
    go_wp2_with fail
    refine (works_ok _).mono ?_
    rintro e wz ⟨rfl, hbz⟩
    have hBz := hB.trans (hbz.mono hB.size)
    go_wp2
    try rw [Exit.noGoto_ret]
    go_ret
    exact ⟨rfl, hBz⟩
end Go.Proofs.Ytgngpdnppdbgoaa
