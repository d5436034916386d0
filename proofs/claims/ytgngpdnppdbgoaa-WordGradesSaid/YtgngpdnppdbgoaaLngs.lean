/- Contracts of the laws WordLongest, WordGrades. -/
import Derived.Test.YtgngpdnppdbgoaaLawC
namespace Go.Proofs.Ytgngpdnppdbgoaa
open Go.RowKit Go.Shelf
set_option linter.unusedVariables false

theorem dense_no {b : List (Int × Int)} {ls : List (List Int)} {m : Nat} (h : denseB b ls m = false) : checkLines b ls = 0 → (matsOf b ls).length ≤ m := by
  intro h0
  unfold denseB at h
  rw [decide_eq_true h0, Bool.true_and, decide_eq_false_iff_not] at h
  omega

set_option maxRecDepth 100000 in
set_option maxHeartbeats 3200000 in
theorem lngs_ok (v lv : Value) (b : List (Int × Int)) (ls : List (List Int)) (w : World) (hv : BookV w w.heap.size v b) (hl : LLi w lv ls) :
    Calls Try.prog 5 #[v, lv] w fun r w' => r = .returned (.bool true) ∧ Below w.heap.size w w' := by
  obtain ⟨pa, pc, rfl, hp⟩ := hv.open_
  obtain ⟨la, lc, rfl, -, -⟩ := hl.form
  have hC := BB.new hp
  have hB := (Below.refl w.heap.size w).alloc (Nat.le_refl _) (.cells #[.slice pa b.length pc] 24)
  go_enter Try.func5, Try.ntmps5
  go_upto_region 1 with (fail)
  generalize w.alloc (.cells #[.slice pa b.length pc] 24) = W at *
  have hL := (hl.below hB).more hB.size
  clear hp hv hl
  have hgr := lgreat_ok _ _ b ls W hC.bv hL
  cases hg : greatB b ls
  · rw [hg] at hgr
    clear hg
    have k0 := hC.c0
    go_wp2_with fail
    refine (hgr).mono ?_
    rintro e w1 hp
    clear k0
    obtain ⟨rfl, hb⟩ := hp
    replace hC := hC.call hb
    replace hL := hL.call hb
    replace hB := hB.trans ((hb).mono hB.size)
    clear hb hgr
    have hde := ldense_ok _ _ b ls 16 w1 hC.bv hL
    cases hg : denseB b ls 16
    · rw [hg] at hde
      have H16 := Lib.hid (dense_no hg)
      clear hg
      have k0 := hC.c0
      go_wp2_with fail
      refine (hde).mono ?_
      rintro e w2 hp
      clear k0
      obtain ⟨rfl, hb⟩ := hp
      replace hC := hC.call hb
      replace hL := hL.call hb
      replace hB := hB.trans ((hb).mono hB.size)
      clear hb hde
      have k0 := hC.c0
      go_wp2_with fail
      refine (longestP_ok _ _ b ls w2 hC.bv hL).mono ?_
      rintro e w3 hp
      clear k0
      obtain ⟨mv, rfl, hM, hb⟩ := hp
      obtain ⟨mA, mc, rfl, -, -⟩ := hM.form
      replace hC := hC.call hb
      replace hL := hL.call hb
      replace hB := hB.trans ((hb).mono hB.size)
      clear hb
      have k0 := hC.c0
      go_wp2_with fail
      refine (rlongest_ok _ _ b ls w3 hC.bv hL H16.out).mono ?_
      rintro e w4 hp
      clear k0
      obtain ⟨nv, rfl, hN, hb⟩ := hp
      obtain ⟨nA, nc, rfl, -, -⟩ := hN.form
      replace hC := hC.call hb
      replace hL := hL.call hb
      replace hB := hB.trans ((hb).mono hB.size)
      replace hM := hM.call hb
      clear hb
      have k0 := hC.c0
      go_wp2_with fail
      refine (countP_ok _ _ b ls w4 hC.bv hL).mono ?_
      rintro e w5 hp
      clear k0
      obtain ⟨rfl, hb⟩ := hp
      replace hC := hC.call hb
      replace hL := hL.call hb
      replace hB := hB.trans ((hb).mono hB.size)
      replace hM := hM.call hb
      replace hN := hN.call hb
      clear hb
      have k0 := hC.c0
      go_wp2_with fail
      refine (rcount_ok _ _ b ls w5 hC.bv hL H16.out).mono ?_
      rintro e w6 hp
      clear k0
      obtain ⟨rfl, hb⟩ := hp
      replace hC := hC.call hb
      replace hL := hL.call hb
      replace hB := hB.trans ((hb).mono hB.size)
      replace hM := hM.call hb
      replace hN := hN.call hb
      clear hb
      have k0 := hC.c0
      go_wp2_with fail
      refine (certainP_ok _ _ b ls w6 hC.bv hL).mono ?_
      rintro e w7 hp
      clear k0
      obtain ⟨sv, rfl, hS, hb⟩ := hp
      obtain ⟨sA, sc, rfl, -, -⟩ := hS.form
      replace hC := hC.call hb
      replace hL := hL.call hb
      replace hB := hB.trans ((hb).mono hB.size)
      replace hM := hM.call hb
      replace hN := hN.call hb
      clear hb
      have k0 := hC.c0
      go_wp2_with fail
      refine (rcertain_ok _ _ b ls w7 hC.bv hL H16.out).mono ?_
      rintro e w8 hp
      clear k0
      obtain ⟨tv, rfl, hT, hb⟩ := hp
      obtain ⟨tA, tc, rfl, -, -⟩ := hT.form
      replace hB := hB.trans (hb.mono hB.size)
      replace hM := hM.call hb
      replace hN := hN.call hb
      replace hS := hS.call hb
      clear hb hC hL
      have hmt := matchesT _ _ _ w8 hM hN
      generalize (longestM b ls).1 = M at *
      generalize (longestM b ls).2 = me at *
      generalize (certainM b ls).1 = C at *
      generalize (certainM b ls).2 = ce at *
      generalize (countM b ls).1 = n1 at *
      generalize (countM b ls).2 = n2 at *
      go_wp2_with fail
      refine hmt.mono ?_
      rintro e w9 ⟨rfl, hb⟩
      replace hB := hB.trans (hb.mono hB.size)
      replace hS := hS.call hb
      replace hT := hT.call hb
      have hmt2 := matchesT _ _ _ w9 hS hT
      clear hmt hb hM hN
      go_wp2_with fail
      refine hmt2.mono ?_
      rintro e w10 ⟨rfl, hb⟩
      replace hB := hB.trans (hb.mono hB.size)
      clear hmt2 hb hS hT
      go_wp2_with fail
      refine (works_ok _).mono ?_
      rintro e wz ⟨rfl, hbz⟩
      have hBz := hB.trans (hbz.mono hB.size)
      go_wp2
      try rw [Exit.noGoto_ret]
      go_ret
      exact ⟨rfl, hBz⟩
    · rw [hg] at hde
      clear hg
      have k0 := hC.c0
      go_wp2_with fail
      refine (hde).mono ?_
      rintro e w2 hp
      clear k0
      obtain ⟨rfl, hb⟩ := hp
      replace hC := hC.call hb
      replace hL := hL.call hb
      replace hB := hB.trans ((hb).mono hB.size)
      clear hde
      go_wp2_with fail
      refine (works_ok _).mono ?_
      rintro e wz ⟨rfl, hbz⟩
      have hBz := hB.trans (hbz.mono hB.size)
      go_wp2
      try rw [Exit.noGoto_ret]
      go_ret
      exact ⟨rfl, hBz⟩
  · rw [hg] at hgr
    clear hg
    have k0 := hC.c0
    go_wp2_with fail
    refine (hgr).mono ?_
    rintro e w1 hp
    clear k0
    obtain ⟨rfl, hb⟩ := hp
    replace hC := hC.call hb
    replace hL := hL.call hb
    replace hB := hB.trans ((hb).mono hB.size)
    clear hgr
    go_wp2_with fail
    refine (works_ok _).mono ?_
    rintro e wz ⟨rfl, hbz⟩
    have hBz := hB.trans (hbz.mono hB.size)
    go_wp2
    try rw [Exit.noGoto_ret]
    go_ret
    exact ⟨rfl, hBz⟩

set_option maxRecDepth 100000 in
set_option maxHeartbeats 3200000 in
theorem grds_ok (v lv : Value) (b : List (Int × Int)) (ls : List (List Int)) (h : Int) (w : World) (hv : BookV w w.heap.size v b) (hl : LLi w lv ls) :
    Calls Try.prog 6 #[v, lv, .int .i64 h] w fun r w' => r = .returned (.bool true) ∧ Below w.heap.size w w' := by
  obtain ⟨pa, pc, rfl, hp⟩ := hv.open_
  obtain ⟨la, lc, rfl, -, -⟩ := hl.form
  have hC := BB.new hp
  have hB := (Below.refl w.heap.size w).alloc (Nat.le_refl _) (.cells #[.slice pa b.length pc] 24)
  go_enter Try.func6, Try.ntmps6
  go_upto_region 1 with (fail)
  generalize w.alloc (.cells #[.slice pa b.length pc] 24) = W at *
  have hL := (hl.below hB).more hB.size
  clear hp hv hl
  have hgr := lgreat_ok _ _ b ls W hC.bv hL
  cases hg : greatB b ls
  · rw [hg] at hgr
    clear hg
    have k0 := hC.c0
    go_wp2_with fail
    refine (hgr).mono ?_
    rintro e w1 hp
    clear k0
    obtain ⟨rfl, hb⟩ := hp
    replace hC := hC.call hb
    replace hL := hL.call hb
    replace hB := hB.trans ((hb).mono hB.size)
    clear hb hgr
    have hde := ldense_ok _ _ b ls 16 w1 hC.bv hL
    cases hg : denseB b ls 16
    · rw [hg] at hde
      have H16 := Lib.hid (dense_no hg)
      clear hg
      have k0 := hC.c0
      go_wp2_with fail
      refine (hde).mono ?_
      rintro e w2 hp
      clear k0
      obtain ⟨rfl, hb⟩ := hp
      replace hC := hC.call hb
      replace hL := hL.call hb
      replace hB := hB.trans ((hb).mono hB.size)
      clear hb hde
      have k0 := hC.c0
      go_wp2_with fail
      refine (gradesP_ok _ _ b ls h w2 hC.bv hL).mono ?_
      rintro e w3 hp
      clear k0
      obtain ⟨mv, rfl, hM, hb⟩ := hp
      obtain ⟨mA, mc, rfl, -⟩ := id hM
      replace hC := hC.call hb
      replace hL := hL.call hb
      replace hB := hB.trans ((hb).mono hB.size)
      clear hb
      have k0 := hC.c0
      go_wp2_with fail
      refine (rgrades_ok _ _ b ls h w3 hC.bv hL H16.out).mono ?_
      rintro e w4 hp
      clear k0
      obtain ⟨nv, rfl, hN, hb⟩ := hp
      obtain ⟨nA, nc, rfl, -⟩ := id hN
      replace hB := hB.trans (hb.mono hB.size)
      replace hM := hM.call hb
      clear hb hC hL
      have hmt := intsT _ _ _ w4 hM hN
      generalize (gradesM b ls h).1 = M at *
      generalize (gradesM b ls h).2 = me at *
      go_wp2_with fail
      refine hmt.mono ?_
      rintro e w9 ⟨rfl, hb⟩
      replace hB := hB.trans (hb.mono hB.size)
      clear hmt hb hM hN
      go_wp2_with fail
      refine (works_ok _).mono ?_
      rintro e wz ⟨rfl, hbz⟩
      have hBz := hB.trans (hbz.mono hB.size)
      go_wp2
      try rw [Exit.noGoto_ret]
      go_ret
      exact ⟨rfl, hBz⟩
    · rw [hg] at hde
      clear hg
      have k0 := hC.c0
      go_wp2_with fail
      refine (hde).mono ?_
      rintro e w2 hp
      clear k0
      obtain ⟨rfl, hb⟩ := hp
      replace hC := hC.call hb
      replace hL := hL.call hb
      replace hB := hB.trans ((hb).mono hB.size)
      clear hde
      go_wp2_with fail
      refine (works_ok _).mono ?_
      rintro e wz ⟨rfl, hbz⟩
      have hBz := hB.trans (hbz.mono hB.size)
      go_wp2
      try rw [Exit.noGoto_ret]
      go_ret
      exact ⟨rfl, hBz⟩
  · rw [hg] at hgr
    clear hg
    have k0 := hC.c0
    go_wp2_with fail
    refine (hgr).mono ?_
    rintro e w1 hp
    clear k0
    obtain ⟨rfl, hb⟩ := hp
    replace hC := hC.call hb
    replace hL := hL.call hb
    replace hB := hB.trans ((hb).mono hB.size)
    clear hgr
    go_wp2_with fail
    refine (works_ok _).mono ?_
    rintro e wz ⟨rfl, hbz⟩
    have hBz := hB.trans (hbz.mono hB.size)
    go_wp2
    try rw [Exit.noGoto_ret]
    go_ret
    exact ⟨rfl, hBz⟩
end Go.Proofs.Ytgngpdnppdbgoaa
