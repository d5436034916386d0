/- Contract of the law WordProved. -/
import Derived.Test.YtgngpdnppdbgoaaLawC
namespace Go.Proofs.Ytgngpdnppdbgoaa
open Go.RowKit Go.Shelf
set_option linter.unusedVariables false

theorem longestM_good {b : List (Int × Int)} {ls : List (List Int)} (h0 : checkLines b ls = 0) : longestM b ls = (iLL (firstOf b ls), 0) := by unfold longestM; rw [if_neg (by simp [h0])]; rfl
theorem levelsM_good {b : List (Int × Int)} {ls : List (List Int)} (h0 : checkLines b ls = 0) : levelsM b ls = (levList b ls, 0) := by unfold levelsM; rw [if_neg (by simp [h0])]; rfl
theorem levList_len (b : List (Int × Int)) (ls : List (List Int)) : (levList b ls).length = (matsOf b ls).length := List.length_map ..
theorem levList_at {b : List (Int × Int)} {ls : List (List Int)} {k : Nat} (hk : k < (matsOf b ls).length) : (levList b ls)[k]? = some (lvN b ls k : Int) := by
  unfold levList
  rw [List.getElem?_map, mats_at hk]
  rfl

set_option maxRecDepth 100000 in
set_option maxHeartbeats 6400000 in
theorem prvd_ok (v lv yv pv gv : Value) (b : List (Int × Int)) (ls : List (List Int)) (bl : List (Fin 256)) (p : List (List Int)) (g : List Int) (w : World) (hv : BookV w w.heap.size v b) (hl : LLi w lv ls) (hyv : Arr w w.heap.size 1 yv bl u8cell) (hpv : LLi w pv p) (hgv : Arr w w.heap.size 1 gv g icell) :
    Calls Try.prog 7 #[v, lv, yv, pv, gv] w fun r w' => r = .returned (.bool true) ∧ Below w.heap.size w w' := by
  obtain ⟨ma, mc, rfl, hp1, hp2⟩ := hpv.form
  obtain ⟨ga, gc, rfl, hg1, hg2, -⟩ := id hgv
  obtain ⟨ya, yc, rfl, hy1, hy2, -⟩ := id hyv
  obtain ⟨pa, pc, rfl, hp⟩ := hv.open_
  obtain ⟨la, lc, rfl, -, -⟩ := hl.form
  have hC := BB.new hp
  have hB := (Below.refl w.heap.size w).alloc (Nat.le_refl _) (.cells #[.slice pa b.length pc] 24)
  go_enter Try.func7, Try.ntmps7
  go_upto_region 1 with (fail)
  generalize w.alloc (.cells #[.slice pa b.length pc] 24) = W at *
  have hL := (hl.below hB).more hB.size
  clear hp hv hl
  have hY := (hyv.below hB).more hB.size
  have hP := (hpv.below hB).more hB.size
  have hG := (hgv.below hB).more hB.size
  clear hpv hgv hyv
  have hfi := lfine_ok _ _ b ls W hC.bv hL
  cases hf : fineB b ls
  · rw [hf] at hfi
    clear hf
    have k0 := hC.c0
    go_wp2_with fail
    refine (hfi).mono ?_
    rintro e w1 hp
    clear k0
    obtain ⟨rfl, hb⟩ := hp
    replace hC := hC.call hb
    replace hL := hL.call hb
    replace hB := hB.trans ((hb).mono hB.size)
    clear hfi
    go_wp2_with fail
    refine (works_ok _).mono ?_
    rintro e wz ⟨rfl, hbz⟩
    have hBz := hB.trans (hbz.mono hB.size)
    go_wp2
    try rw [Exit.noGoto_ret]
    go_ret
    exact ⟨rfl, hBz⟩
  · rw [hf] at hfi
    obtain ⟨hf0, hf1⟩ := fineB_iff.1 hf
    have H0 := Lib.hid hf0
    have HG := Lib.hid (good_of hf0)
    clear hf hf0
    have k0 := hC.c0
    go_wp2_with fail
    refine (hfi).mono ?_
    rintro e w1 hp
    clear k0
    obtain ⟨rfl, hb⟩ := hp
    replace hC := hC.call hb
    replace hL := hL.call hb
    replace hB := hB.trans ((hb).mono hB.size)
    replace hY := hY.call hb
    replace hP := hP.call hb
    replace hG := hG.call hb
    clear hb hfi
    by_cases h20 : 20 < bl.length
    · have d1 : decide ((20 : Int) < (bl.length : Int)) = true := decide_eq_true (by omega)
      have d1' : decide (20 < bl.length) = true := decide_eq_true h20
      clear h20
      go_wp2_with fail
      refine (works_ok _).mono ?_
      rintro e wz ⟨rfl, hbz⟩
      have hBz := hB.trans (hbz.mono hB.size)
      go_wp2
      try rw [Exit.noGoto_ret]
      go_ret
      exact ⟨rfl, hBz⟩
    · have d1 : decide ((20 : Int) < (bl.length : Int)) = false := decide_eq_false (by omega)
      have d1' : decide (20 < bl.length) = false := decide_eq_false h20
      by_cases h12 : 12 < p.length
      · have d2 : decide ((12 : Int) < (p.length : Int)) = true := decide_eq_true (by omega)
        have d2' : decide (12 < p.length) = true := decide_eq_true h12
        clear h12 h20
        go_wp2_with fail
        refine (works_ok _).mono ?_
        rintro e wz ⟨rfl, hbz⟩
        have hBz := hB.trans (hbz.mono hB.size)
        go_wp2
        try rw [Exit.noGoto_ret]
        go_ret
        exact ⟨rfl, hBz⟩
      · have d2 : decide ((12 : Int) < (p.length : Int)) = false := decide_eq_false (by omega)
        have d2' : decide (12 < p.length) = false := decide_eq_false h12
        by_cases h10 : 1000 < g.length
        · have d3 : decide ((1000 : Int) < (g.length : Int)) = true := decide_eq_true (by omega)
          have d3' : decide (1000 < g.length) = true := decide_eq_true h10
          clear h10 h12 h20
          go_wp2_with fail
          refine (works_ok _).mono ?_
          rintro e wz ⟨rfl, hbz⟩
          have hBz := hB.trans (hbz.mono hB.size)
          go_wp2
          try rw [Exit.noGoto_ret]
          go_ret
          exact ⟨rfl, hBz⟩
        · have d3 : decide ((1000 : Int) < (g.length : Int)) = false := decide_eq_false (by omega)
          have d3' : decide (1000 < g.length) = false := decide_eq_false h10
          clear h20 h12 h10
          obtain ⟨hps, hpl⟩ := long_pass HG.out
          obtain ⟨M, hM⟩ : ∃ M, M = mostOf b ls := ⟨_, rfl⟩
          have HM := Lib.hid hM
          rw [← hM] at hpl
          obtain ⟨F, hF⟩ : ∃ F, F = iLL (firstOf b ls) := ⟨_, rfl⟩
          have h1 := longestM_good H0.out
          have h2 := levelsM_good H0.out
          have h3 := checkLv_own HG.out
          rw [← hF] at hps hpl h1
          obtain ⟨V, hV⟩ : ∃ V, V = levList b ls := ⟨_, rfl⟩
          rw [← hV] at h2 h3
          have HV := Lib.hid hV
          rw [← hM] at h3
          have HPS := Lib.hid hps
          have HPL := Lib.hid hpl
          have H1 := Lib.hid h1
          have H2 := Lib.hid h2
          have H3 := Lib.hid h3
          have hM8 : M ≤ 8 := by rw [HM.out]; exact mostOf_le HG.out
          have HVL : Hid (V.length = (matsOf b ls).length) := by rw [Hid, hV, levList_len]
          clear hM hF hV h1 h2 h3 hps hpl
          have k0 := hC.c0
          go_wp2_with fail
          refine (longestP_ok _ _ b ls w1 hC.bv hL).mono ?_
          rintro e w2 hp
          clear k0
          rw [H1.out] at hp
          obtain ⟨fv, rfl, hF, hb⟩ := hp
          obtain ⟨fA, fc, rfl, -, -⟩ := hF.form
          simp only [HPL.out] at hF
          replace hC := hC.call hb
          replace hL := hL.call hb
          replace hB := hB.trans ((hb).mono hB.size)
          replace hY := hY.call hb
          replace hP := hP.call hb
          replace hG := hG.call hb
          clear hb
          rw [HPL.out]
          have k0 := hC.c0
          go_wp2_with fail
          refine (levelsP_ok _ _ b ls w2 hC.bv hL).mono ?_
          rintro e w3 hp
          clear k0
          rw [H2.out] at hp
          obtain ⟨vv, rfl, hVv, hb⟩ := hp
          obtain ⟨vA, vc, rfl, -⟩ := id hVv
          replace hC := hC.call hb
          replace hL := hL.call hb
          replace hB := hB.trans ((hb).mono hB.size)
          replace hY := hY.call hb
          replace hP := hP.call hb
          replace hG := hG.call hb
          replace hF := hF.call hb
          clear hb
          have k0 := hC.c0
          go_wp2_with fail
          refine (checkLv_ok _ _ _ b ls V w3 hC.bv hL hVv).mono ?_
          rintro e w4 hp
          clear k0
          rw [H3.out] at hp
          obtain ⟨rfl, hb⟩ := hp
          replace hC := hC.call hb
          replace hL := hL.call hb
          replace hB := hB.trans ((hb).mono hB.size)
          replace hY := hY.call hb
          replace hP := hP.call hb
          replace hG := hG.call hb
          replace hF := hF.call hb
          replace hVv := hVv.call hb
          clear hb
          have k0 := hC.c0
          go_wp2_with fail
          refine (rcheckLv_ok _ _ _ b ls V w4 hC.bv hL hVv).mono ?_
          rintro e w5 hp
          clear k0
          rw [H3.out] at hp
          obtain ⟨rfl, hb⟩ := hp
          replace hC := hC.call hb
          replace hL := hL.call hb
          replace hB := hB.trans ((hb).mono hB.size)
          replace hY := hY.call hb
          replace hP := hP.call hb
          replace hG := hG.call hb
          replace hF := hF.call hb
          replace hVv := hVv.call hb
          clear hb
          have dM : ((M : Int) != (M : Int)) = false := by simp
          have hck := rcheckPass_ok _ _ _ b ls F w5 hC.bv hL hF
          rw [HPS.out] at hck
          have k0 := hC.c0
          go_wp2_with fail
          refine (hck).mono ?_
          rintro e w6 hp
          clear k0
          obtain ⟨rfl, hb⟩ := hp
          replace hC := hC.call hb
          replace hL := hL.call hb
          replace hB := hB.trans ((hb).mono hB.size)
          replace hY := hY.call hb
          replace hP := hP.call hb
          replace hG := hG.call hb
          replace hF := hF.call hb
          replace hVv := hVv.call hb
          clear hb hck
          have hck := checkPass_ok _ _ _ b ls F w6 hC.bv hL hF
          rw [HPS.out] at hck
          have k0 := hC.c0
          go_wp2_with fail
          refine (hck).mono ?_
          rintro e w7 hp
          clear k0
          obtain ⟨rfl, hb⟩ := hp
          replace hC := hC.call hb
          replace hL := hL.call hb
          replace hB := hB.trans ((hb).mono hB.size)
          replace hY := hY.call hb
          replace hP := hP.call hb
          replace hG := hG.call hb
          replace hVv := hVv.call hb
          clear hb hck hF
          have hcl := lclimb_ok _ _ _ b ls bl w7 hC.bv hL hY H0.out
          have k0 := hC.c0
          go_wp2_with fail
          refine (hcl).mono ?_
          rintro e w8 hp
          clear k0
          obtain ⟨q, qA, qc, hq, rfl, hQ, hb⟩ := hp
          replace hC := hC.call hb
          replace hL := hL.call hb
          replace hB := hB.trans ((hb).mono hB.size)
          replace hP := hP.call hb
          replace hG := hG.call hb
          replace hVv := hVv.call hb
          obtain ⟨hqp, hql⟩ := chain_pass HG.out hq
          rw [← HM.out] at hql
          have d4 : decide ((M : Int) < (q.length : Int)) = false := decide_eq_false (by omega)
          have d4' : decide (M < q.length) = false := decide_eq_false (by omega)
          have HQP := Lib.hid hqp
          clear hb hcl hY hq hql hqp
          have hck := checkPass_ok _ _ _ b ls (iLL q) w8 hC.bv hL hQ
          rw [HQP.out] at hck
          have k0 := hC.c0
          go_wp2_with fail
          refine (hck).mono ?_
          rintro e w9 hp
          clear k0
          obtain ⟨rfl, hb⟩ := hp
          replace hC := hC.call hb
          replace hL := hL.call hb
          replace hB := hB.trans ((hb).mono hB.size)
          replace hP := hP.call hb
          replace hG := hG.call hb
          replace hVv := hVv.call hb
          clear hb hck hQ d4 d4'
          have hck := checkPass_ok _ _ _ b ls p w9 hC.bv hL hP
          have HPP : Hid (checkPass b ls p = 0 → p.length ≤ M) := fun h => by rw [HM.out]; exact pass_len HG.out h
          obtain ⟨cp, hcp⟩ : ∃ cp, cp = checkPass b ls p := ⟨_, rfl⟩
          rw [← hcp] at hck HPP
          clear hcp
          have k0 := hC.c0
          go_wp2_with fail
          refine (hck).mono ?_
          rintro e w10 hp
          clear k0
          obtain ⟨rfl, hb⟩ := hp
          replace hC := hC.call hb
          replace hL := hL.call hb
          replace hB := hB.trans ((hb).mono hB.size)
          replace hG := hG.call hb
          replace hVv := hVv.call hb
          clear hb hck hP
          obtain ⟨kk, e0, hke⟩ : ∃ kk e0, checkLv b ls g = (kk, e0) := ⟨_, _, rfl⟩
          by_cases hc0 : cp = 0
          · have hpm := HPP.out hc0
            have d5 : decide ((M : Int) < (p.length : Int)) = false := decide_eq_false (by omega)
            have d5' : decide (M < p.length) = false := decide_eq_false (by omega)
            subst hc0
            clear hpm HPP
            have k0 := hC.c0
            go_wp2_with fail
            refine (checkLv_ok _ _ _ b ls g w10 hC.bv hL hG).mono ?_
            rintro e w11 hp
            clear k0
            rw [hke] at hp
            obtain ⟨rfl, hb⟩ := hp
            replace hC := hC.call hb
            replace hL := hL.call hb
            replace hB := hB.trans ((hb).mono hB.size)
            replace hG := hG.call hb
            replace hVv := hVv.call hb
            have HKE := Lib.hid hke
            clear hb hke
            by_cases he0 : e0 = 0
            · subst he0
              obtain ⟨-, hlen, hbad, hkk⟩ := checkLv_inv HKE.out
              have hbo := levs_bound HG.out hlen hbad
              have hle := levs_least HG.out hlen hbad
              rw [← hkk, ← HM.out] at hbo
              have d6 : decide (kk < (M : Int)) = false := decide_eq_false (by omega)
              have hgv : g.length = V.length := by rw [HVL.out]; exact hlen
              have d7 : ((g.length : Int) != (V.length : Int)) = false := by rw [hgv]; simp
              have HLE : Hid (∀ i, i < V.length → ((lvN b ls i : Nat) : Int) ≤ g.getD i 0) := fun i hi => hle i (by rw [← HVL.out]; exact hi)
              have HGV := Lib.hid hgv
              clear hlen hbad hkk hbo hle hgv
              go_wp2
              go_loopw [22] (fun i wr => ∃ k : Nat, k ≤ V.length ∧ i = .int .i64 k ∧ Below w11.heap.size w11 wr) (fun i _ => V.length - (intOf i).toNat)
              case atStart => exact ⟨0, Nat.zero_le _, rfl, Below.refl _ _⟩
              case round =>
                obtain ⟨k, hk, rfl, hb⟩ := hrel
                by_cases hlt : k < V.length
                · have d8 : decide (k < V.length) = true := decide_eq_true hlt
                  have d8' : decide ((k : Int) < (V.length : Int)) = true := decide_eq_true (by omega)
                  have hki : (k : Int) < (V.length : Int) := by omega
                  have hkg : (k : Int) < (g.length : Int) := by have := HGV.out; omega
                  obtain ⟨gb, go, rfl, -, hgc⟩ := num_at (hG.call hb) (k := k) (by rw [HGV.out]; exact hlt)
                  obtain ⟨vb, vo, rfl, -, hvc⟩ := num_at (hVv.call hb) hlt
                  have hvx : V.getD k 0 = (lvN b ls k : Int) := by
                    rw [List.getD_eq_getElem?_getD, HV.out, levList_at (by rw [← HVL.out]; exact hlt)]
                    rfl
                  have hlx := HLE.out k hlt
                  rw [hvx] at hvc
                  obtain ⟨x, hx⟩ : ∃ x, x = g.getD k 0 := ⟨_, rfl⟩
                  obtain ⟨y, hy⟩ : ∃ y : Int, y = (lvN b ls k : Int) := ⟨_, rfl⟩
                  rw [← hx] at hgc hlx
                  rw [← hy] at hvc hlx
                  have d9 : decide (x < y) = false := decide_eq_false (by omega)
                  have f0 := Ext.of hgc
                  have f1 := Ext.of hvc
                  clear hx hy hgc hvc hvx hlx
                  go_upto_region 22 with (fail)
                  refine wp_region_ext (by kernel_rfl) (by kernel_rfl) ?_
                  repeat (go_big_quiet_step (fail))
                  refine wpQuiet_nil ?_
                  intro _ hw'
                  obtain ⟨xr, hw''⟩ := hw'
                  subst hw''
                  have hb2 := hb.trans (xr.h.mono hb.size)
                  go_wp2
                  go_roundw
                  case rel => exact ⟨k + 1, by omega, by go_num, hb2⟩
                  case measure => (simp [intOf]; try omega)
                · obtain rfl : V.length = k := by omega
                  have d8 : decide (V.length < V.length) = false := by simp
                  replace hB := hB.trans (hb.mono hB.size)
                  clear hb
                  go_wp2_with fail
                  refine (works_ok _).mono ?_
                  rintro e wz ⟨rfl, hbz⟩
                  have hBz := hB.trans (hbz.mono hB.size)
                  go_wp2
                  try rw [Exit.noGoto_ret]
                  go_ret
                  exact ⟨rfl, hBz⟩
            · have d6 : ((e0 : Int) != 0) = true := by simp [he0]
              clear he0
              go_wp2_with fail
              refine (works_ok _).mono ?_
              rintro e wz ⟨rfl, hbz⟩
              have hBz := hB.trans (hbz.mono hB.size)
              go_wp2
              try rw [Exit.noGoto_ret]
              go_ret
              exact ⟨rfl, hBz⟩
          · have d5 : ((cp : Int) == 0) = false := beq_false_of_ne hc0
            clear hc0
            have k0 := hC.c0
            go_wp2_with fail
            refine (checkLv_ok _ _ _ b ls g w10 hC.bv hL hG).mono ?_
            rintro e w11 hp
            clear k0
            rw [hke] at hp
            obtain ⟨rfl, hb⟩ := hp
            replace hC := hC.call hb
            replace hL := hL.call hb
            replace hB := hB.trans ((hb).mono hB.size)
            replace hG := hG.call hb
            replace hVv := hVv.call hb
            have HKE := Lib.hid hke
            clear hb hke
            by_cases he0 : e0 = 0
            · subst he0
              obtain ⟨-, hlen, hbad, hkk⟩ := checkLv_inv HKE.out
              have hbo := levs_bound HG.out hlen hbad
              have hle := levs_least HG.out hlen hbad
              rw [← hkk, ← HM.out] at hbo
              have d6 : decide (kk < (M : Int)) = false := decide_eq_false (by omega)
              have hgv : g.length = V.length := by rw [HVL.out]; exact hlen
              have d7 : ((g.length : Int) != (V.length : Int)) = false := by rw [hgv]; simp
              have HLE : Hid (∀ i, i < V.length → ((lvN b ls i : Nat) : Int) ≤ g.getD i 0) := fun i hi => hle i (by rw [← HVL.out]; exact hi)
              have HGV := Lib.hid hgv
              clear hlen hbad hkk hbo hle hgv
              go_wp2
              go_loopw [22] (fun i wr => ∃ k : Nat, k ≤ V.length ∧ i = .int .i64 k ∧ Below w11.heap.size w11 wr) (fun i _ => V.length - (intOf i).toNat)
              case atStart => exact ⟨0, Nat.zero_le _, rfl, Below.refl _ _⟩
              case round =>
                obtain ⟨k, hk, rfl, hb⟩ := hrel
                by_cases hlt : k < V.length
                · have d8 : decide (k < V.length) = true := decide_eq_true hlt
                  have d8' : decide ((k : Int) < (V.length : Int)) = true := decide_eq_true (by omega)
                  have hki : (k : Int) < (V.length : Int) := by omega
                  have hkg : (k : Int) < (g.length : Int) := by have := HGV.out; omega
                  obtain ⟨gb, go, rfl, -, hgc⟩ := num_at (hG.call hb) (k := k) (by rw [HGV.out]; exact hlt)
                  obtain ⟨vb, vo, rfl, -, hvc⟩ := num_at (hVv.call hb) hlt
                  have hvx : V.getD k 0 = (lvN b ls k : Int) := by
                    rw [List.getD_eq_getElem?_getD, HV.out, levList_at (by rw [← HVL.out]; exact hlt)]
                    rfl
                  have hlx := HLE.out k hlt
                  rw [hvx] at hvc
                  obtain ⟨x, hx⟩ : ∃ x, x = g.getD k 0 := ⟨_, rfl⟩
                  obtain ⟨y, hy⟩ : ∃ y : Int, y = (lvN b ls k : Int) := ⟨_, rfl⟩
                  rw [← hx] at hgc hlx
                  rw [← hy] at hvc hlx
                  have d9 : decide (x < y) = false := decide_eq_false (by omega)
                  have f0 := Ext.of hgc
                  have f1 := Ext.of hvc
                  clear hx hy hgc hvc hvx hlx
                  go_upto_region 22 with (fail)
                  refine wp_region_ext (by kernel_rfl) (by kernel_rfl) ?_
                  repeat (go_big_quiet_step (fail))
                  refine wpQuiet_nil ?_
                  intro _ hw'
                  obtain ⟨xr, hw''⟩ := hw'
                  subst hw''
                  have hb2 := hb.trans (xr.h.mono hb.size)
                  go_wp2
                  go_roundw
                  case rel => exact ⟨k + 1, by omega, by go_num, hb2⟩
                  case measure => (simp [intOf]; try omega)
                · obtain rfl : V.length = k := by omega
                  have d8 : decide (V.length < V.length) = false := by simp
                  replace hB := hB.trans (hb.mono hB.size)
                  clear hb
                  go_wp2_with fail
                  refine (works_ok _).mono ?_
                  rintro e wz ⟨rfl, hbz⟩
                  have hBz := hB.trans (hbz.mono hB.size)
                  go_wp2
                  try rw [Exit.noGoto_ret]
                  go_ret
                  exact ⟨rfl, hBz⟩
            · have d6 : ((e0 : Int) != 0) = true := by simp [he0]
              clear he0
              go_wp2_with fail
              refine (works_ok _).mono ?_
              rintro e wz ⟨rfl, hbz⟩
              have hBz := hB.trans (hbz.mono hB.size)
              go_wp2
              try rw [Exit.noGoto_ret]
              go_ret
              exact ⟨rfl, hBz⟩
end Go.Proofs.Ytgngpdnppdbgoaa
