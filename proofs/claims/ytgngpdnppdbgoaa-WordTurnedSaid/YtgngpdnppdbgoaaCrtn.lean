/- Contract of the law WordCertain. -/
import Derived.Test.YtgngpdnppdbgoaaPrvd
namespace Go.Proofs.Ytgngpdnppdbgoaa
open Go.RowKit Go.Shelf
set_option linter.unusedVariables false

theorem certainM_good {b : List (Int × Int)} {ls : List (List Int)} (h0 : checkLines b ls = 0) : certainM b ls = (iLL (certainOf b ls), 0) := by unfold certainM; rw [if_neg (by simp [h0])]
theorem countM_good {b : List (Int × Int)} {ls : List (List Int)} (h0 : checkLines b ls = 0) : countM b ls = (((longOf b ls).length : Int), 0) := by unfold countM; rw [if_neg (by simp [h0])]
theorem gradesM_good {b : List (Int × Int)} {ls : List (List Int)} (h0 : checkLines b ls = 0) {h : Nat} (hh : h < ls.length) : gradesM b ls (h : Int) = (gradesOf b ls h, 0) := by
  unfold gradesM
  rw [if_neg (by simp [h0]), if_neg (by omega), Int.toNat_natCast]

set_option maxRecDepth 100000 in
set_option maxHeartbeats 6400000 in
theorem crtn_ok (v lv yv : Value) (b : List (Int × Int)) (ls : List (List Int)) (bl : List (Fin 256)) (hr : Fin 256) (w : World) (hv : BookV w w.heap.size v b) (hl : LLi w lv ls) (hyv : Arr w w.heap.size 1 yv bl u8cell) :
    Calls Try.prog 8 #[v, lv, yv, .int .u8 hr.val] w fun r w' => r = .returned (.bool true) ∧ Below w.heap.size w w' := by
  obtain ⟨ya, yc, rfl, hy1, hy2, -⟩ := id hyv
  have hrl := hr.isLt
  generalize hr.val = hrn at *
  obtain ⟨pa, pc, rfl, hp⟩ := hv.open_
  obtain ⟨la, lc, rfl, -, -⟩ := hl.form
  have hC := BB.new hp
  have hB := (Below.refl w.heap.size w).alloc (Nat.le_refl _) (.cells #[.slice pa b.length pc] 24)
  go_enter Try.func8, Try.ntmps8
  go_upto_region 1 with (fail)
  generalize w.alloc (.cells #[.slice pa b.length pc] 24) = W at *
  have hL := (hl.below hB).more hB.size
  clear hp hv hl
  have hY := (hyv.below hB).more hB.size
  clear hyv
  have hfi := lfine_ok _ _ b ls W hC.bv hL
  cases hf : fineB b ls
  · rw [hf] at hfi
    clear hf
    have k0 := hC.c0
    go_wp2_with fail
    refine (hfi).mono ?_
    rintro e w1 hp
    clear k0
    obtain ⟨rfl, hb⟩ := hp
    replace hC := hC.call hb
    replace hL := hL.call hb
    replace hB := hB.trans ((hb).mono hB.size)
    clear hfi
    go_wp2_with fail
    refine (works_ok _).mono ?_
    rintro e wz ⟨rfl, hbz⟩
    have hBz := hB.trans (hbz.mono hB.size)
    go_wp2
    try rw [Exit.noGoto_ret]
    go_ret
    exact ⟨rfl, hBz⟩
  · rw [hf] at hfi
    obtain ⟨hf0, hf1⟩ := fineB_iff.1 hf
    have H0 := Lib.hid hf0
    have HG := Lib.hid (good_of hf0)
    have hl2 := HG.out.two
    have hl4 := HG.out.four
    clear hf hf0
    have k0 := hC.c0
    go_wp2_with fail
    refine (hfi).mono ?_
    rintro e w1 hp
    clear k0
    obtain ⟨rfl, hb⟩ := hp
    replace hC := hC.call hb
    replace hL := hL.call hb
    replace hB := hB.trans ((hb).mono hB.size)
    replace hY := hY.call hb
    clear hb hfi
    by_cases h20 : 20 < bl.length
    · have d1 : decide ((20 : Int) < (bl.length : Int)) = true := decide_eq_true (by omega)
      have d1' : decide (20 < bl.length) = true := decide_eq_true h20
      clear h20
      go_wp2_with fail
      refine (works_ok _).mono ?_
      rintro e wz ⟨rfl, hbz⟩
      have hBz := hB.trans (hbz.mono hB.size)
      go_wp2
      try rw [Exit.noGoto_ret]
      go_ret
      exact ⟨rfl, hBz⟩
    · have d1 : decide ((20 : Int) < (bl.length : Int)) = false := decide_eq_false (by omega)
      have d1' : decide (20 < bl.length) = false := decide_eq_false h20
      clear h20
      obtain ⟨hps, hpl⟩ := long_pass HG.out
      obtain ⟨M, hM⟩ : ∃ M, M = mostOf b ls := ⟨_, rfl⟩
      have HM := Lib.hid hM
      rw [← hM] at hpl
      obtain ⟨F0, hF0⟩ : ∃ F0, F0 = firstOf b ls := ⟨_, rfl⟩
      have h1 := longestM_good H0.out
      rw [← hF0] at hps hpl h1
      have HFM : Hid (F0 ∈ longOf b ls) := by rw [hF0]; exact first_mem HG.out
      obtain ⟨C0, hC0⟩ : ∃ C0, C0 = certainOf b ls := ⟨_, rfl⟩
      have h2 := certainM_good H0.out
      rw [← hC0] at h2
      have HCP : Hid (checkPass b ls (iLL C0) = 0) := by rw [hC0]; exact (chain_pass HG.out (certain_chain HG.out)).1
      obtain ⟨cnt, hcnt⟩ : ∃ cnt, cnt = (longOf b ls).length := ⟨_, rfl⟩
      have h3 := countM_good H0.out
      rw [← hcnt] at h3
      have hcp : 1 ≤ cnt := by rw [hcnt]; exact long_pos HG.out
      have HC1 : Hid (cnt = 1 → C0 = F0) := fun h => by rw [hC0, hF0]; exact certain_one HG.out (by rw [← hcnt]; exact h)
      have HPS := Lib.hid hps
      have HPL := Lib.hid hpl
      have H1 := Lib.hid h1
      have H2 := Lib.hid h2
      have H3 := Lib.hid h3
      have HC0 := Lib.hid hC0
      have hM8 : M ≤ 8 := by rw [HM.out]; exact mostOf_le HG.out
      have HMC : Hid (∀ m ∈ C0, m ∈ matsOf b ls ∧ ∀ l ∈ longOf b ls, m ∈ l) := fun m hm => by rw [hC0] at hm; exact mem_certain.1 hm
      have hC8 : C0.length ≤ 8 := by rw [hC0]; exact Nat.le_trans (chain_pass HG.out (certain_chain HG.out)).2 (mostOf_le HG.out)
      have HF8 : Hid (∀ m ∈ F0, m.length = ls.length) := fun m hm => matches_len ((long_iff.1 HFM.out).2.mem m hm)
      clear hM hF0 hC0 hcnt h1 h2 h3 hps hpl
      have k0 := hC.c0
      go_wp2_with fail
      refine (longestP_ok _ _ b ls w1 hC.bv hL).mono ?_
      rintro e w2 hp
      clear k0
      rw [H1.out] at hp
      obtain ⟨fv, rfl, hF, hb⟩ := hp
      obtain ⟨fA, fc, rfl, -, -⟩ := hF.form
      simp only [HPL.out] at hF
      replace hC := hC.call hb
      replace hL := hL.call hb
      replace hB := hB.trans ((hb).mono hB.size)
      replace hY := hY.call hb
      clear hb
      rw [HPL.out]
      have k0 := hC.c0
      go_wp2_with fail
      refine (countP_ok _ _ b ls w2 hC.bv hL).mono ?_
      rintro e w3 hp
      clear k0
      rw [H3.out] at hp
      obtain ⟨rfl, hb⟩ := hp
      replace hC := hC.call hb
      replace hL := hL.call hb
      replace hB := hB.trans ((hb).mono hB.size)
      replace hY := hY.call hb
      replace hF := hF.call hb
      clear hb
      have k0 := hC.c0
      go_wp2_with fail
      refine (certainP_ok _ _ b ls w3 hC.bv hL).mono ?_
      rintro e w4 hp
      clear k0
      rw [H2.out] at hp
      obtain ⟨cv, rfl, hCe, hb⟩ := hp
      obtain ⟨cA, cc, rfl, -, -⟩ := hCe.form
      simp only [iLL_len] at hCe
      replace hC := hC.call hb
      replace hL := hL.call hb
      replace hB := hB.trans ((hb).mono hB.size)
      replace hY := hY.call hb
      replace hF := hF.call hb
      clear hb
      rw [iLL_len]
      obtain ⟨hh, hhe⟩ : ∃ hh, hh = hrn % ls.length := ⟨_, rfl⟩
      have hhl : hh < ls.length := by rw [hhe]; exact Nat.mod_lt _ (by omega)
      have hhi : (hh : Int) < (ls.length : Int) := by omega
      have nz : ((ls.length : Int) == 0) = false := beq_false_of_ne (by omega)
      have m1 : (hrn : Int).tmod (ls.length : Int) = (hh : Int) := by rw [hhe]; rfl
      have c1 : IntKind.i64.wrap (hrn : Int) = hrn := wrap_id _ (by omega) (by omega)
      have c3 : IntKind.i64.wrap (hh : Int) = hh := wrap_id _ (by omega) (by omega)
      have h4 := gradesM_good H0.out hhl
      obtain ⟨G0, hG0⟩ : ∃ G0, G0 = gradesOf b ls hh := ⟨_, rfl⟩
      rw [← hG0] at h4
      have H4 := Lib.hid h4
      have HG0 := Lib.hid hG0
      obtain ⟨T, hT⟩ : ∃ T, T = (ls.getD hh []).length := ⟨_, rfl⟩
      have HGL : Hid (G0.length = T) := by rw [Hid, hG0, hT]; exact grades_len b ls hh
      have HT := Lib.hid hT
      clear hhe h4 hG0 hT
      go_upto_region 7 with (fail)
      clear nz m1 c1 c3
      have k0 := hC.c0
      go_wp2_with fail
      refine (gradesP_ok _ _ b ls (hh : Int) w4 hC.bv hL).mono ?_
      rintro e w5 hp
      clear k0
      rw [H4.out] at hp
      obtain ⟨gv, rfl, hG, hb⟩ := hp
      obtain ⟨gA, gc, rfl, hgc1, hgc2, -⟩ := id hG
      simp only [HGL.out] at hG
      replace hC := hC.call hb
      replace hL := hL.call hb
      replace hB := hB.trans ((hb).mono hB.size)
      replace hY := hY.call hb
      replace hF := hF.call hb
      replace hCe := hCe.call hb
      clear hb
      rw [HGL.out]
      have d2 : decide ((cnt : Int) < 1) = false := decide_eq_false (by omega)
      have d2' : decide (cnt < 1) = false := decide_eq_false (by omega)
      have dT : ((T : Int) != (T : Int)) = false := by simp
      go_upto_region 8 with (fail)
      go_cut [112] from 61 to 113 (fun g wx => g = .bool false ∧ Below w5.heap.size w5 wx)
      case first =>
        obtain ⟨lb, lo, lA, lcc, e1, hlb, hlc, -⟩ := hL.at_ (getD_some [] hhl)
        subst e1
        rw [← HT.out] at hlc
        have hck := rcheckPass_ok _ _ _ b ls (iLL C0) w5 hC.bv hL hCe
        rw [HCP.out] at hck
        have k0 := hC.c0
        go_wp2_with fail
        refine (hck).mono ?_
        rintro e w6 hp
        clear k0
        obtain ⟨rfl, hb⟩ := hp
        have hbx := hb
        replace hC := hC.call hb
        replace hL := hL.call hb
        replace hB := hB.trans ((hb).mono hB.size)
        replace hF := hF.call hb
        replace hCe := hCe.call hb
        clear hb hck hlc
        have hck := rcheckPass_ok _ _ _ b ls (iLL F0) w6 hC.bv hL hF
        rw [HPS.out] at hck
        have k0 := hC.c0
        go_wp2_with fail
        refine (hck).mono ?_
        rintro e w7 hp
        clear k0
        obtain ⟨rfl, hb⟩ := hp
        replace hbx := hbx.trans (hb.mono hbx.size)
        replace hF := hF.call hb
        replace hCe := hCe.call hb
        clear hb hck
        by_cases hc1 : cnt = 1
        · have d3 : ((cnt : Int) == 1) = true := by rw [beq_iff_eq]; omega
          have hCF := HC1.out hc1
          have hmt := matchesT (.slice cA C0.length cc) (.slice fA M fc) (iLL F0) w7 (by rw [← hCF]; exact hCF ▸ hCe) hF
          clear hc1 hCF
          go_wp2_with fail
          refine hmt.mono ?_
          rintro e w8 ⟨rfl, hb⟩
          replace hbx := hbx.trans (hb.mono hbx.size)
          clear hmt hb
          go_wp2
          go_meet
          case rel => exact ⟨rfl, hbx⟩
        · have d3 : ((cnt : Int) == 1) = false := beq_false_of_ne (by omega)
          clear hc1
          go_wp2
          go_meet
          case rel => exact ⟨rfl, hbx⟩
      case rest =>
        obtain ⟨rfl, hb⟩ := hcut
        replace hC := hC.call hb
        replace hL := hL.call hb
        replace hB := hB.trans ((hb).mono hB.size)
        replace hY := hY.call hb
        replace hF := hF.call hb
        replace hCe := hCe.call hb
        replace hG := hG.call hb
        obtain ⟨w6, hw6⟩ : ∃ w6 : World, w6 = wc := ⟨_, rfl⟩
        rw [← hw6] at hC hL hB hY hF hCe hG ⊢
        clear hb hw6 d2 d2' dT
        have hcl := lclimb_ok _ _ _ b ls bl w6 hC.bv hL hY H0.out
        have k0 := hC.c0
        go_wp2_with fail
        refine (hcl).mono ?_
        rintro e w7 hp
        clear k0
        obtain ⟨q, qA, qc, hq, rfl, hQ, hb⟩ := hp
        replace hB := hB.trans (hb.mono hB.size)
        replace hF := hF.call hb
        replace hCe := hCe.call hb
        replace hG := hG.call hb
        have HQL : Hid (q.length = M → q ∈ longOf b ls) := fun h => long_iff.2 ⟨by rw [h, HM.out], hq⟩
        have HQ8 : Hid (∀ m ∈ q, m.length = ls.length) := fun m hm => matches_len (hq.mem m hm)
        have hqM8 : q.length ≤ 8 := Nat.le_trans ((levOf HG.out).longest hq) (mostOf_le HG.out)
        clear hcl hb hY hq hC hL
        go_wp2
        go_loopw [19] (fun i wr => ∃ k : Nat, k ≤ C0.length ∧ i = .int .i64 k ∧ Below w7.heap.size w7 wr) (fun i _ => C0.length - (intOf i).toNat)
        case atStart => exact ⟨0, Nat.zero_le _, rfl, Below.refl _ _⟩
        case round =>
          obtain ⟨k, hk, rfl, hb⟩ := hrel
          by_cases hlt : k < C0.length
          · have d8 : decide (k < C0.length) = true := decide_eq_true hlt
            have d8' : decide ((k : Int) < (C0.length : Int)) = true := decide_eq_true (by omega)
            have hki : (k : Int) < (C0.length : Int) := by omega
            obtain ⟨xb, xo, xA, xc, hxA, hxb, hxc, hx⟩ := mat_at (hCe.call hb) hlt
            subst hxA
            have hmC : C0.getD k [] ∈ C0 := getD_in hlt
            obtain ⟨m, hm⟩ : ∃ m, m = C0.getD k [] := ⟨_, rfl⟩
            rw [← hm] at hxc hx hmC
            clear hm
            obtain ⟨hmm, hml⟩ := HMC.out m hmC
            have hmlen := matches_len hmm
            have hmi : (hh : Int) < ((iL m).length : Int) := by rw [iL_len, hmlen]; exact hhi
            obtain ⟨nb, no, rfl, hnb, hnc⟩ := num_at hx (k := hh) (by rw [iL_len, hmlen]; exact hhl)
            rw [getD_iL2] at hnc
            have hat := (mem_matsOf.1 hmm).1.2 hh hhl
            rw [← HT.out] at hat
            obtain ⟨gb, go, rfl, hgb, hgc⟩ := num_at (hG.call hb) (k := at0 m hh) (by rw [HGL.out]; exact hat)
            have hg2 : G0.getD (at0 m hh) 0 = 2 := by
              rw [List.getD_eq_getElem?_getD, HG0.out, grades_at (by rw [← HT.out]; exact hat)]
              exact (grade_two HG.out).2 fun l hl => by
                unfold hearsB
                rw [List.any_eq_true]
                exact ⟨m, hml l hl, by simp⟩
            rw [hg2] at hgc
            have hati : (at0 m hh : Int) < (T : Int) := by omega
            obtain ⟨a, ha⟩ : ∃ a, a = at0 m hh := ⟨_, rfl⟩
            rw [← ha] at hnc hgc hati
            have hHp := rhas_ok _ _ (iLL F0) (iL m) wr (hF.call hb) hx
            rw [has_iL, decide_eq_true (hml _ HFM.out)] at hHp
            have HIM : Hid (q.length = M → decide (m ∈ q) = true) := fun h => decide_eq_true (hml _ (HQL.out h))
            clear ha hat hmlen hmm hml hg2 hmC
            by_cases hqM : q.length = M
            · have d9 : ((q.length : Int) == (M : Int)) = true := by rw [beq_iff_eq]; omega
              have hHq := fun W' (h : Below wr.heap.size wr W') => rhas_ok (.slice qA q.length qc) _ (iLL q) (iL m) W' ((hQ.call hb).call h) (hx.call h)
              simp only [has_iL, HIM.out hqM] at hHq
              have HHQ := Lib.hid hHq
              clear hqM HIM hHq
              go_wp2_with fail
              refine hHp.mono ?_
              rintro e wy ⟨rfl, hby⟩
              have c0 := (hby.cell (p := ⟨xb, xo + k, none⟩) hxb).trans hxc
              clear hHp
              go_wp2_with fail
              refine (HHQ.out _ hby).mono ?_
              rintro e wz ⟨rfl, hbz⟩
              have hbyz := hby.trans (hbz.mono hby.size)
              have c1 := (hbyz.cell (p := ⟨xb, xo + k, none⟩) hxb).trans hxc
              have c2 := (hbyz.cell (p := ⟨nb, no + hh, none⟩) hnb).trans hnc
              have c3 := (hbyz.cell (p := ⟨gb, go + a, none⟩) hgb).trans hgc
              replace hb := hb.trans (hbyz.mono hb.size)
              clear hxc hnc hgc hby hbz hbyz HHQ c0 hx
              go_wp2
              go_roundw
              case rel => exact ⟨k + 1, by omega, by go_num, hb⟩
              case measure => (simp [intOf]; try omega)
            · have d9 : ((q.length : Int) == (M : Int)) = false := beq_false_of_ne (by omega)
              clear hqM HIM
              go_wp2_with fail
              refine hHp.mono ?_
              rintro e wy ⟨rfl, hby⟩
              have c1 := (hby.cell (p := ⟨xb, xo + k, none⟩) hxb).trans hxc
              have c2 := (hby.cell (p := ⟨nb, no + hh, none⟩) hnb).trans hnc
              have c3 := (hby.cell (p := ⟨gb, go + a, none⟩) hgb).trans hgc
              replace hb := hb.trans (hby.mono hb.size)
              clear hxc hnc hgc hby hHp hx
              go_wp2
              go_roundw
              case rel => exact ⟨k + 1, by omega, by go_num, hb⟩
              case measure => (simp [intOf]; try omega)
          · obtain rfl : C0.length = k := by omega
            have d8 : decide (C0.length < C0.length) = false := by simp
            replace hF := hF.call hb
            replace hQ := hQ.call hb
            replace hG := hG.call hb
            replace hB := hB.trans (hb.mono hB.size)
            obtain ⟨w8, hw8⟩ : ∃ w8 : World, w8 = wr := ⟨_, rfl⟩
            rw [← hw8] at hB hF hQ hG ⊢
            clear hw8 hb hCe
            go_wp2
            clear d8
            go_loopw [20] (fun i wr => ∃ k : Nat, k ≤ T ∧ i = .int .i64 k ∧ Below w8.heap.size w8 wr) (fun i _ => T - (intOf i).toNat)
            case atStart => exact ⟨0, Nat.zero_le _, rfl, Below.refl _ _⟩
            case round =>
              obtain ⟨k, hk, rfl, hb⟩ := hrel
              by_cases hlt : k < T
              · have d8 : decide (k < T) = true := decide_eq_true hlt
                have d8' : decide ((k : Int) < (T : Int)) = true := decide_eq_true (by omega)
                have hki : (k : Int) < (T : Int) := by omega
                obtain ⟨gb, go, rfl, hgbl, hgc⟩ := num_at (hG.call hb) (k := k) (by rw [HGL.out]; exact hlt)
                obtain ⟨x, hx⟩ : ∃ x, x = G0.getD k 0 := ⟨_, rfl⟩
                rw [← hx] at hgc
                have hxg : x = gradeN ((longOf b ls).countP (hearsB hh k)) (longOf b ls).length := by
                  rw [hx, List.getD_eq_getElem?_getD, HG0.out, grades_at (by rw [← HT.out]; exact hlt)]
                  rfl
                have hx02 := gradeN_range ((longOf b ls).countP (hearsB hh k)) (longOf b ls).length
                rw [← hxg] at hx02
                have hT8 : T ≤ 8 := by rw [HT.out]; exact HG.out.eight _ (getD_in hhl)
                clear hx
                rcases (show x = 2 ∨ x = 0 ∨ x = 1 by omega) with rfl | rfl | rfl
                · have HX : Hid (∀ l ∈ longOf b ls, hearsB hh k l = true) := (grade_two HG.out).1 hxg.symm
                  clear hxg hx02
                  have hHp := rhears_ok _ F0 hh k wr (hF.call hb) (fun m hm => by rw [HF8.out m hm]; exact hhl)
                  have hpb : hearsB hh k F0 = true := HX.out _ HFM.out
                  rw [hpb] at hHp
                  by_cases hqM : q.length = M
                  · have d9 : ((q.length : Int) == (M : Int)) = true := by rw [beq_iff_eq]; omega
                    have hHq := fun W' (h : Below wr.heap.size wr W') => rhears_ok _ q hh k W' ((hQ.call hb).call h) (fun m hm => by rw [HQ8.out m hm]; exact hhl)
                    have hqb : hearsB hh k q = true := HX.out _ (HQL.out hqM)
                    simp only [hqb] at hHq
                    have HHQ := Lib.hid hHq
                    clear hqM hqb hpb hHq
                    go_wp2_with fail
                    refine hHp.mono ?_
                    rintro e wy ⟨rfl, hby⟩
                    replace hb := hb.trans (hby.mono hb.size)
                    have hc0 := (hby.cell (p := ⟨gb, go + k, none⟩) hgbl).trans hgc
                    clear hHp hgc
                    go_wp2_with fail
                    refine (HHQ.out _ hby).mono ?_
                    rintro e wz ⟨rfl, hbz⟩
                    replace hb := hb.trans (hbz.mono hb.size)
                    have hc1 := (hbz.cell (p := ⟨gb, go + k, none⟩) (Nat.lt_of_lt_of_le hgbl hby.size)).trans hc0
                    clear hc0 hby hbz HHQ
                    go_wp2
                    go_roundw
                    case rel => exact ⟨k + 1, by omega, by go_num, hb⟩
                    case measure => (simp [intOf]; try omega)
                  · have d9 : ((q.length : Int) == (M : Int)) = false := beq_false_of_ne (by omega)
                    clear hqM hpb
                    go_wp2_with fail
                    refine hHp.mono ?_
                    rintro e wy ⟨rfl, hby⟩
                    replace hb := hb.trans (hby.mono hb.size)
                    have hc0 := (hby.cell (p := ⟨gb, go + k, none⟩) hgbl).trans hgc
                    clear hHp hgc
                    go_wp2
                    go_roundw
                    case rel => exact ⟨k + 1, by omega, by go_num, hb⟩
                    case measure => (simp [intOf]; try omega)
                · have HX : Hid (∀ l ∈ longOf b ls, hearsB hh k l = false) := grade_zero.1 hxg.symm
                  clear hxg hx02
                  have hHp := rhears_ok _ F0 hh k wr (hF.call hb) (fun m hm => by rw [HF8.out m hm]; exact hhl)
                  have hpb : hearsB hh k F0 = false := HX.out _ HFM.out
                  rw [hpb] at hHp
                  by_cases hqM : q.length = M
                  · have d9 : ((q.length : Int) == (M : Int)) = true := by rw [beq_iff_eq]; omega
                    have hHq := fun W' (h : Below wr.heap.size wr W') => rhears_ok _ q hh k W' ((hQ.call hb).call h) (fun m hm => by rw [HQ8.out m hm]; exact hhl)
                    have hqb : hearsB hh k q = false := HX.out _ (HQL.out hqM)
                    simp only [hqb] at hHq
                    have HHQ := Lib.hid hHq
                    clear hqM hqb hpb hHq
                    go_wp2_with fail
                    refine hHp.mono ?_
                    rintro e wy ⟨rfl, hby⟩
                    replace hb := hb.trans (hby.mono hb.size)
                    have hc0 := (hby.cell (p := ⟨gb, go + k, none⟩) hgbl).trans hgc
                    clear hHp hgc
                    go_wp2_with fail
                    refine (HHQ.out _ hby).mono ?_
                    rintro e wz ⟨rfl, hbz⟩
                    replace hb := hb.trans (hbz.mono hb.size)
                    have hc1 := (hbz.cell (p := ⟨gb, go + k, none⟩) (Nat.lt_of_lt_of_le hgbl hby.size)).trans hc0
                    clear hc0 hby hbz HHQ
                    go_wp2
                    go_roundw
                    case rel => exact ⟨k + 1, by omega, by go_num, hb⟩
                    case measure => (simp [intOf]; try omega)
                  · have d9 : ((q.length : Int) == (M : Int)) = false := beq_false_of_ne (by omega)
                    clear hqM hpb
                    go_wp2_with fail
                    refine hHp.mono ?_
                    rintro e wy ⟨rfl, hby⟩
                    replace hb := hb.trans (hby.mono hb.size)
                    have hc0 := (hby.cell (p := ⟨gb, go + k, none⟩) hgbl).trans hgc
                    clear hHp hgc
                    go_wp2
                    go_roundw
                    case rel => exact ⟨k + 1, by omega, by go_num, hb⟩
                    case measure => (simp [intOf]; try omega)
                · clear hxg hx02
                  by_cases hqM : q.length = M
                  · have d9 : ((q.length : Int) == (M : Int)) = true := by rw [beq_iff_eq]; omega
                    clear hqM
                    go_wp2
                    go_roundw
                    case rel => exact ⟨k + 1, by omega, by go_num, hb⟩
                    case measure => (simp [intOf]; try omega)
                  · have d9 : ((q.length : Int) == (M : Int)) = false := beq_false_of_ne (by omega)
                    clear hqM
                    go_wp2
                    go_roundw
                    case rel => exact ⟨k + 1, by omega, by go_num, hb⟩
                    case measure => (simp [intOf]; try omega)
              · obtain rfl : T = k := by omega
                have d8 : decide (T < T) = false := by simp
                replace hB := hB.trans (hb.mono hB.size)
                clear hb
                go_wp2_with fail
                refine (works_ok _).mono ?_
                rintro e wz ⟨rfl, hbz⟩
                have hBz := hB.trans (hbz.mono hB.size)
                go_wp2
                try rw [Exit.noGoto_ret]
                go_ret
                exact ⟨rfl, hBz⟩
end Go.Proofs.Ytgngpdnppdbgoaa
