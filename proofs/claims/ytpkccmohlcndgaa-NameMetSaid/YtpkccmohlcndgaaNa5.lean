/- Contract of the law NameMet. -/
import Derived.Test.YtpkccmohlcndgaaNaQM
namespace Go.Proofs.Ytpkccmohlcndgaa
open Go.RowKit Go.Shelf
set_option linter.unusedVariables false

set_option maxRecDepth 100000 in
set_option maxHeartbeats 6400000 in
theorem nmet_ok (v : Value) (l : NL) (b : Nat) (w : World) (hbb : b < 18446744073709551616) (hv : NLV w w.heap.size v l) :
    Calls Try.prog 9 #[v, .int .u64 (b : Int)] w fun r w' => r = .returned (.bool true) ∧ Below w.heap.size w w' := by
  obtain ⟨ka, kc, aa, ac, ba, bc, rfl, hna⟩ := hv
  have hE := NB.new hna
  have hB := (Below.refl w.heap.size w).alloc (Nat.le_refl _) (.cells #[.int .i64 l.n, .slice ka l.links.length kc, .slice aa l.left.length ac, .slice ba l.right.length bc] 25)
  go_enter Try.func9, Try.ntmps9
  go_upto_region 1 with (fail)
  generalize hW : w.alloc (.cells #[.int .i64 l.n, .slice ka l.links.length kc, .slice aa l.left.length ac, .slice ba l.right.length bc] 25) = W at *
  clear hW
  have hfi := lfine_ok _ l W hE.v
  cases hg : fineN l
  · rw [hg] at hfi
    clear hg
    obtain ⟨k0, k1, k2, k3⟩ := hE.blk.c4
    go_wp2_with fail
    refine (hfi).mono ?_
    rintro e w1 hp
    clear k0 k1 k2 k3
    obtain ⟨rfl, hb⟩ := hp
    replace hE := hE.call hb
    replace hB := hB.trans ((hb).mono hB.size)
    clear hfi hb
    go_wp2_with fail
    refine (lworks_ok _).mono ?_
    rintro e wz ⟨rfl, hbz⟩
    have hBz := hB.trans (hbz.mono hB.size)
    go_wp2
    try rw [Exit.noGoto_ret]
    go_ret
    exact ⟨rfl, hBz⟩
  · rw [hg] at hfi
    have hc0 := fineN_iff.1 hg
    have hgd := check_good.1 hc0
    have HC0 := Lib.hid hc0
    have HSD := Lib.hid (show sdsL l = sidesL l from if_pos hc0)
    have hSL := sidesL_len l
    have hlN := lstL_names hgd
    have hlC := lstC_eq hgd
    clear hg hc0
    obtain ⟨k0, k1, k2, k3⟩ := hE.blk.c4
    go_wp2_with fail
    refine (hfi).mono ?_
    rintro e w1 hp
    clear k0 k1 k2 k3
    obtain ⟨rfl, hb⟩ := hp
    replace hE := hE.call hb
    replace hB := hB.trans ((hb).mono hB.size)
    clear hfi hb
    have h1 := least_ok _ l w1 hE.v
    rw [hlN, hlC, HC0.out] at h1
    obtain ⟨k0, k1, k2, k3⟩ := hE.blk.c4
    go_wp2_with fail
    refine (h1).mono ?_
    rintro e w2 hp
    clear k0 k1 k2 k3
    obtain ⟨lv, rfl, hL, hb⟩ := hp
    obtain ⟨lA, lc, rfl, -⟩ := id hL
    replace hE := hE.call hb
    replace hB := hB.trans ((hb).mono hB.size)
    clear hb h1 hlN hlC
    have h1 := sides_ok _ l w2 hE.v
    rw [HSD.out, HC0.out] at h1
    obtain ⟨k0, k1, k2, k3⟩ := hE.blk.c4
    go_wp2_with fail
    refine (h1).mono ?_
    rintro e w3 hp
    clear k0 k1 k2 k3
    obtain ⟨kv, rfl, hK, hb⟩ := hp
    obtain ⟨kA, kcc, rfl, -⟩ := id hK
    replace hE := hE.call hb
    replace hB := hB.trans ((hb).mono hB.size)
    replace hL := hL.call hb
    clear hb h1
    rw [hSL] at hK ⊢
    have hblk := hE.blk
    rw [← hgd.nN] at hblk
    have hN40 : l.N ≤ 40 := by have := hgd.forty; have := hgd.nN; omega
    have e1 : ((l.N : Int) != (l.N : Int)) = false := by simp
    have HKL := Lib.hid hSL
    have HIA := Lib.hid hgd.inA
    have HIB := Lib.hid hgd.inB
    have HLA := Lib.hid (fun u (h : l.A u = true) => (least_side hgd).1.1 u h)
    have HMB := Lib.hid (fun u (h : l.B u = true) => (most_side hgd).1.2 u h)
    have HLM := Lib.hid (fun u (h : leastB l u = true) => least_most2 hgd h)
    have HAT := Lib.hid (fun k (h : k < l.N) => sides_at l h)
    clear hSL
    obtain ⟨k0, k1, k2, k3⟩ := hblk.c4
    go_upto_region 8 with (fail)
    clear e1
    have hnil := RowN.nil_ w3 w3.heap.size
    have hR0 : Rows3 w3 w3.heap.size (.slice none 0 0) (.slice none 0 0) (.slice none 0 0) 0 0 0 (selTo (leastB l) 0) (selTo (mostB l) 0) (selTo (givenB l b) 0) := ⟨hnil, hnil, hnil, apart_nil _, apart_nil _, apart_nil _⟩
    clear hnil k0 k1 k2 k3
    go_wp2
    go_loopw [10, 11, 12, 13] (fun x y z i wr => ∃ (k nx ny nz : Nat) (xA : Option Addr) (xc : Nat) (yA : Option Addr) (yc : Nat) (zA : Option Addr) (zc : Nat), k ≤ l.N ∧ i = .int .i64 k ∧ x = .slice xA nx xc ∧ y = .slice yA ny yc ∧ z = .slice zA nz zc ∧ Rows3 wr w3.heap.size (.slice xA nx xc) (.slice yA ny yc) (.slice zA nz zc) nx ny nz (selTo (leastB l) k) (selTo (mostB l) k) (selTo (givenB l b) k) ∧ Below w3.heap.size w3 wr) (fun _ _ _ i _ => l.N - (intOf i).toNat)
    case atStart => exact ⟨0, 0, 0, 0, none, 0, none, 0, none, 0, Nat.zero_le _, rfl, rfl, rfl, rfl, hR0, Below.refl _ _⟩
    case round =>
      clear hR0
      obtain ⟨k, nx, ny, nz, xA, xc, yA, yc, zA, zc, hk, rfl, rfl, rfl, rfl, hR, hbr⟩ := hrel
      obtain ⟨k0, k1, k2, k3⟩ := (hblk.call hbr).c4
      by_cases hlt : k < l.N
      · have d1 : decide (k < l.N) = true := decide_eq_true hlt
        have d1' : decide ((k : Int) < (l.N : Int)) = true := decide_eq_true (by omega)
        have hki : (k : Int) < (l.N : Int) := by omega
        have hEr := hE.call hbr
        have hia := rin_ok _ l.left (k : Int) wr hEr.na.as_
        have hib := rin_ok _ l.right (k : Int) wr hEr.na.bs
        rw [HIA.out] at hia
        rw [HIB.out] at hib
        have HSV := Lib.hid (HAT.out k hlt)
        obtain ⟨sb, so, y, rfl, hsb, hy, c0⟩ := numx_at (hK.call hbr) (k := k) (by rw [HKL.out]; exact hlt)
        rw [HSV.out] at hy
        injection hy with hy
        subst hy
        clear hEr
        have hnx : nx ≤ k := by rw [hR.ox.2]; exact selTo_len _ _
        have hny : ny ≤ k := by rw [hR.oy.2]; exact selTo_len _ _
        have hnz : nz ≤ k := by rw [hR.oz.2]; exact selTo_len _ _
        cases hl1 : leastB l k
        · have ha : l.A k = false := by
            cases ha : l.A k
            · rfl
            · have := HLA.out k ha
              rw [hl1] at this
              cases this
          rw [ha] at hia
          cases hm1 : mostB l k
          · have hs : sideV l k = -1 := by unfold sideV; rw [hl1, hm1]; rfl
            have hgi : givenB l b k = false := by unfold givenB; rw [hl1, hm1]; rfl
            rw [hs] at c0 HSV
            rw [← selTo_no hl1, ← selTo_no hm1, ← selTo_no hgi] at hR
            clear hs hgi hl1 hm1 ha
            cases hb0 : l.B k
            · rw [hb0] at hib
              clear hb0
              go_wp2_with fail
              refine hia.mono ?_
              rintro e wx ⟨rfl, rfl⟩
              clear hia
              go_wp2_with fail
              refine hib.mono ?_
              rintro e wy ⟨rfl, rfl⟩
              clear hib
              go_wp2
              go_roundw
              case rel => exact ⟨k + 1, _, _, _, _, _, _, _, _, _, by omega, by go_num, rfl, rfl, rfl, hR, hbr⟩
              case measure => (simp [intOf]; try omega)
            · rw [hb0] at hib
              clear hb0
              go_wp2_with fail
              refine hia.mono ?_
              rintro e wx ⟨rfl, rfl⟩
              clear hia
              go_wp2_with fail
              refine hib.mono ?_
              rintro e wy ⟨rfl, rfl⟩
              clear hib
              go_wp2
              go_roundw
              case rel => exact ⟨k + 1, _, _, _, _, _, _, _, _, _, by omega, by go_num, rfl, rfl, rfl, hR, hbr⟩
              case measure => (simp [intOf]; try omega)
          · have hs : sideV l k = 0 := by unfold sideV; rw [hl1, hm1]; rfl
            rw [hs] at c0 HSV
            have hb0 : l.B k = false := by
              cases hb0 : l.B k
              · rfl
              · have := HMB.out k hb0
                rw [hm1] at this
                cases this
            rw [hb0] at hib
            have hbt := bit_u64B b k hbb
            cases hbi : bitB b k
            · have hgi : givenB l b k = false := by unfold givenB; rw [hl1, hm1, hbi]; rfl
              rw [hbi] at hbt
              have HY := Lib.hid (selTo_yes hm1)
              rw [← selTo_no hl1, ← selTo_no hgi] at hR
              clear hs hgi hl1 hm1 ha hb0 hbi
              go_wp2_with fail
              refine hia.mono ?_
              rintro e wx ⟨rfl, rfl⟩
              clear hia
              go_wp2_with fail
              refine hib.mono ?_
              rintro e wy ⟨rfl, rfl⟩
              clear hib
              have hsz := hbr.size
              go_wp2_with (at_builtin; refine wpList_app2 slT_int rfl (.tmp 119) (.tmp 121) rfl (sv := .slice yA ny yc) rfl hR.oy.1 rfl rfl one_1 hsz ?_ ?_ ?_)
              any_goals omega
              intro v4 w4 hown4 hg4 hat4
              replace hbr := hbr.trans (hR.oy.below hg4 hsz)
              replace hR := hR.app2 (k := k) hown4 hg4 hat4
              clear hsz hown4 hg4 hat4
              obtain ⟨yA, yc, rfl⟩ := hR.oy.form
              rw [← HY.out] at hR
              clear c0
              obtain ⟨sb2, so2, y, hq2, hsb2, hy, c0⟩ := numx_at (hK.call hbr) (k := k) (by rw [HKL.out]; exact hlt)
              obtain ⟨rfl, rfl⟩ : sb = sb2 ∧ so = so2 := by simpa using hq2
              rw [HSV.out] at hy
              injection hy with hy
              subst hy
              clear hq2 hsb2
              go_wp2
              go_roundw
              case rel => exact ⟨k + 1, _, _, _, _, _, _, _, _, _, by omega, by go_num, rfl, rfl, rfl, hR, hbr⟩
              case measure => (simp [intOf]; try omega)
            · have hgi : givenB l b k = true := by unfold givenB; rw [hl1, hm1, hbi]; rfl
              rw [hbi] at hbt
              have HY := Lib.hid (selTo_yes hm1)
              have HZ := Lib.hid (selTo_yes hgi)
              rw [← selTo_no hl1] at hR
              clear hs hgi hl1 hm1 ha hb0 hbi
              go_wp2_with fail
              refine hia.mono ?_
              rintro e wx ⟨rfl, rfl⟩
              clear hia
              go_wp2_with fail
              refine hib.mono ?_
              rintro e wy ⟨rfl, rfl⟩
              clear hib
              have hsz := hbr.size
              go_wp2_with (at_builtin; refine wpList_app2 slT_int rfl (.tmp 119) (.tmp 121) rfl (sv := .slice yA ny yc) rfl hR.oy.1 rfl rfl one_1 hsz ?_ ?_ ?_)
              any_goals omega
              intro v4 w4 hown4 hg4 hat4
              replace hbr := hbr.trans (hR.oy.below hg4 hsz)
              replace hR := hR.app2 (k := k) hown4 hg4 hat4
              clear hsz hown4 hg4 hat4
              obtain ⟨yA, yc, rfl⟩ := hR.oy.form
              rw [← HY.out] at hR
              clear c0
              obtain ⟨sb2, so2, y, hq2, hsb2, hy, c0⟩ := numx_at (hK.call hbr) (k := k) (by rw [HKL.out]; exact hlt)
              obtain ⟨rfl, rfl⟩ : sb = sb2 ∧ so = so2 := by simpa using hq2
              rw [HSV.out] at hy
              injection hy with hy
              subst hy
              clear hq2 hsb2
              have hsz := hbr.size
              go_wp2_with (at_builtin; refine wpList_app2 slT_int rfl (.tmp 142) (.tmp 144) rfl (sv := .slice zA nz zc) rfl hR.oz.1 rfl rfl one_1 hsz ?_ ?_ ?_)
              any_goals omega
              intro v4 w4 hown4 hg4 hat4
              replace hbr := hbr.trans (hR.oz.below hg4 hsz)
              replace hR := hR.app3 (k := k) hown4 hg4 hat4
              clear hsz hown4 hg4 hat4
              obtain ⟨zA, zc, rfl⟩ := hR.oz.form
              rw [← HZ.out] at hR
              clear c0
              go_wp2
              go_roundw
              case rel => exact ⟨k + 1, _, _, _, _, _, _, _, _, _, by omega, by go_num, rfl, rfl, rfl, hR, hbr⟩
              case measure => (simp [intOf]; try omega)
        · have hm1 := HLM.out k hl1
          have hs : sideV l k = 1 := by unfold sideV; rw [hl1]; rfl
          have hgi : givenB l b k = true := by unfold givenB; rw [hl1]; rfl
          rw [hs] at c0 HSV
          have hb0 : l.B k = false := by
            cases hb0 : l.B k
            · rfl
            · have := HMB.out k hb0
              rw [hm1] at this
              cases this
          rw [hb0] at hib
          have HX := Lib.hid (selTo_yes hl1)
          have HY := Lib.hid (selTo_yes hm1)
          have HZ := Lib.hid (selTo_yes hgi)
          clear hs hgi hl1 hm1 hb0
          cases ha : l.A k
          · rw [ha] at hia
            clear ha
            go_wp2_with fail
            refine hia.mono ?_
            rintro e wx ⟨rfl, rfl⟩
            clear hia
            go_wp2_with fail
            refine hib.mono ?_
            rintro e wy ⟨rfl, rfl⟩
            clear hib
            have hsz := hbr.size
            go_wp2_with (at_builtin; refine wpList_app2 slT_int rfl (.tmp 110) (.tmp 112) rfl (sv := .slice xA nx xc) rfl hR.ox.1 rfl rfl one_1 hsz ?_ ?_ ?_)
            any_goals omega
            intro v4 w4 hown4 hg4 hat4
            replace hbr := hbr.trans (hR.ox.below hg4 hsz)
            replace hR := hR.app1 (k := k) hown4 hg4 hat4
            clear hsz hown4 hg4 hat4
            obtain ⟨xA, xc, rfl⟩ := hR.ox.form
            rw [← HX.out] at hR
            clear c0
            obtain ⟨sb2, so2, y, hq2, hsb2, hy, c0⟩ := numx_at (hK.call hbr) (k := k) (by rw [HKL.out]; exact hlt)
            obtain ⟨rfl, rfl⟩ : sb = sb2 ∧ so = so2 := by simpa using hq2
            rw [HSV.out] at hy
            injection hy with hy
            subst hy
            clear hq2 hsb2
            have hsz := hbr.size
            go_wp2_with (at_builtin; refine wpList_app2 slT_int rfl (.tmp 119) (.tmp 121) rfl (sv := .slice yA ny yc) rfl hR.oy.1 rfl rfl one_1 hsz ?_ ?_ ?_)
            any_goals omega
            intro v4 w4 hown4 hg4 hat4
            replace hbr := hbr.trans (hR.oy.below hg4 hsz)
            replace hR := hR.app2 (k := k) hown4 hg4 hat4
            clear hsz hown4 hg4 hat4
            obtain ⟨yA, yc, rfl⟩ := hR.oy.form
            rw [← HY.out] at hR
            clear c0
            obtain ⟨sb2, so2, y, hq2, hsb2, hy, c0⟩ := numx_at (hK.call hbr) (k := k) (by rw [HKL.out]; exact hlt)
            obtain ⟨rfl, rfl⟩ : sb = sb2 ∧ so = so2 := by simpa using hq2
            rw [HSV.out] at hy
            injection hy with hy
            subst hy
            clear hq2 hsb2
            have hsz := hbr.size
            go_wp2_with (at_builtin; refine wpList_app2 slT_int rfl (.tmp 142) (.tmp 144) rfl (sv := .slice zA nz zc) rfl hR.oz.1 rfl rfl one_1 hsz ?_ ?_ ?_)
            any_goals omega
            intro v4 w4 hown4 hg4 hat4
            replace hbr := hbr.trans (hR.oz.below hg4 hsz)
            replace hR := hR.app3 (k := k) hown4 hg4 hat4
            clear hsz hown4 hg4 hat4
            obtain ⟨zA, zc, rfl⟩ := hR.oz.form
            rw [← HZ.out] at hR
            clear c0
            go_wp2
            go_roundw
            case rel => exact ⟨k + 1, _, _, _, _, _, _, _, _, _, by omega, by go_num, rfl, rfl, rfl, hR, hbr⟩
            case measure => (simp [intOf]; try omega)
          · rw [ha] at hia
            clear ha
            go_wp2_with fail
            refine hia.mono ?_
            rintro e wx ⟨rfl, rfl⟩
            clear hia
            go_wp2_with fail
            refine hib.mono ?_
            rintro e wy ⟨rfl, rfl⟩
            clear hib
            have hsz := hbr.size
            go_wp2_with (at_builtin; refine wpList_app2 slT_int rfl (.tmp 110) (.tmp 112) rfl (sv := .slice xA nx xc) rfl hR.ox.1 rfl rfl one_1 hsz ?_ ?_ ?_)
            any_goals omega
            intro v4 w4 hown4 hg4 hat4
            replace hbr := hbr.trans (hR.ox.below hg4 hsz)
            replace hR := hR.app1 (k := k) hown4 hg4 hat4
            clear hsz hown4 hg4 hat4
            obtain ⟨xA, xc, rfl⟩ := hR.ox.form
            rw [← HX.out] at hR
            clear c0
            obtain ⟨sb2, so2, y, hq2, hsb2, hy, c0⟩ := numx_at (hK.call hbr) (k := k) (by rw [HKL.out]; exact hlt)
            obtain ⟨rfl, rfl⟩ : sb = sb2 ∧ so = so2 := by simpa using hq2
            rw [HSV.out] at hy
            injection hy with hy
            subst hy
            clear hq2 hsb2
            have hsz := hbr.size
            go_wp2_with (at_builtin; refine wpList_app2 slT_int rfl (.tmp 119) (.tmp 121) rfl (sv := .slice yA ny yc) rfl hR.oy.1 rfl rfl one_1 hsz ?_ ?_ ?_)
            any_goals omega
            intro v4 w4 hown4 hg4 hat4
            replace hbr := hbr.trans (hR.oy.below hg4 hsz)
            replace hR := hR.app2 (k := k) hown4 hg4 hat4
            clear hsz hown4 hg4 hat4
            obtain ⟨yA, yc, rfl⟩ := hR.oy.form
            rw [← HY.out] at hR
            clear c0
            obtain ⟨sb2, so2, y, hq2, hsb2, hy, c0⟩ := numx_at (hK.call hbr) (k := k) (by rw [HKL.out]; exact hlt)
            obtain ⟨rfl, rfl⟩ : sb = sb2 ∧ so = so2 := by simpa using hq2
            rw [HSV.out] at hy
            injection hy with hy
            subst hy
            clear hq2 hsb2
            have hsz := hbr.size
            go_wp2_with (at_builtin; refine wpList_app2 slT_int rfl (.tmp 142) (.tmp 144) rfl (sv := .slice zA nz zc) rfl hR.oz.1 rfl rfl one_1 hsz ?_ ?_ ?_)
            any_goals omega
            intro v4 w4 hown4 hg4 hat4
            replace hbr := hbr.trans (hR.oz.below hg4 hsz)
            replace hR := hR.app3 (k := k) hown4 hg4 hat4
            clear hsz hown4 hg4 hat4
            obtain ⟨zA, zc, rfl⟩ := hR.oz.form
            rw [← HZ.out] at hR
            clear c0
            go_wp2
            go_roundw
            case rel => exact ⟨k + 1, _, _, _, _, _, _, _, _, _, by omega, by go_num, rfl, rfl, rfl, hR, hbr⟩
            case measure => (simp [intOf]; try omega)
      · obtain rfl : k = l.N := by omega
        have d1 : decide (l.N < l.N) = false := by simp
        have hA1 := hR.ox.arr
        have hA2 := hR.oy.arr
        have hA3 := hR.oz.arr
        have ex : nx = (intL (selTo (leastB l) l.N)).length := by rw [hR.ox.2]; simp [intL]
        have ey : ny = (intL (selTo (mostB l) l.N)).length := by rw [hR.oy.2]; simp [intL]
        have ez : nz = (intL (selTo (givenB l b) l.N)).length := by rw [hR.oz.2]; simp [intL]
        rw [ex, ey, ez]
        clear hR ex ey ez
        replace hE := hE.call hbr
        replace hB := hB.trans (hbr.mono hB.size)
        replace hL := hL.call hbr
        replace hblk : Blk wr w.heap.size 25 _ := hblk.call hbr
        clear k0 k1 k2 k3 hbr hK
        obtain ⟨w4, hw4⟩ : ∃ w4 : World, w4 = wr := ⟨_, rfl⟩
        rw [← hw4] at hA1 hA2 hA3 hE hB hL hblk ⊢
        clear hw4
        have HCM := Lib.hid (cut_names hgd (most_side hgd).1)
        have HCG := Lib.hid (cut_names hgd (given_side hgd b))
        have HCS := Lib.hid (cut_names hgd (on_side hgd b))
        obtain ⟨hco1, hco2⟩ := common_le hgd b
        obtain ⟨hto1, hto2⟩ := together_le hgd b
        have HCC := Lib.hid (cut_names hgd hco1)
        have HCT := Lib.hid (cut_names hgd hto1)
        have hgl := cost_le hgd (given_side hgd b)
        have HMO := Lib.hid (cost_most hgd)
        rw [HMO.out] at HCM
        have HSU := Lib.hid (sideU_names l b)
        clear hco1 hto1 HMO
        have h1 := cut_ok _ _ l (intL (namesOf l (mostB l))) w4 hE.v hA2
        rw [HCM.out.1, HCM.out.2.1] at h1
        obtain ⟨k0, k1, k2, k3⟩ := hblk.c4
        go_upto_region 19 with (fail)
        clear k0 k1 k2 k3
        obtain ⟨k0, k1, k2, k3⟩ := hE.blk.c4
        go_wp2_with fail
        refine (h1).mono ?_
        rintro e w5 hp
        clear k0 k1 k2 k3
        obtain ⟨cv, rfl, -, hb⟩ := hp
        replace hE := hE.call hb
        replace hB := hB.trans ((hb).mono hB.size)
        replace hA1 := hA1.call hb
        replace hA2 := hA2.call hb
        replace hA3 := hA3.call hb
        replace hL := hL.call hb
        replace hblk : Blk w5 w.heap.size 25 _ := hblk.call hb
        clear hb h1
        have e1 : (costL l != costL l) = false := by simp
        have h1 := cut_ok _ _ l (intL (namesOf l (givenB l b))) w5 hE.v hA3
        rw [HCG.out.1, HCG.out.2.1] at h1
        have h2 := intsT _ _ (intL (namesOf l (leastB l))) w5 hA1 hL
        go_wp2_with fail
        refine h2.mono ?_
        rintro e w6 ⟨rfl, hb⟩
        replace hE := hE.call hb
        replace hB := hB.trans ((hb).mono hB.size)
        replace hA1 := hA1.call hb
        replace hA2 := hA2.call hb
        replace hA3 := hA3.call hb
        replace hblk : Blk w6 w.heap.size 25 _ := hblk.call hb
        clear hb h1 h2 hL e1
        have h1 := cut_ok _ _ l (intL (namesOf l (givenB l b))) w6 hE.v hA3
        rw [HCG.out.1, HCG.out.2.1] at h1
        have e1 : decide (cutC l.L (givenB l b) < costL l) = false := decide_eq_false (by omega)
        clear hgl HCG HCM
        generalize cutC l.L (givenB l b) = cg at *
        generalize costL l = cl at *
        obtain ⟨k0, k1, k2, k3⟩ := hE.blk.c4
        go_wp2_with fail
        refine (h1).mono ?_
        rintro e w7 hp
        clear k0 k1 k2 k3
        obtain ⟨cv2, rfl, -, hb⟩ := hp
        replace hE := hE.call hb
        replace hB := hB.trans ((hb).mono hB.size)
        replace hA1 := hA1.call hb
        replace hA2 := hA2.call hb
        replace hblk : Blk w7 w.heap.size 25 _ := hblk.call hb
        clear hb h1 hA3
        have h1 := lside_ok _ l b w7 hgd hbb hE.v
        rw [HSU.out] at h1
        obtain ⟨k0, k1, k2, k3⟩ := hE.blk.c4
        go_wp2_with fail
        refine (h1).mono ?_
        rintro e w8 hp
        clear k0 k1 k2 k3
        obtain ⟨sv, rfl, hS, hb⟩ := hp
        obtain ⟨sA, sc, rfl, -⟩ := id hS
        replace hE := hE.call hb
        replace hB := hB.trans ((hb).mono hB.size)
        replace hA1 := hA1.call hb
        replace hA2 := hA2.call hb
        replace hblk : Blk w8 w.heap.size 25 _ := hblk.call hb
        clear hb h1 e1
        rw [← selTo_all] at hS ⊢
        have hnil := RowN.nil_ w8 w8.heap.size
        have hR0 : Rows3 w8 w8.heap.size (.slice none 0 0) (.slice none 0 0) (.slice none 0 0) 0 0 0 (selTo (fun u => onSide l b u && mostB l u) 0) (selTo (fun u => onSide l b u || leastB l u) 0) [] := ⟨hnil, hnil, hnil, apart_nil _, apart_nil _, apart_nil _⟩
        clear hnil
        go_wp2
        go_loopw [21, 22, 23] (fun x y i wr => ∃ (k nx ny : Nat) (xA : Option Addr) (xc : Nat) (yA : Option Addr) (yc : Nat), k ≤ l.N ∧ i = .int .i64 k ∧ x = .slice xA nx xc ∧ y = .slice yA ny yc ∧ Rows3 wr w8.heap.size (.slice xA nx xc) (.slice yA ny yc) (.slice none 0 0) nx ny 0 (selTo (fun u => onSide l b u && mostB l u) k) (selTo (fun u => onSide l b u || leastB l u) k) [] ∧ Below w8.heap.size w8 wr) (fun _ _ i _ => l.N - (intOf i).toNat)
        case atStart => exact ⟨0, 0, 0, none, 0, none, 0, Nat.zero_le _, rfl, rfl, rfl, hR0, Below.refl _ _⟩
        case round =>
          clear hR0
          obtain ⟨k, nx, ny, xA, xc, yA, yc, hk, rfl, rfl, rfl, hR, hbr⟩ := hrel
          obtain ⟨k0, k1, k2, k3⟩ := (Blk.call hblk hbr).c4
          by_cases hlt : k < l.N
          · have d1 : decide (k < l.N) = true := decide_eq_true hlt
            have d1' : decide ((k : Int) < (l.N : Int)) = true := decide_eq_true (by omega)
            have hnx : nx ≤ k := by rw [hR.ox.2]; exact selTo_len _ _
            have hny : ny ≤ k := by rw [hR.oy.2]; exact selTo_len _ _
            cases hos : onSide l b k
            · cases hl1 : leastB l k
              · have hp1 : (fun u => onSide l b u && mostB l u) k = false := by simp [hos]
                have hp2 : (fun u => onSide l b u || leastB l u) k = false := by simp [hos, hl1]
                rw [← selTo_no (p := fun u => onSide l b u && mostB l u) hp1, ← selTo_no (p := fun u => onSide l b u || leastB l u) hp2] at hR
                clear hp1 hp2
                have hin := rin_ok _ _ (k : Int) _ (hS.call hbr)
                rw [selTo_in _ hlt, hos] at hin
                go_wp2_with fail
                refine hin.mono ?_
                rintro e wx ⟨rfl, rfl⟩
                clear hin
                have hin := rin_ok _ _ (k : Int) _ (hS.call hbr)
                rw [selTo_in _ hlt, hos] at hin
                go_wp2_with fail
                refine hin.mono ?_
                rintro e wx ⟨rfl, rfl⟩
                clear hin
                have hin := rin_ok _ _ (k : Int) _ (hA1.call hbr)
                rw [selTo_in _ hlt, hl1] at hin
                go_wp2_with fail
                refine hin.mono ?_
                rintro e wx ⟨rfl, rfl⟩
                clear hin
                go_wp2
                go_roundw
                case rel => exact ⟨k + 1, _, _, _, _, _, _, by omega, by go_num, rfl, rfl, hR, hbr⟩
                case measure => (simp [intOf]; try omega)
              · have hp1 : (fun u => onSide l b u && mostB l u) k = false := by simp [hos]
                have hp2 : (fun u => onSide l b u || leastB l u) k = true := by simp [hos, hl1]
                have HY := Lib.hid (selTo_yes (p := fun u => onSide l b u || leastB l u) hp2)
                rw [← selTo_no (p := fun u => onSide l b u && mostB l u) hp1] at hR
                clear hp1 hp2
                have hin := rin_ok _ _ (k : Int) _ (hS.call hbr)
                rw [selTo_in _ hlt, hos] at hin
                go_wp2_with fail
                refine hin.mono ?_
                rintro e wx ⟨rfl, rfl⟩
                clear hin
                have hin := rin_ok _ _ (k : Int) _ (hS.call hbr)
                rw [selTo_in _ hlt, hos] at hin
                go_wp2_with fail
                refine hin.mono ?_
                rintro e wx ⟨rfl, rfl⟩
                clear hin
                have hin := rin_ok _ _ (k : Int) _ (hA1.call hbr)
                rw [selTo_in _ hlt, hl1] at hin
                go_wp2_with fail
                refine hin.mono ?_
                rintro e wx ⟨rfl, rfl⟩
                clear hin
                have hsz := hbr.size
                go_wp2_with (at_builtin; refine wpList_app2 slT_int rfl (.tmp 209) (.tmp 211) rfl (sv := .slice yA ny yc) rfl hR.oy.1 rfl rfl one_1 hsz ?_ ?_ ?_)
                any_goals omega
                intro v4 w4 hown4 hg4 hat4
                replace hbr := hbr.trans (hR.oy.below hg4 hsz)
                replace hR := hR.app2 (k := k) hown4 hg4 hat4
                clear hsz hown4 hg4 hat4
                obtain ⟨yA, yc, rfl⟩ := hR.oy.form
                rw [← HY.out] at hR
                go_wp2
                go_roundw
                case rel => exact ⟨k + 1, _, _, _, _, _, _, by omega, by go_num, rfl, rfl, hR, hbr⟩
                case measure => (simp [intOf]; try omega)
            · have hp2 : (fun u => onSide l b u || leastB l u) k = true := by simp [hos]
              have HY := Lib.hid (selTo_yes (p := fun u => onSide l b u || leastB l u) hp2)
              cases hm1 : mostB l k
              · have hp1 : (fun u => onSide l b u && mostB l u) k = false := by simp [hos, hm1]
                rw [← selTo_no (p := fun u => onSide l b u && mostB l u) hp1] at hR
                clear hp1 hp2
                have hin := rin_ok _ _ (k : Int) _ (hS.call hbr)
                rw [selTo_in _ hlt, hos] at hin
                go_wp2_with fail
                refine hin.mono ?_
                rintro e wx ⟨rfl, rfl⟩
                clear hin
                have hin := rin_ok _ _ (k : Int) _ (hA2.call hbr)
                rw [selTo_in _ hlt, hm1] at hin
                go_wp2_with fail
                refine hin.mono ?_
                rintro e wx ⟨rfl, rfl⟩
                clear hin
                have hin := rin_ok _ _ (k : Int) _ (hS.call hbr)
                rw [selTo_in _ hlt, hos] at hin
                go_wp2_with fail
                refine hin.mono ?_
                rintro e wx ⟨rfl, rfl⟩
                clear hin
                have hsz := hbr.size
                go_wp2_with (at_builtin; refine wpList_app2 slT_int rfl (.tmp 209) (.tmp 211) rfl (sv := .slice yA ny yc) rfl hR.oy.1 rfl rfl one_1 hsz ?_ ?_ ?_)
                any_goals omega
                intro v4 w4 hown4 hg4 hat4
                replace hbr := hbr.trans (hR.oy.below hg4 hsz)
                replace hR := hR.app2 (k := k) hown4 hg4 hat4
                clear hsz hown4 hg4 hat4
                obtain ⟨yA, yc, rfl⟩ := hR.oy.form
                rw [← HY.out] at hR
                go_wp2
                go_roundw
                case rel => exact ⟨k + 1, _, _, _, _, _, _, by omega, by go_num, rfl, rfl, hR, hbr⟩
                case measure => (simp [intOf]; try omega)
              · have hp1 : (fun u => onSide l b u && mostB l u) k = true := by simp [hos, hm1]
                have HX := Lib.hid (selTo_yes (p := fun u => onSide l b u && mostB l u) hp1)
                clear hp1 hp2
                have hin := rin_ok _ _ (k : Int) _ (hS.call hbr)
                rw [selTo_in _ hlt, hos] at hin
                go_wp2_with fail
                refine hin.mono ?_
                rintro e wx ⟨rfl, rfl⟩
                clear hin
                have hin := rin_ok _ _ (k : Int) _ (hA2.call hbr)
                rw [selTo_in _ hlt, hm1] at hin
                go_wp2_with fail
                refine hin.mono ?_
                rintro e wx ⟨rfl, rfl⟩
                clear hin
                have hsz := hbr.size
                go_wp2_with (at_builtin; refine wpList_app2 slT_int rfl (.tmp 197) (.tmp 199) rfl (sv := .slice xA nx xc) rfl hR.ox.1 rfl rfl one_1 hsz ?_ ?_ ?_)
                any_goals omega
                intro v4 w4 hown4 hg4 hat4
                replace hbr := hbr.trans (hR.ox.below hg4 hsz)
                replace hR := hR.app1 (k := k) hown4 hg4 hat4
                clear hsz hown4 hg4 hat4
                obtain ⟨xA, xc, rfl⟩ := hR.ox.form
                rw [← HX.out] at hR
                have hin := rin_ok _ _ (k : Int) _ (hS.call hbr)
                rw [selTo_in _ hlt, hos] at hin
                go_wp2_with fail
                refine hin.mono ?_
                rintro e wx ⟨rfl, rfl⟩
                clear hin
                have hsz := hbr.size
                go_wp2_with (at_builtin; refine wpList_app2 slT_int rfl (.tmp 209) (.tmp 211) rfl (sv := .slice yA ny yc) rfl hR.oy.1 rfl rfl one_1 hsz ?_ ?_ ?_)
                any_goals omega
                intro v4 w4 hown4 hg4 hat4
                replace hbr := hbr.trans (hR.oy.below hg4 hsz)
                replace hR := hR.app2 (k := k) hown4 hg4 hat4
                clear hsz hown4 hg4 hat4
                obtain ⟨yA, yc, rfl⟩ := hR.oy.form
                rw [← HY.out] at hR
                go_wp2
                go_roundw
                case rel => exact ⟨k + 1, _, _, _, _, _, _, by omega, by go_num, rfl, rfl, hR, hbr⟩
                case measure => (simp [intOf]; try omega)
          · obtain rfl : k = l.N := by omega
            have d1 : decide (l.N < l.N) = false := by simp
            have hC1 := hR.ox.arr
            have hC2 := hR.oy.arr
            have ex : nx = (intL (selTo (fun u => onSide l b u && mostB l u) l.N)).length := by rw [hR.ox.2]; simp [intL]
            have ey : ny = (intL (selTo (fun u => onSide l b u || leastB l u) l.N)).length := by rw [hR.oy.2]; simp [intL]
            rw [ex, ey]
            clear hR ex ey
            go_upto_region 34 with (fail)
            replace hE := hE.call hbr
            replace hB := hB.trans (hbr.mono hB.size)
            replace hS := hS.call hbr
            clear k0 k1 k2 k3 hbr hA1 hA2 hblk
            obtain ⟨w9, hw9⟩ : ∃ w9 : World, w9 = wr := ⟨_, rfl⟩
            rw [← hw9] at hC1 hC2 hE hB hS ⊢
            clear hw9
            have e2 : decide ((cutC l.L fun u => onSide l b u && mostB l u) ≤ cutC l.L (onSide l b)) = true := decide_eq_true hco2
            have e3 : decide ((cutC l.L fun u => onSide l b u || leastB l u) ≤ cutC l.L (onSide l b)) = true := decide_eq_true hto2
            have h1 := cut_ok _ _ l (intL (namesOf l (onSide l b))) w9 hE.v hS
            rw [HCS.out.1, HCS.out.2.1] at h1
            obtain ⟨k0, k1, k2, k3⟩ := hE.blk.c4
            go_wp2_with fail
            refine (h1).mono ?_
            rintro e w10 hp
            clear k0 k1 k2 k3
            obtain ⟨cv3, rfl, -, hb⟩ := hp
            replace hE := hE.call hb
            replace hB := hB.trans ((hb).mono hB.size)
            replace hC1 := hC1.call hb
            replace hC2 := hC2.call hb
            clear hb h1 hS
            have h1 := cut_ok _ _ l (intL (namesOf l fun u => onSide l b u && mostB l u)) w10 hE.v hC1
            rw [HCC.out.1, HCC.out.2.1] at h1
            obtain ⟨k0, k1, k2, k3⟩ := hE.blk.c4
            go_wp2_with fail
            refine (h1).mono ?_
            rintro e w11 hp
            clear k0 k1 k2 k3
            obtain ⟨cv4, rfl, -, hb⟩ := hp
            replace hE := hE.call hb
            replace hB := hB.trans ((hb).mono hB.size)
            replace hC2 := hC2.call hb
            clear hb h1 hC1
            have h1 := cut_ok _ _ l (intL (namesOf l fun u => onSide l b u || leastB l u)) w11 hE.v hC2
            rw [HCT.out.1, HCT.out.2.1] at h1
            obtain ⟨k0, k1, k2, k3⟩ := hE.blk.c4
            go_wp2_with fail
            refine (h1).mono ?_
            rintro e w12 hp
            clear k0 k1 k2 k3
            obtain ⟨cv5, rfl, -, hb⟩ := hp
            replace hE := hE.call hb
            replace hB := hB.trans ((hb).mono hB.size)
            clear hb h1 hC2
            go_wp2_with fail
            refine (lworks_ok _).mono ?_
            rintro e wz ⟨rfl, hbz⟩
            have hBz := hB.trans (hbz.mono hB.size)
            go_wp2
            try rw [Exit.noGoto_ret]
            go_ret
            exact ⟨rfl, hBz⟩
end Go.Proofs.Ytpkccmohlcndgaa
