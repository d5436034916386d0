/- Contract of the law WordAlike. -/
import Derived.Test.YtgngpdnppdbgoaaVal
import Derived.Test.YtgngpdnppdbgoaaLawQ
namespace Go.Proofs.Ytgngpdnppdbgoaa
open Go.RowKit Go.Shelf
set_option linter.unusedVariables false

theorem alikeM_good {b : List (Int × Int)} {x y : Int} (h0 : checkBook b = 0) (hx : isWordB x = true) (hy : isWordB y = true) : alikeM b x y = (likeB b x y, 0) := by
  unfold alikeM
  rw [if_neg (by simp [h0]), if_neg (by simp [hx, hy])]
theorem like_comm (b : List (Int × Int)) (x y : Int) : likeB b y x = likeB b x y := by
  rw [Bool.eq_iff_iff]
  exact ⟨like_symm, like_symm⟩
theorem word_mod (n : Nat) : isWordB (1 + ((n % 100 : Nat) : Int)) = true := by
  rw [isWordB_iff]
  omega

set_option maxRecDepth 100000 in
set_option maxHeartbeats 6400000 in
theorem alik_ok (v lv : Value) (b : List (Int × Int)) (ws : Fin 256 × Fin 256 × Fin 256) (ls : List (List Int)) (at_ ix : Fin 256) (w : World) (hv : BookV w w.heap.size v b) (hl : LLi w lv ls) :
    Calls Try.prog 11 #[v, .agg #[.int .u8 ws.1.val, .int .u8 ws.2.1.val, .int .u8 ws.2.2.val], lv, .int .u8 at_.val, .int .u8 ix.val] w fun r w' => r = .returned (.bool true) ∧ Below w.heap.size w w' := by
  obtain ⟨pa, pc, rfl, hp⟩ := hv.open_
  obtain ⟨la, lc, rfl, -, -⟩ := hl.form
  have ha1 := ws.1.isLt
  have ha2 := ws.2.1.isLt
  have ha3 := ws.2.2.isLt
  have ha4 := at_.isLt
  have ha5 := ix.isLt
  generalize ws.1.val = n1 at *
  generalize ws.2.1.val = n2 at *
  generalize ws.2.2.val = n3 at *
  generalize at_.val = n4 at *
  generalize ix.val = n5 at *
  have hC0 := BB.new hp
  have hB0 := (Below.refl w.heap.size w).alloc (Nat.le_refl _) (.cells #[.slice pa b.length pc] 24)
  have hz : (w.alloc (.cells #[.slice pa b.length pc] 24)).heap.size = w.heap.size + 1 := by simp
  go_enter Try.func11, Try.ntmps11
  go_upto_region 1 with (fail)
  have hL0 := (hl.below hB0).more hB0.size
  generalize w.alloc (.cells #[.slice pa b.length pc] 24) = W0 at *
  have hb := (Below.refl W0.heap.size W0).alloc (Nat.le_refl _) (.cells #[.int .u8 (n1 : Int), .int .u8 (n2 : Int), .int .u8 (n3 : Int)] 62)
  have hQ := Blk.new W0 62 #[.int .u8 (n1 : Int), .int .u8 (n2 : Int), .int .u8 (n3 : Int)]
  rw [hz] at hQ
  have hC := hC0.call hb
  have hL := hL0.call hb
  have hB := hB0.trans (hb.mono hB0.size)
  clear hp hv hl hC0 hL0 hB0 hb hz
  generalize W0.alloc (.cells #[.int .u8 (n1 : Int), .int .u8 (n2 : Int), .int .u8 (n3 : Int)] 62) = W at *
  have hck := rcheckBook_ok _ b W hC.bv
  by_cases h50 : 50 < b.length
  · have d1 : decide ((50 : Int) < (b.length : Int)) = true := decide_eq_true (by omega)
    have d1' : decide (50 < b.length) = true := decide_eq_true h50
    have k0 := hC.c0
    clear h50 hck
    go_wp2_with fail
    refine (works_ok _).mono ?_
    rintro e wz ⟨rfl, hbz⟩
    have hBz := hB.trans (hbz.mono hB.size)
    go_wp2
    try rw [Exit.noGoto_ret]
    go_ret
    exact ⟨rfl, hBz⟩
  · have d1 : decide ((50 : Int) < (b.length : Int)) = false := decide_eq_false (by omega)
    have d1' : decide (50 < b.length) = false := decide_eq_false h50
    by_cases hcb : checkBook b = 0
    · rw [hcb] at hck
      have HCB := Lib.hid hcb
      clear hcb h50
      have k0 := hC.c0
      go_wp2_with fail
      refine (hck).mono ?_
      rintro e w1 hp
      clear k0
      obtain ⟨rfl, hb⟩ := hp
      replace hC := hC.call hb
      replace hL := hL.call hb
      replace hB := hB.trans ((hb).mono hB.size)
      replace hQ := hQ.call hb
      clear hb hck
      have q0 := hQ.cell 0
      have q1 := hQ.cell 1
      have q2 := hQ.cell 2
      simp at q0 q1 q2
      have f0 := Ext.of q0
      have f1 := Ext.of q1
      have f2 := Ext.of q2
      obtain ⟨A1, hA1⟩ : ∃ A, A = n1 % 100 := ⟨_, rfl⟩
      obtain ⟨A2, hA2⟩ : ∃ A, A = n2 % 100 := ⟨_, rfl⟩
      obtain ⟨A3, hA3⟩ : ∃ A, A = n3 % 100 := ⟨_, rfl⟩
      have c1 : IntKind.i64.wrap (n1 : Int) = n1 := wrap_id _ (by omega) (by omega)
      have c2 : IntKind.i64.wrap (n2 : Int) = n2 := wrap_id _ (by omega) (by omega)
      have c3 : IntKind.i64.wrap (n3 : Int) = n3 := wrap_id _ (by omega) (by omega)
      have m1 : (n1 : Int).tmod 100 = (A1 : Int) := by rw [hA1]; rfl
      have m2 : (n2 : Int).tmod 100 = (A2 : Int) := by rw [hA2]; rfl
      have m3 : (n3 : Int).tmod 100 = (A3 : Int) := by rw [hA3]; rfl
      have hl1 : A1 < 100 := by omega
      have hl2 : A2 < 100 := by omega
      have hl3 : A3 < 100 := by omega
      have e1 : IntKind.i64.wrap (A1 : Int) = A1 := wrap_id _ (by omega) (by omega)
      have e2 : IntKind.i64.wrap (A2 : Int) = A2 := wrap_id _ (by omega) (by omega)
      have e3 : IntKind.i64.wrap (A3 : Int) = A3 := wrap_id _ (by omega) (by omega)
      have g1 : IntKind.i64.wrap (1 + (A1 : Int)) = 1 + (A1 : Int) := wrap_id _ (by omega) (by omega)
      have g2 : IntKind.i64.wrap (1 + (A2 : Int)) = 1 + (A2 : Int) := wrap_id _ (by omega) (by omega)
      have g3 : IntKind.i64.wrap (1 + (A3 : Int)) = 1 + (A3 : Int) := wrap_id _ (by omega) (by omega)
      have hx1 : isWordB (1 + (A1 : Int)) = true := by rw [hA1]; exact word_mod n1
      have hx2 : isWordB (1 + (A2 : Int)) = true := by rw [hA2]; exact word_mod n2
      have hx3 : isWordB (1 + (A3 : Int)) = true := by rw [hA3]; exact word_mod n3
      have HX1 := Lib.hid hx1
      have HX2 := Lib.hid hx2
      have HX3 := Lib.hid hx3
      clear hA1 hA2 hA3 q0 q1 q2 hx1 hx2 hx3
      go_upto_region 3 with (fail)
      refine wp_region_ext (by kernel_rfl) (by kernel_rfl) ?_
      repeat (go_big_quiet_step (fail))
      refine wpQuiet_nil ?_
      intro _ hw'
      obtain ⟨xr, hw''⟩ := hw'
      subst hw''
      have hb := xr.h
      replace hC := hC.call hb
      replace hL := hL.call hb
      replace hB := hB.trans ((hb).mono hB.size)
      obtain ⟨w2, hw2⟩ : ∃ w2 : World, w2 = xr.w := ⟨_, rfl⟩
      rw [← hw2] at hC hL hB ⊢
      clear hb hw2 xr f0 f1 f2 c1 c2 c3 m1 m2 m3 e1 e2 e3 g1 g2 g3 hQ
      obtain ⟨X, hX⟩ : ∃ X, X = 1 + (A1 : Int) := ⟨_, rfl⟩
      obtain ⟨Y, hY⟩ : ∃ Y, Y = 1 + (A2 : Int) := ⟨_, rfl⟩
      obtain ⟨Z, hZ⟩ : ∃ Z, Z = 1 + (A3 : Int) := ⟨_, rfl⟩
      rw [← hX] at HX1 ⊢
      rw [← hY] at HX2 ⊢
      rw [← hZ] at HX3 ⊢
      clear hX hY hZ
      have r1 := alikeM_good HCB.out HX1.out HX1.out
      have r2 := alikeM_good HCB.out HX1.out HX2.out
      have r3 := alikeM_good HCB.out HX2.out HX1.out
      have r4 := alikeM_good HCB.out HX2.out HX3.out
      have r5 := alikeM_good HCB.out HX1.out HX3.out
      rw [like_refl] at r1
      rw [like_comm b X Y] at r3
      have HT1 : Hid (likeB b X Y = true → likeB b Y Z = likeB b X Z) := fun h => by
        rw [Bool.eq_iff_iff]
        exact ⟨fun k => like_trans h k, fun k => like_trans (like_symm h) k⟩
      have R1 := Lib.hid r1
      have R2 := Lib.hid r2
      have R3 := Lib.hid r3
      have R4 := Lib.hid r4
      have R5 := Lib.hid r5
      clear r1 r2 r3 r4 r5
      generalize likeB b X Y = lxy at *
      generalize likeB b Y Z = lyz at *
      generalize likeB b X Z = lxz at *
      have k0 := hC.c0
      go_wp2_with fail
      refine (alikeP_ok _ b X X w2 hC.bv).mono ?_
      rintro e w3 hp
      clear k0
      rw [R1.out] at hp
      obtain ⟨rfl, hb⟩ := hp
      replace hC := hC.call hb
      replace hL := hL.call hb
      replace hB := hB.trans ((hb).mono hB.size)
      clear hb
      have k0 := hC.c0
      go_wp2_with fail
      refine (alikeP_ok _ b X Y w3 hC.bv).mono ?_
      rintro e w4 hp
      clear k0
      rw [R2.out] at hp
      obtain ⟨rfl, hb⟩ := hp
      replace hC := hC.call hb
      replace hL := hL.call hb
      replace hB := hB.trans ((hb).mono hB.size)
      clear hb
      have k0 := hC.c0
      go_wp2_with fail
      refine (alikeP_ok _ b Y X w4 hC.bv).mono ?_
      rintro e w5 hp
      clear k0
      rw [R3.out] at hp
      obtain ⟨rfl, hb⟩ := hp
      replace hC := hC.call hb
      replace hL := hL.call hb
      replace hB := hB.trans ((hb).mono hB.size)
      clear hb
      have k0 := hC.c0
      go_wp2_with fail
      refine (alikeP_ok _ b Y Z w5 hC.bv).mono ?_
      rintro e w6 hp
      clear k0
      rw [R4.out] at hp
      obtain ⟨rfl, hb⟩ := hp
      replace hC := hC.call hb
      replace hL := hL.call hb
      replace hB := hB.trans ((hb).mono hB.size)
      clear hb
      have k0 := hC.c0
      go_wp2_with fail
      refine (alikeP_ok _ b X Z w6 hC.bv).mono ?_
      rintro e w7 hp
      clear k0
      rw [R5.out] at hp
      obtain ⟨rfl, hb⟩ := hp
      replace hC := hC.call hb
      replace hL := hL.call hb
      replace hB := hB.trans ((hb).mono hB.size)
      clear hb
      go_upto_region 9 with (fail)
      go_cut [137] from 91 to 138 (fun g wx => g = .bool false ∧ wx = w7)
      case first =>
        cases lxy
        · go_wp2
          go_meet
          case rel => exact ⟨rfl, rfl⟩
        · have h1 := HT1.out rfl
          subst h1
          cases lyz
          · go_wp2
            go_meet
            case rel => exact ⟨rfl, rfl⟩
          · go_wp2
            go_meet
            case rel => exact ⟨rfl, rfl⟩
      case rest =>
        obtain ⟨rfl, rfl⟩ := hcut
        have hfi := lfine_ok _ _ b ls wc hC.bv hL
        cases hf : fineB b ls
        · rw [hf] at hfi
          clear hf
          have k0 := hC.c0
          go_wp2_with fail
          refine (hfi).mono ?_
          rintro e w8 hp
          clear k0
          obtain ⟨rfl, hb⟩ := hp
          replace hC := hC.call hb
          replace hL := hL.call hb
          replace hB := hB.trans ((hb).mono hB.size)
          clear hb hfi
          go_wp2_with fail
          refine (works_ok _).mono ?_
          rintro e wz ⟨rfl, hbz⟩
          have hBz := hB.trans (hbz.mono hB.size)
          go_wp2
          try rw [Exit.noGoto_ret]
          go_ret
          exact ⟨rfl, hBz⟩
        · rw [hf] at hfi
          obtain ⟨hf0, hf1⟩ := fineB_iff.1 hf
          have H0 := Lib.hid hf0
          have HG := Lib.hid (good_of hf0)
          have hl2 := HG.out.two
          have hl4 := HG.out.four
          clear hf hf0
          have k0 := hC.c0
          go_wp2_with fail
          refine (hfi).mono ?_
          rintro e w8 hp
          clear k0
          obtain ⟨rfl, hb⟩ := hp
          replace hC := hC.call hb
          replace hL := hL.call hb
          replace hB := hB.trans ((hb).mono hB.size)
          clear hb hfi
          obtain ⟨hh, hhe⟩ : ∃ hh, hh = n4 % ls.length := ⟨_, rfl⟩
          have hhl : hh < ls.length := by rw [hhe]; exact Nat.mod_lt _ (by omega)
          have hhi : (hh : Int) < (ls.length : Int) := by omega
          have nz : ((ls.length : Int) == 0) = false := beq_false_of_ne (by omega)
          have m1 : (n4 : Int).tmod (ls.length : Int) = (hh : Int) := by rw [hhe]; rfl
          have c1 : IntKind.i64.wrap (n4 : Int) = n4 := wrap_id _ (by omega) (by omega)
          have c3 : IntKind.i64.wrap (hh : Int) = hh := wrap_id _ (by omega) (by omega)
          clear hhe
          go_upto_region 14 with (fail)
          clear nz m1 c1 c3
          obtain ⟨lb, lo, lA, lcc, rfl, hlb, hlc, hla⟩ := hL.at_ (getD_some [] hhl)
          obtain ⟨T, hT⟩ : ∃ T, T = (ls.getD hh []).length := ⟨_, rfl⟩
          have HT := Lib.hid hT
          rw [← hT] at hlc hla
          have hT8 : T ≤ 8 := by rw [hT]; exact HG.out.eight _ (getD_in hhl)
          clear hT
          by_cases hT0 : T = 0
          · have d2 : ((T : Int) == 0) = true := by rw [beq_iff_eq]; omega
            clear hT0
            go_wp2_with fail
            refine (works_ok _).mono ?_
            rintro e wz ⟨rfl, hbz⟩
            have hBz := hB.trans (hbz.mono hB.size)
            go_wp2
            try rw [Exit.noGoto_ret]
            go_ret
            exact ⟨rfl, hBz⟩
          · have d2 : ((T : Int) == 0) = false := beq_false_of_ne (by omega)
            obtain ⟨ii, hii⟩ : ∃ ii, ii = n5 % T := ⟨_, rfl⟩
            have hil : ii < T := by rw [hii]; exact Nat.mod_lt _ (by omega)
            have hi2 : (ii : Int) < (T : Int) := by omega
            have m1 : (n5 : Int).tmod (T : Int) = (ii : Int) := by rw [hii]; rfl
            have c1 : IntKind.i64.wrap (n5 : Int) = n5 := wrap_id _ (by omega) (by omega)
            have c3 : IntKind.i64.wrap (ii : Int) = ii := wrap_id _ (by omega) (by omega)
            have hT1 : 0 < T := by omega
            clear hii hT0
            go_upto_region 17 with (fail)
            clear m1 c1 c3 d2
            have hil2 : ii < (ls.getD hh []).length := by rw [← HT.out]; exact hil
            obtain ⟨nb, no, rfl, hnb, hnc⟩ := num_at hla hil2
            obtain ⟨wd, hwd⟩ : ∃ wd, wd = wordAt ls hh ii := ⟨_, rfl⟩
            have hww : isWordB wd = true := by
              rw [hwd]
              exact HG.out.word _ (getD_in hhl) _ (getD_in hil2)
            change w8.cell? ⟨nb, no + ii, none⟩ = some (.int .i64 (wordAt ls hh ii)) at hnc
            rw [← hwd] at hnc
            have r1 := alikeM_good HCB.out hww HX1.out
            obtain ⟨G, hG⟩ : ∃ G, G = likeB b wd X := ⟨_, rfl⟩
            rw [← hG] at r1
            have HGG : Hid (G = likeB b (wordAt ls hh ii) X) := by rw [← hwd]; exact hG
            have HA : Hid (∀ y : Ext w8, Calls Try.prog 15 #[.agg #[.slice pa b.length pc], .int .i64 wd, .int .i64 X] y.w fun r w' => r = .returned (.tuple #[.bool G, .int .i64 0]) ∧ ∃ z : Ext w8, w' = z.w) := fun y => by
              have := alikeP_ok _ b wd X y.w (hC.call y.h).bv
              rw [r1] at this
              exact ext_call y this
            have f0 := Ext.of hC.c0
            have f1 := Ext.of hlc
            have f2 := Ext.of hnc
            clear hwd hww r1 hG hlc hnc hla
            refine wp_region_ext (by kernel_rfl) (by kernel_rfl) ?_
            repeat (go_big_quiet_step ((go_at_call 15; with_reducible exact HA.out _)))
            refine wpQuiet_nil ?_
            intro _ hw'
            obtain ⟨xr, hw''⟩ := hw'
            subst hw''
            have hb := xr.h
            replace hC := hC.call hb
            replace hL := hL.call hb
            replace hB := hB.trans ((hb).mono hB.size)
            obtain ⟨w9, hw9⟩ : ∃ w9 : World, w9 = xr.w := ⟨_, rfl⟩
            rw [← hw9] at hC hL hB ⊢
            clear hb hw9 xr f0 f1 f2 HA hlb hnb
            cases G
            · go_wp2_with fail
              refine (works_ok _).mono ?_
              rintro e wz ⟨rfl, hbz⟩
              have hBz := hB.trans (hbz.mono hB.size)
              go_wp2
              go_ret
              exact ⟨rfl, hBz⟩
            · obtain ⟨xs, hx1, hx2, hx3⟩ := lli_vals hL
              have hxl : ls.length = (xs.map (·.1)).length := by rw [List.length_map, ← hx1, List.length_map]
              have HX3L := Lib.hid hx3
              have HXS := Lib.hid hx1
              have HXL := Lib.hid hxl
              have hone := vals_one hx3
              clear hx1 hx3 hxl
              go_upto_region 22 with (fail)
              have hE0 := own_empty w9 w9.heap.size 38 1 (Nat.le_refl _)
              go_wp2_with (at_builtin; refine wpList_appArrN slT_ll rfl (.tmp 181) (.tmp 182) rfl HXL.out rfl hE0 rfl (hx2.alloc (Nat.le_refl _) _) hone ?_ ?_ ?_ ?_)
              · simp
              · omega
              · omega
              intro v10 w10 hown10 hb10 hg10
              simp only [Nat.zero_add, List.nil_append, flat_v] at hown10
              have hbx : Below w9.heap.size w9 w10 := ((Below.refl _ _).alloc (Nat.le_refl _) _).trans hb10
              obtain ⟨oA, oc, rfl⟩ := own_form hown10
              obtain ⟨ob, rfl, hob, hOV⟩ := own_V hown10 (by omega)
              clear hown10 hb10 hg10 hE0 hone hx2
              go_upto_region 23 with (fail)
              obtain ⟨lb', lo', lA2, lc2, e1, hlb, hlc, hla⟩ := (hL.call hbx).at_ (getD_some [] hhl)
              injection e1 with e1
              injection e1 with e1 e2
              subst e1 e2
              obtain ⟨LH, hLH⟩ : ∃ l, l = ls.getD hh [] := ⟨_, rfl⟩
              have HTL : Hid (T = LH.length) := by rw [Hid, hLH]; exact HT.out
              rw [← hLH, ← HTL.out] at hlc hla
              have HLH := Lib.hid hLH
              clear hLH
              have hE1 := own_empty w10 w10.heap.size 3 1 (Nat.le_refl _)
              have hone2 : ∀ u ∈ LH.flatMap (cellsOf 1 icell), u.oneCell' = true := fun u hu => by
                rw [flat_i, List.mem_map] at hu
                obtain ⟨x, -, rfl⟩ := hu
                rfl
              have hOV1 := hOV.call ((Below.refl w10.heap.size w10).alloc (Nat.le_refl _) (.cells #[] 3))
              go_wp2_with (at_builtin; refine wpList_appArrN slT_i rfl (.tmp 186) (.tmp 190) rfl HTL.out rfl hE1 rfl (hla.alloc (Nat.le_refl _) _) hone2 ?_ ?_ ?_ ?_)

              any_goals (first | omega | (simp; done) | (simp; omega))
              intro v11 w11 hown11 hb11 hg11
              simp only [Nat.zero_add, List.nil_append, flat_i] at hown11
              obtain ⟨rA, rc, rfl⟩ := own_form hown11
              obtain ⟨rb, rfl, hrb, hOB⟩ := own_B hown11 hT1
              have hbA : Below w10.heap.size w10 w11 := ((Below.refl _ _).alloc (Nat.le_refl _) _).trans hb11
              have hOV2 := hOV.call hbA
              have hbx2 := hbx.trans (hbA.mono hbx.size)
              have hol := hOV.lt
              clear hown11 hb11 hg11 hE1 hone2 hOV1 hlc hla hbx hbA hOV
              obtain ⟨y0, hy0⟩ : ∃ y0, (xs.map (·.1))[hh]? = some y0 := ⟨_, List.getElem?_eq_getElem (by rw [← HXL.out]; exact hhl)⟩
              obtain ⟨o0, o1⟩ := hOV2.cell hy0
              have hOV3 := hOV2.set_ hhl (.slice (some ⟨rb, 0, none⟩) T rc)
              have hOB3 := hOB.far (p := ⟨ob, hh, none⟩) (by simp; omega) (.slice (some ⟨rb, 0, none⟩) T rc)
              have hbx3 := hbx2.setCell (p := ⟨ob, hh, none⟩) hob (.slice (some ⟨rb, 0, none⟩) T rc)
              clear hy0
              go_upto_region 24 with (fail)
              clear hOV2 hOB hbx2 o0 o1
              generalize w11.setCell ⟨ob, hh, none⟩ (.slice (some ⟨rb, 0, none⟩) T rc) = w12 at *
              obtain ⟨o0, -⟩ := hOV3.cell (i := hh) (x := .slice (some ⟨rb, 0, none⟩) T rc) (by rw [List.getElem?_set_self]; rw [← HXL.out]; exact hhl)
              obtain ⟨o2, o3⟩ := hOB3.cell (getD_some 0 (show ii < LH.length by rw [← HTL.out]; exact hil))
              have hOV4 := hOV3.far (p := ⟨rb, ii, none⟩) (by simp; omega) (.int .i64 X)
              have hOB4 := hOB3.set_ hil X
              have hrb9 : w9.heap.size ≤ rb := by omega
              have hbx4 := hbx3.setCell (p := ⟨rb, ii, none⟩) hrb9 (.int .i64 X)
              go_upto_region 25 with (fail)
              clear hOV3 hOB3 hbx3 o0 o2 o3
              generalize w12.setCell ⟨rb, ii, none⟩ (.int .i64 X) = w13 at *
              have hLW : LLi w13 (.slice (some ⟨ob, 0, none⟩) ls.length oc) (writeL ls hh ii X) := by
                have h1 : (xs.set hh ((.slice (some ⟨rb, 0, none⟩) T rc, LH.set ii X) : VL)).map (·.2) = writeL ls hh ii X := by
                  unfold writeL
                  rw [map_set, HXS.out, HLH.out]
                rw [← h1]
                refine lli_of (by rw [map_set]; exact hOV4.arr) fun x hx => ?_
                rcases List.mem_or_eq_of_mem_set hx with hx | rfl
                · exact (HX3L.out x hx).call hbx4
                · have := hOB4.arr
                  exact this
              clear hOV4 hOB4
              have hMW : Hid (matchesM b (writeL ls hh ii X) = matchesM b ls) := by
                have hgw := write_good HG.out hhl HX1.out (i := ii)
                have h1 : matchesM b ls = (iLL (matsOf b ls), 0) := by unfold matchesM; rw [if_neg (by simp [H0.out])]
                have h2 : matchesM b (writeL ls hh ii X) = (iLL (matsOf b (writeL ls hh ii X)), 0) := by unfold matchesM; rw [if_neg (by simp [good_mk hgw])]
                rw [Hid, h1, h2, write_mats hhl (by rw [← HT.out]; exact hil) HGG.out.symm]
              have hm0 : Hid (matchesM b ls = (iLL (matsOf b ls), 0)) := by unfold matchesM; rw [Hid, if_neg (by simp [H0.out])]
              have hwl : Hid ((writeL ls hh ii X).length = ls.length) := by unfold writeL; rw [Hid, List.length_set]
              replace hC := hC.call hbx4
              replace hL := hL.call hbx4
              replace hB := hB.trans (hbx4.mono hB.size)
              clear hbx4
              have k0 := hC.c0
              go_wp2_with fail
              refine (matches_ok _ _ b ls w13 hC.bv hL).mono ?_
              rintro e w14 hp
              clear k0
              rw [hm0.out] at hp
              obtain ⟨mv, rfl, hM, hb⟩ := hp
              obtain ⟨mA, mc, rfl, -, -⟩ := hM.form
              replace hC := hC.call hb
              replace hL := hL.call hb
              replace hB := hB.trans ((hb).mono hB.size)
              replace hLW := hLW.call hb
              clear hb
              have k0 := hC.c0
              go_wp2_with fail
              refine (matches_ok _ _ b (writeL ls hh ii X) w14 hC.bv hLW).mono ?_
              rintro e w15 hp
              clear k0
              rw [hMW.out, hm0.out] at hp
              obtain ⟨nv, rfl, hN, hb⟩ := hp
              obtain ⟨nA, nc, rfl, -, -⟩ := hN.form
              replace hB := hB.trans (hb.mono hB.size)
              replace hM := hM.call hb
              clear hb hC hL hLW
              have hmt := matchesT _ _ _ w15 hM hN
              go_wp2_with fail
              refine hmt.mono ?_
              rintro e w16 ⟨rfl, hb⟩
              replace hB := hB.trans (hb.mono hB.size)
              clear hmt hb hM hN
              go_wp2_with fail
              refine (works_ok _).mono ?_
              rintro e wz ⟨rfl, hbz⟩
              have hBz := hB.trans (hbz.mono hB.size)
              go_wp2
              try rw [Exit.noGoto_ret]
              go_ret
              exact ⟨rfl, hBz⟩
    · have HE : Hid (checkBook b ≠ 0) := hcb
      obtain ⟨E, hE⟩ : ∃ E, E = checkBook b := ⟨_, rfl⟩
      rw [← hE] at hck
      have d2 : ((E : Int) != 0) = true := by simp [hE, hcb]
      clear hcb h50 hE
      have k0 := hC.c0
      go_wp2_with fail
      refine (hck).mono ?_
      rintro e w1 hp
      clear k0
      obtain ⟨rfl, hb⟩ := hp
      replace hC := hC.call hb
      replace hL := hL.call hb
      replace hB := hB.trans ((hb).mono hB.size)
      clear hb hck
      go_wp2_with fail
      refine (works_ok _).mono ?_
      rintro e wz ⟨rfl, hbz⟩
      have hBz := hB.trans (hbz.mono hB.size)
      go_wp2
      try rw [Exit.noGoto_ret]
      go_ret
      exact ⟨rfl, hBz⟩
end Go.Proofs.Ytgngpdnppdbgoaa
