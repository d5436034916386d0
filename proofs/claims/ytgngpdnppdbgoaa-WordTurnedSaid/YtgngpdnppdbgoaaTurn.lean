/- Contract of the law WordTurned. -/
import Derived.Test.YtgngpdnppdbgoaaVal
import Derived.Test.YtgngpdnppdbgoaaLawQ
import Derived.Test.YtgngpdnppdbgoaaCrtn
namespace Go.Proofs.Ytgngpdnppdbgoaa
open Go.RowKit Go.Shelf
set_option linter.unusedVariables false

theorem revL_take_succ {ls : List (List Int)} {i : Nat} (hi : i < ls.length) : (ls.take (i + 1)).map List.reverse = (ls.take i).map List.reverse ++ [(ls.getD i []).reverse] := by
  rw [take_snoc (getD_some [] hi), List.map_append]
  rfl
/-- the values of lines that are turned round, as far as they are made -/
def rotV (xs : List VL) (n t k : Nat) : List VL := (List.range k).map fun i => xs.getD ((i + t) % n) (undef, [])
theorem rotV_succ (xs : List VL) (n t k : Nat) : rotV xs n t (k + 1) = rotV xs n t k ++ [xs.getD ((k + t) % n) (undef, [])] := by
  unfold rotV
  rw [List.range_succ, List.map_append]
  rfl
theorem rotV_all {xs : List VL} {ls : List (List Int)} (h : xs.map (·.2) = ls) (h0 : 0 < ls.length) (t : Nat) : (rotV xs ls.length t ls.length).map (·.2) = rotL ls t := by
  unfold rotV rotL
  rw [List.map_map]
  refine List.map_congr_left fun i hi => ?_
  have hl : xs.length = ls.length := by rw [← h, List.length_map]
  have hm : (i + t) % ls.length < ls.length := Nat.mod_lt _ h0
  show (xs.getD ((i + t) % ls.length) (undef, [])).2 = ls.getD ((i + t) % ls.length) []
  have h1 : (xs.map (·.2))[(i + t) % ls.length]? = ls[(i + t) % ls.length]? := by rw [h]
  rw [List.getElem?_map, List.getElem?_eq_getElem (by omega)] at h1
  rw [List.getD_eq_getElem?_getD, List.getElem?_eq_getElem (by omega), List.getD_eq_getElem?_getD, ← h1]
  rfl
theorem backTo_id {l : List Int} {k : Nat} : (backTo (fun x => x) l k).map (Value.int .i64) = backTo (Value.int .i64) l k := by
  unfold backTo
  rw [List.map_reverse, List.map_map]
  rfl

set_option maxRecDepth 100000 in
set_option maxHeartbeats 12800000 in
theorem turn_ok (v lv : Value) (b : List (Int × Int)) (ls : List (List Int)) (tn hr : Fin 256) (w : World) (hv : BookV w w.heap.size v b) (hl : LLi w lv ls) :
    Calls Try.prog 10 #[v, lv, .int .u8 tn.val, .int .u8 hr.val] w fun r w' => r = .returned (.bool true) ∧ Below w.heap.size w w' := by
  have htl := tn.isLt
  have hrl := hr.isLt
  generalize tn.val = t at *
  generalize hr.val = hrn at *
  obtain ⟨pa, pc, rfl, hp⟩ := hv.open_
  obtain ⟨la, lc, rfl, -, -⟩ := hl.form
  have hC := BB.new hp
  have hB := (Below.refl w.heap.size w).alloc (Nat.le_refl _) (.cells #[.slice pa b.length pc] 24)
  go_enter Try.func10, Try.ntmps10
  go_upto_region 1 with (fail)
  generalize w.alloc (.cells #[.slice pa b.length pc] 24) = W at *
  have hL := (hl.below hB).more hB.size
  clear hp hv hl
  have hfi := lfine_ok _ _ b ls W hC.bv hL
  cases hf : fineB b ls
  · rw [hf] at hfi
    clear hf
    have k0 := hC.c0
    go_wp2_with fail
    refine (hfi).mono ?_
    rintro e w1 hp
    clear k0
    obtain ⟨rfl, hb⟩ := hp
    replace hC := hC.call hb
    replace hL := hL.call hb
    replace hB := hB.trans ((hb).mono hB.size)
    clear hfi
    go_wp2_with fail
    refine (works_ok _).mono ?_
    rintro e wz ⟨rfl, hbz⟩
    have hBz := hB.trans (hbz.mono hB.size)
    go_wp2
    try rw [Exit.noGoto_ret]
    go_ret
    exact ⟨rfl, hBz⟩
  · rw [hf] at hfi
    obtain ⟨hf0, hf1⟩ := fineB_iff.1 hf
    have H0 := Lib.hid hf0
    have HG := Lib.hid (good_of hf0)
    have hl2 := HG.out.two
    have hl4 := HG.out.four
    clear hf hf0
    have k0 := hC.c0
    go_wp2_with fail
    refine (hfi).mono ?_
    rintro e w1 hp
    clear k0
    obtain ⟨rfl, hb⟩ := hp
    replace hC := hC.call hb
    replace hL := hL.call hb
    replace hB := hB.trans ((hb).mono hB.size)
    clear hb hfi
    obtain ⟨n, hn⟩ : ∃ n, n = ls.length := ⟨_, rfl⟩
    have HN := Lib.hid hn
    rw [← hn] at hl2 hl4 hL ⊢
    clear hn
    obtain ⟨hh, hhe⟩ : ∃ hh, hh = hrn % n := ⟨_, rfl⟩
    have hhl : hh < n := by rw [hhe]; exact Nat.mod_lt _ (by omega)
    have hhi : (hh : Int) < (n : Int) := by omega
    have nz : ((n : Int) == 0) = false := beq_false_of_ne (by omega)
    have m1 : (hrn : Int).tmod (n : Int) = (hh : Int) := by rw [hhe]; rfl
    have c1 : IntKind.i64.wrap (hrn : Int) = hrn := wrap_id _ (by omega) (by omega)
    have c3 : IntKind.i64.wrap (hh : Int) = hh := wrap_id _ (by omega) (by omega)
    clear hhe
    go_upto_region 3 with (fail)
    refine wp_region_ext (by kernel_rfl) (by kernel_rfl) ?_
    repeat (go_big_quiet_step (fail))
    refine wpQuiet_nil ?_
    intro _ hw'
    obtain ⟨xr, hw''⟩ := hw'
    subst hw''
    have hb := xr.h
    replace hC := hC.call hb
    replace hL := hL.call hb
    replace hB := hB.trans ((hb).mono hB.size)
    obtain ⟨w2, hw2⟩ : ∃ w2 : World, w2 = xr.w := ⟨_, rfl⟩
    rw [← hw2] at hC hL hB ⊢
    clear hb hw2 xr m1 c1 c3
    obtain ⟨xs0, hx1, hx2, hx3⟩ := lli_vals hL
    have hxl : xs0.length = n := by rw [HN.out, ← hx1, List.length_map]
    have HXS := Lib.hid hx1
    have HXL := Lib.hid hxl
    have HX3 := Lib.hid hx3
    have HX2 := Lib.hid hx2
    clear hx1 hxl hx2 hx3
    go_wp2
    go_loopw [11, 12, 13] (fun x y i wr => ∃ (k : Nat) (xs : List VL), k ≤ n ∧ i = .int .i64 k ∧ Hid (xs.map (·.2) = (ls.take k).map List.reverse) ∧ BuiltN w2 wr 38 x xs ∧ wr.ownsRow w2.heap.size 38 1 y k ((rotV xs0 n t k).map (·.1)) ∧ ApartN y x xs) (fun _ _ i _ => n - (intOf i).toNat)
    case atStart => exact ⟨0, [], Nat.zero_le _, rfl, rfl, BuiltN.nil_ _ _, by simpa [rotV] using World.ownsRow_nil _ _ _ _, ApartN.nil_ _ _⟩
    case round =>
      obtain ⟨k, xs, hk, rfl, hxs, hbx, hyo, hap⟩ := hrel
      have HXK : Hid (xs.length = k) := by
        have := congrArg List.length hxs.out
        rw [List.length_map, List.length_map, List.length_take, ← HN.out] at this
        rw [Hid, this]
        omega
      by_cases hlt : k < n
      · have d3 : decide (k < n) = true := decide_eq_true hlt
        have d3' : decide ((k : Int) < (n : Int)) = true := decide_eq_true (by omega)
        have hki : (k : Int) < (n : Int) := by omega
        have hkl : k < ls.length := by rw [← HN.out]; exact hlt
        obtain ⟨L, hLe⟩ : ∃ L, L = ls.getD k [] := ⟨_, rfl⟩
        have HLE := Lib.hid hLe
        have HTK := Lib.hid (revL_take_succ hkl)
        have hL8 : L.length ≤ 8 := by rw [hLe]; exact HG.out.eight _ (getD_in hkl)
        obtain ⟨lb, lo, lA, lcc, rfl, hlb, hlc, hla⟩ := hL.at_ (getD_some [] hkl)
        rw [← hLe] at hlc hla HTK
        have HLA := Lib.hid hla
        clear hLe hla
        obtain ⟨wo, hwo⟩ : ∃ wo : World, wo = wr := ⟨_, rfl⟩
        rw [← hwo] at hbx hyo ⊢
        clear hwo
        have c0 := (hbx.bl.cell (p := ⟨lb, lo + k, none⟩) hlb).trans hlc
        have eL : IntKind.i64.wrap ((L.length : Int) - 1) = (L.length : Int) - 1 := wrap_id _ (by omega) (by omega)
        go_upto_region 10 with (fail)
        go_wp2
        clear c0 eL
        go_loopw [14, 15] (fun o i wr => ∃ j : Nat, j ≤ L.length ∧ i = .int .i64 ((j : Int) - 1) ∧ Below wo.heap.size wo wr ∧ wr.ownsRow wo.heap.size 3 1 o (L.length - j) (backTo (Value.int .i64) L j)) (fun _ i _ => (intOf i + 1).toNat)
        case atStart => exact ⟨L.length, Nat.le_refl _, rfl, Below.refl _ _, by rw [backTo_end, Nat.sub_self]; exact World.ownsRow_nil _ _ _ _⟩
        case round =>
          obtain ⟨j, hj, rfl, hb, hown⟩ := hrel
          have hb2 := hbx.bl.trans (hb.mono hbx.bl.size)
          rcases Nat.eq_zero_or_pos j with rfl | hj0
          · have d4 : decide ((0 : Int) ≤ ((0 : Nat) : Int) - 1) = false := by decide
            have hLr : (backTo (Value.int .i64) L 0) = (L.reverse).map (Value.int .i64) := by rw [backTo_all, List.map_reverse]
            rw [hLr, Nat.sub_zero] at hown
            have hlr : L.reverse.length = L.length := List.length_reverse ..
            have HLR := Lib.hid hlr
            have hby := hbx.call hb
            have hyo2 := own_call hyo hb
            obtain ⟨rA, rc, rfl⟩ := own_form hown
            have hel : ElN wr u11 (.slice rA L.length rc, L.reverse) := row_elN hown (by simp) (fun b e => (hbx.own.lt b e).2)
            have hby2 := hby.own
            have HKN := Lib.hid (rotV_succ xs0 n t k)
            have hszb := hby.bl.size
            have hxk4 : xs.length ≤ 4 := by have := HXK.out; omega
            clear hLr hlr hb2
            go_wp2_with (at_builtin; refine wpList_app2 slT_ll rfl (.tmp 72) (.tmp 74) rfl (sv := u11) rfl hby2 rfl rfl one_sl hszb ?_ ?_ ?_)
            any_goals omega
            intro v4 w4 hown4 hg4 hat4
            have hx4 := hby.app hel hown4 hg4 hat4
            have hyo4 := own_grown hyo2 hg4 fun r e e2 => (hap r e2).1 e
            have hap4 : ApartN u12 v4 (xs ++ [((.slice rA L.length rc, L.reverse) : VL)]) := fun r hr => by
              refine ⟨fun e => ?_, fun x hx e => ?_⟩
              · rcases hat4 r e with q | q
                · exact (hap r hr).1 q
                · have := (hyo2.lt r hr).2; omega
              · rcases List.mem_append.1 hx with hx | hx
                · exact (hap r hr).2 x hx e
                · rw [List.mem_singleton] at hx
                  subst hx
                  have h1 := (hown.lt r e).1
                  have h2 := (hyo.lt r hr).2
                  omega
            have HXN : Hid ((xs ++ [((.slice rA L.length rc, L.reverse) : VL)]).map (·.2) = (ls.take (k + 1)).map List.reverse) := by rw [Hid, HTK.out, List.map_append, hxs.out]; rfl
            clear hown4 hg4 hat4 hown hby hby2 hel hyo2 hyo hbx hb hap hxk4
            generalize xs ++ [((.slice rA L.length rc, L.reverse) : VL)] = xs4 at *
            have hJn : (k + t) % n < n := Nat.mod_lt _ (by omega)
            obtain ⟨J, hJ⟩ : ∃ J, J = (k + t) % n := ⟨_, rfl⟩
            have HJ := Lib.hid hJ
            rw [← hJ] at hJn HKN
            obtain ⟨x0, hx0⟩ : ∃ x0, xs0[J]? = some x0 := ⟨_, List.getElem?_eq_getElem (by rw [HXL.out]; exact hJn)⟩
            obtain ⟨zA, zc, hze, -⟩ := id (HX3.out x0 (List.mem_of_getElem? hx0))
            obtain ⟨jb, jo, yv, ej, hjb, hj1, hj2⟩ := HX2.out.at_ (k := J) (by rw [List.length_map, HXL.out]; exact hJn)
            injection ej with ej
            injection ej with ej ejb
            subst ej ejb
            rw [List.getElem?_map, hx0] at hj1
            simp only [Option.map_some, Option.some.injEq] at hj1
            subst hj1
            have hj3 := hj2 0 (by omega)
            rw [Nat.mul_one, Nat.add_zero] at hj3
            unfold vcell at hj3
            rw [hze] at hj3
            have c1 : w4.cell? ⟨lb, lo + J, none⟩ = some (.slice zA x0.2.length zc) := (hx4.bl.cell (p := ⟨lb, lo + J, none⟩) hlb).trans hj3
            have HKV : Hid ((rotV xs0 n t (k + 1)).map (·.1) = (rotV xs0 n t k).map (·.1) ++ [.slice zA x0.2.length zc]) := by
              rw [Hid, HKN.out, List.map_append, List.getD_eq_getElem?_getD, hx0]
              show _ ++ [x0.1] = _
              rw [hze]
            have m2 : ((k : Int) + (t : Int)).tmod (n : Int) = (J : Int) := by rw [hJ]; rfl
            have g1 : IntKind.i64.wrap (t : Int) = t := wrap_id _ (by omega) (by omega)
            have g2 : IntKind.i64.wrap ((k : Int) + (t : Int)) = (k : Int) + (t : Int) := wrap_id _ (by omega) (by omega)
            have g3 : IntKind.i64.wrap (J : Int) = J := wrap_id _ (by omega) (by omega)
            have hJi : (J : Int) < (n : Int) := by omega
            have hszb := hx4.bl.size
            clear hJ hx0 hze hj2 hj3
            go_wp2_with (at_builtin; refine wpList_app2 slT_ll rfl (.tmp 76) (.tmp 86) rfl (sv := u12) rfl hyo4 rfl rfl one_sl hszb ?_ ?_ ?_)
            all_goals try omega
            intro v5 w5 hown5 hg5 hat5
            obtain ⟨hx5, hap5⟩ := hx4.beside hyo4 hap4 hg5 hat5
            have hyo5 : w5.ownsRow w2.heap.size 38 1 v5 (k + 1) ((rotV xs0 n t (k + 1)).map (·.1)) := by rw [HKV.out]; simpa using hown5
            clear hown5 hg5 hat5 hx4 hyo4 hap4 c1 m2 g1 g2 g3
            go_wp2
            go_roundw
            case rel => exact ⟨k + 1, xs4, by omega, by go_num, HXN, hx5, hyo5, hap5⟩
            case measure => (simp [intOf]; try omega)
          · obtain ⟨q, rfl⟩ : ∃ q, j = q + 1 := ⟨j - 1, by omega⟩
            have hqe : (((q + 1 : Nat) : Int) - 1) = (q : Int) := by omega
            rw [hqe]
            have hqL : q < L.length := by omega
            have d4 : decide ((0 : Int) ≤ (q : Int)) = true := decide_eq_true (by omega)
            have hqi : (q : Int) < (L.length : Int) := by omega
            obtain ⟨nb, no, rfl, hnb, hnc⟩ := num_at HLA.out hqL
            have c0 := (hb2.cell (p := ⟨lb, lo + k, none⟩) hlb).trans hlc
            have c1 := (hb2.cell (p := ⟨nb, no + q, none⟩) hnb).trans hnc
            obtain ⟨x, hx⟩ : ∃ x, x = L.getD q 0 := ⟨_, rfl⟩
            rw [← hx] at c1
            have HBS : Hid (backTo (Value.int .i64) L q = backTo (Value.int .i64) L (q + 1) ++ [.int .i64 x]) := by
              rw [Hid, hx]
              exact backTo_step (Value.int .i64) (getD_some 0 hqL)
            have eq1 : IntKind.i64.wrap ((q : Int) - 1) = (q : Int) - 1 := wrap_id _ (by omega) (by omega)
            have HNL : Hid (L.length - (q + 1) + 1 = L.length - q) := by rw [Hid]; omega
            have hszb := hb.size
            clear hx hqe hj0 hnc
            obtain ⟨nl, hnl⟩ : ∃ nl, nl = L.length - (q + 1) := ⟨_, rfl⟩
            rw [← hnl] at hown HNL
            have hnl8 : nl ≤ 8 := by omega
            clear hnl
            go_wp2_with (at_builtin; refine wpList_app2 slT_i rfl (.tmp 62) (.tmp 70) rfl (sv := u14) rfl hown rfl rfl (one_i _) hszb ?_ ?_ ?_)
            any_goals omega
            intro v4 w4 hown4 hg4 hat4
            have hb4 := hb.grown hg4 hb.size fun g hg => (hown.lt g hg).1
            have hown5 : w4.ownsRow wo.heap.size 3 1 v4 (L.length - q) (backTo (Value.int .i64) L q) := by
              rw [HBS.out, ← HNL.out]
              simpa using hown4
            clear hown4 hg4 hat4 hown hb c0 c1 hb2
            go_wp2
            go_roundw
            case rel => exact ⟨q, by omega, rfl, hb4, hown5⟩
            case measure => (simp [intOf]; try omega)
      · obtain rfl : n = k := by omega
        have d3 : decide (n < n) = false := by simp
        obtain ⟨xA, xc, rfl, -, -⟩ := hbx.form
        obtain ⟨yA, yc, rfl⟩ := own_form hyo
        have hX : LLi wr (.slice xA n xc) (revL ls) := by
          have := hbx.ll
          rw [hxs.out, HXK.out] at this
          rw [HN.out, List.take_length] at this
          rw [HN.out]
          exact this
        have hY : LLi wr (.slice yA n yc) (rotL ls t) := by
          rw [← rotV_all HXS.out (by rw [← HN.out]; omega) t, ← HN.out]
          refine lli_of ?_ fun x hx => ?_
          · have hl : ((rotV xs0 n t n).map (·.1)).length = n := by simp [rotV]
            have h1 : wr.ownsRow w2.heap.size 38 1 (.slice yA n yc) ((rotV xs0 n t n).map (·.1)).length (((rotV xs0 n t n).map (·.1)).flatMap (cellsOf 1 vcell)) := by rw [flat_v, hl]; exact hyo
            exact Arr.of_own h1
          · unfold rotV at hx
            obtain ⟨i, hi, rfl⟩ := List.mem_map.1 hx
            exact (HX3.out _ (getD_in (by rw [HXL.out]; exact Nat.mod_lt _ (by omega)))).call hbx.bl
        have hb := hbx.bl
        replace hC := hC.call hb
        replace hL := hL.call hb
        replace hB := hB.trans ((hb).mono hB.size)
        rw [HXK.out]
        obtain ⟨w3, hw3⟩ : ∃ w3 : World, w3 = wr := ⟨_, rfl⟩
        rw [← hw3] at hX hY hC hL hB ⊢
        clear hb hw3 hbx hyo hap hxs
        have HRV := Lib.hid (good_rev HG.out)
        have HRT := Lib.hid (good_rot HG.out t)
        have HM1 := Lib.hid (rev_most HG.out)
        have HM2 := Lib.hid (rot_most HG.out t)
        have HK1 := Lib.hid (rev_length HG.out)
        have HK2 := Lib.hid (rot_length HG.out t)
        obtain ⟨M, hM⟩ : ∃ M, M = mostOf b ls := ⟨_, rfl⟩
        obtain ⟨cnt, hcnt⟩ : ∃ cnt, cnt = (longOf b ls).length := ⟨_, rfl⟩
        rw [← hM] at HM1 HM2
        rw [← hcnt] at HK1 HK2
        have HM := Lib.hid hM
        have HCN := Lib.hid hcnt
        clear hM hcnt
        have k0 := hC.c0
        go_wp2_with fail
        refine (llong_ok _ _ b ls w3 hC.bv hL H0.out).mono ?_
        rintro e w4 hp
        clear k0
        obtain ⟨rfl, hb⟩ := hp
        replace hC := hC.call hb
        replace hL := hL.call hb
        replace hB := hB.trans ((hb).mono hB.size)
        replace hX := hX.call hb
        replace hY := hY.call hb
        clear hb d3
        rw [← HM.out]
        have k0 := hC.c0
        go_wp2_with fail
        refine (llong_ok _ _ b (revL ls) w4 hC.bv hX (good_mk HRV.out)).mono ?_
        rintro e w5 hp
        clear k0
        obtain ⟨rfl, hb⟩ := hp
        replace hC := hC.call hb
        replace hL := hL.call hb
        replace hB := hB.trans ((hb).mono hB.size)
        replace hX := hX.call hb
        replace hY := hY.call hb
        clear hb
        rw [HM1.out]
        have k0 := hC.c0
        go_wp2_with fail
        refine (llong_ok _ _ b (rotL ls t) w5 hC.bv hY (good_mk HRT.out)).mono ?_
        rintro e w6 hp
        clear k0
        obtain ⟨rfl, hb⟩ := hp
        replace hC := hC.call hb
        replace hL := hL.call hb
        replace hB := hB.trans ((hb).mono hB.size)
        replace hX := hX.call hb
        replace hY := hY.call hb
        clear hb
        rw [HM2.out]
        have k0 := hC.c0
        go_wp2_with fail
        refine (countP_ok _ _ b ls w6 hC.bv hL).mono ?_
        rintro e w7 hp
        clear k0
        rw [countM_good H0.out] at hp
        obtain ⟨rfl, hb⟩ := hp
        replace hC := hC.call hb
        replace hL := hL.call hb
        replace hB := hB.trans ((hb).mono hB.size)
        replace hX := hX.call hb
        replace hY := hY.call hb
        clear hb
        rw [← HCN.out]
        have k0 := hC.c0
        go_wp2_with fail
        refine (countP_ok _ _ b (revL ls) w7 hC.bv hX).mono ?_
        rintro e w8 hp
        clear k0
        rw [countM_good (good_mk HRV.out), HK1.out] at hp
        obtain ⟨rfl, hb⟩ := hp
        replace hC := hC.call hb
        replace hL := hL.call hb
        replace hB := hB.trans ((hb).mono hB.size)
        replace hX := hX.call hb
        replace hY := hY.call hb
        clear hb
        have k0 := hC.c0
        go_wp2_with fail
        refine (countP_ok _ _ b (rotL ls t) w8 hC.bv hY).mono ?_
        rintro e w9 hp
        clear k0
        rw [countM_good (good_mk HRT.out), HK2.out] at hp
        obtain ⟨rfl, hb⟩ := hp
        replace hC := hC.call hb
        replace hL := hL.call hb
        replace hB := hB.trans ((hb).mono hB.size)
        replace hX := hX.call hb
        replace hY := hY.call hb
        clear hb
        have hg1 := gradesM_good H0.out (h := hh) (by rw [← HN.out]; exact hhl)
        have hg2 := gradesM_good (good_mk HRV.out) (h := hh) (by unfold revL; rw [List.length_map, ← HN.out]; exact hhl)
        obtain ⟨T, hT⟩ : ∃ T, T = (ls.getD hh []).length := ⟨_, rfl⟩
        have HT := Lib.hid hT
        have hT8 : T ≤ 8 := by rw [hT]; exact HG.out.eight _ (getD_in (by rw [← HN.out]; exact hhl))
        obtain ⟨G1, hG1⟩ : ∃ G, G = gradesOf b ls hh := ⟨_, rfl⟩
        obtain ⟨G2, hG2⟩ : ∃ G, G = gradesOf b (revL ls) hh := ⟨_, rfl⟩
        have HGL1 : Hid (G1.length = T) := by rw [Hid, hG1, hT]; exact grades_len b ls hh
        have hrvl : ((revL ls).getD hh []).length = T := by
          rw [hT]
          unfold revL
          rw [List.getD_eq_getElem?_getD, List.getElem?_map, getD_some [] (show hh < ls.length by rw [← HN.out]; exact hhl)]
          simp
        have HGL2 : Hid (G2.length = T) := by rw [Hid, hG2, ← hrvl]; exact grades_len b (revL ls) hh
        have HREV : Hid (∀ i, i < T → G2[T - 1 - i]? = G1[i]?) := fun i hi => by
          rw [hG1, hG2, hT]
          exact rev_grades HG.out (by rw [← HN.out]; exact hhl) (by rw [← hT]; exact hi)
        rw [← hG1] at hg1
        rw [← hG2] at hg2
        have HG1 := Lib.hid hg1
        have HG2 := Lib.hid hg2
        have HGG1 := Lib.hid hG1
        clear hT hG1 hG2 hrvl hg1 hg2
        have k0 := hC.c0
        go_wp2_with fail
        refine (gradesP_ok _ _ b ls (hh : Int) w9 hC.bv hL).mono ?_
        rintro e w10 hp
        clear k0
        rw [HG1.out] at hp
        obtain ⟨gv, rfl, hGa, hb⟩ := hp
        obtain ⟨gA, gc, rfl, -⟩ := id hGa
        simp only [HGL1.out] at hGa
        rw [HGL1.out]
        replace hC := hC.call hb
        replace hL := hL.call hb
        replace hB := hB.trans ((hb).mono hB.size)
        replace hX := hX.call hb
        replace hY := hY.call hb
        clear hb
        have k0 := hC.c0
        go_wp2_with fail
        refine (gradesP_ok _ _ b (revL ls) (hh : Int) w10 hC.bv hX).mono ?_
        rintro e w11 hp
        clear k0
        rw [HG2.out] at hp
        obtain ⟨rv, rfl, hGr, hb⟩ := hp
        obtain ⟨rA, rc, rfl, -⟩ := id hGr
        simp only [HGL2.out] at hGr
        rw [HGL2.out]
        replace hC := hC.call hb
        replace hL := hL.call hb
        replace hB := hB.trans ((hb).mono hB.size)
        replace hY := hY.call hb
        replace hGa := hGa.call hb
        clear hb hX hL
        obtain ⟨A, hA⟩ : ∃ A, A = t % n := ⟨_, rfl⟩
        have hAn : A < n := by rw [hA]; exact Nat.mod_lt _ (by omega)
        obtain ⟨Q, hQ⟩ : ∃ Q, Q = hh + (n - A) := ⟨_, rfl⟩
        obtain ⟨J, hJ⟩ : ∃ J, J = Q % n := ⟨_, rfl⟩
        have hJn : J < n := by rw [hJ]; exact Nat.mod_lt _ (by omega)
        have hrot := rot_grades HG.out t (j := J) (by rw [← HN.out]; exact hJn)
        have hgi : (J + t) % ls.length = hh := by
          rw [← HN.out, hJ, hQ, hA]
          exact rot_hearer hhl
        rw [hgi, ← HGG1.out] at hrot
        have hg3 := gradesM_good (good_mk HRT.out) (h := J) (by rw [rotL_len, ← HN.out]; exact hJn)
        rw [hrot] at hg3
        have HG3 := Lib.hid hg3
        have m1 : (t : Int).tmod (n : Int) = (A : Int) := by rw [hA]; rfl
        have g1 : IntKind.i64.wrap (t : Int) = t := wrap_id _ (by omega) (by omega)
        have g2 : IntKind.i64.wrap (A : Int) = A := wrap_id _ (by omega) (by omega)
        have g3 : IntKind.i64.wrap ((hh : Int) - (A : Int)) = (hh : Int) - (A : Int) := wrap_id _ (by omega) (by omega)
        have g4 : IntKind.i64.wrap ((hh : Int) - (A : Int) + (n : Int)) = (Q : Int) := by rw [wrap_id _ (by omega) (by omega)]; omega
        have m3 : (Q : Int).tmod (n : Int) = (J : Int) := by rw [hJ]; rfl
        have g5 : IntKind.i64.wrap (J : Int) = J := wrap_id _ (by omega) (by omega)
        have f0 := Ext.of hC.c0
        clear hA hQ hJ hrot hgi hg3
        go_upto_region 23 with (fail)
        refine ways_start 18 (fun w' => ∃ x : Ext w11, w' = x.w) (by rfl) (by kernel_rfl) ?_
        have hx : Below w11.heap.size w11 w11.drew := (Below.refl w11.heap.size w11).drew
        generalize w11.drew = v0 at *
        refine ways_q 0 (by rfl) (by rfl) (by kernel_rfl) (by kernel_rfl) (by kernel_rfl) (by rfl) ⟨⟨v0, hx⟩, rfl⟩ ?_
        intro K hK
        go_big_quiet_op
        go_big_quiet_on
        refine ways_q 1 (by rfl) (by rfl) (by kernel_rfl) (by kernel_rfl) (by kernel_rfl) (by rfl) ⟨⟨v0, hx⟩, rfl⟩ ?_
        intro K hK
        go_big_quiet_op
        go_big_quiet_on
        refine ways_q 2 (by rfl) (by rfl) (by kernel_rfl) (by kernel_rfl) (by kernel_rfl) (by rfl) ⟨⟨v0, hx⟩, rfl⟩ ?_
        intro K hK
        go_big_quiet_op
        go_big_quiet_on
        refine ways_q 3 (by rfl) (by rfl) (by kernel_rfl) (by kernel_rfl) (by kernel_rfl) (by rfl) ⟨⟨v0, hx⟩, rfl⟩ ?_
        intro K hK
        go_big_quiet_op
        go_big_quiet_on
        refine ways_q 4 (by rfl) (by rfl) (by kernel_rfl) (by kernel_rfl) (by kernel_rfl) (by rfl) ⟨⟨v0, hx⟩, rfl⟩ ?_
        intro K hK
        go_big_quiet_op
        go_big_quiet_on
        refine ways_q 5 (by rfl) (by rfl) (by kernel_rfl) (by kernel_rfl) (by kernel_rfl) (by rfl) ⟨⟨v0, hx⟩, rfl⟩ ?_
        intro K hK
        go_big_quiet_op
        go_big_quiet_on
        refine ways_q 6 (by rfl) (by rfl) (by kernel_rfl) (by kernel_rfl) (by kernel_rfl) (by rfl) ⟨⟨v0, hx⟩, rfl⟩ ?_
        intro K hK
        go_big_quiet_op
        go_big_quiet_on
        refine ways_q 7 (by rfl) (by rfl) (by kernel_rfl) (by kernel_rfl) (by kernel_rfl) (by rfl) ⟨⟨v0, hx⟩, rfl⟩ ?_
        intro K hK
        go_big_quiet_op
        go_big_quiet_on
        refine ways_q 8 (by rfl) (by rfl) (by kernel_rfl) (by kernel_rfl) (by kernel_rfl) (by rfl) ⟨⟨v0, hx⟩, rfl⟩ ?_
        intro K hK
        go_big_quiet_op
        go_big_quiet_on
        refine ways_q 9 (by rfl) (by rfl) (by kernel_rfl) (by kernel_rfl) (by kernel_rfl) (by rfl) ⟨⟨v0, hx⟩, rfl⟩ ?_
        intro K hK
        go_big_quiet_op
        go_big_quiet_on
        refine ways_q 10 (by rfl) (by rfl) (by kernel_rfl) (by kernel_rfl) (by kernel_rfl) (by rfl) ⟨⟨v0, hx⟩, rfl⟩ ?_
        intro K hK
        go_big_quiet_op
        go_big_quiet_on
        refine ways_q 11 (by rfl) (by rfl) (by kernel_rfl) (by kernel_rfl) (by kernel_rfl) (by rfl) ⟨⟨v0, hx⟩, rfl⟩ ?_
        intro K hK
        go_big_quiet_op
        go_big_quiet_on
        have hgr := gradesP_ok _ _ b (rotL ls t) (J : Int) v0 (hC.call hx).bv (hY.call hx)
        rw [HG3.out] at hgr
        refine ways_1 12 (by kernel_rfl) ?_
        refine ⟨_, _, (by rfl), (by rfl), ?_⟩
        intro K' hK'
        go_wp2_with fail
        refine hgr.mono ?_
        rintro e v1 ⟨sv, rfl, hGs, hb⟩
        obtain ⟨sA, sc, rfl, -⟩ := id hGs
        replace hx := hx.trans (hb.mono hx.size)
        clear hgr hb
        go_wp2
        refine hK' _ _ ⟨⟨⟨v1, hx⟩, rfl⟩, ?_⟩
        clear hK' K'
        refine ways_1 13 (by kernel_rfl) ?_
        refine ⟨_, _, (by rfl), (by rfl), ?_⟩
        intro K' hK'
        go_wp2
        refine hK' _ _ ⟨⟨⟨v1, hx⟩, rfl⟩, ?_⟩
        clear hK' K'
        refine ways_q 14 (by rfl) (by rfl) (by kernel_rfl) (by kernel_rfl) (by kernel_rfl) (by rfl) ⟨⟨v1, hx⟩, rfl⟩ ?_
        intro K hK
        go_big_quiet_op
        go_big_quiet_on
        refine ways_q 15 (by rfl) (by rfl) (by kernel_rfl) (by kernel_rfl) (by kernel_rfl) (by rfl) ⟨⟨v1, hx⟩, rfl⟩ ?_
        intro K hK
        go_big_quiet_op
        go_big_quiet_on
        refine ways_q 16 (by rfl) (by rfl) (by kernel_rfl) (by kernel_rfl) (by kernel_rfl) (by rfl) ⟨⟨v1, hx⟩, rfl⟩ ?_
        intro K hK
        go_big_quiet_op
        go_big_quiet_on
        refine ways_q 17 (by rfl) (by rfl) (by kernel_rfl) (by kernel_rfl) (by kernel_rfl) (by rfl) ⟨⟨v1, hx⟩, rfl⟩ ?_
        intro K hK
        go_big_quiet_op
        go_big_quiet_on
        refine ways_end (by kernel_rfl) ?_
        simp only [HGL1.out] at hGs
        rw [HGL1.out]
        replace hB := hB.trans (hx.mono hB.size)
        replace hGa := hGa.call hx
        replace hGr := hGr.call hx
        clear f0 m1 g1 g2 g3 g4 m3 g5 hx hC hY nz
        have dM : ((M : Int) != (M : Int)) = false := by simp
        have dC : ((cnt : Int) != (cnt : Int)) = false := by simp
        have dT : ((T : Int) != (T : Int)) = false := by simp
        have hmt := intsT _ _ G1 v1 hGa hGs
        go_wp2_with fail
        refine hmt.mono ?_
        rintro e v2 ⟨rfl, hb⟩
        replace hB := hB.trans (hb.mono hB.size)
        replace hGa := hGa.call hb
        replace hGr := hGr.call hb
        clear hmt hb hGs
        go_wp2
        clear dM dC dT
        go_loopw [34] (fun i wr => ∃ k : Nat, k ≤ T ∧ i = .int .i64 k ∧ Below v2.heap.size v2 wr) (fun i _ => T - (intOf i).toNat)
        case atStart => exact ⟨0, Nat.zero_le _, rfl, Below.refl _ _⟩
        case round =>
          obtain ⟨k, hk, rfl, hb⟩ := hrel
          by_cases hlt : k < T
          · have d8 : decide (k < T) = true := decide_eq_true hlt
            have d8' : decide ((k : Int) < (T : Int)) = true := decide_eq_true (by omega)
            have hki : (k : Int) < (T : Int) := by omega
            obtain ⟨q, hq⟩ : ∃ q, q = T - 1 - k := ⟨_, rfl⟩
            have hqT : q < T := by omega
            have hqi : (q : Int) < (T : Int) := by omega
            have hrv := HREV.out k hlt
            rw [← hq] at hrv
            obtain ⟨gb, go, rfl, -, hgc⟩ := num_at (hGa.call hb) (k := k) (by rw [HGL1.out]; exact hlt)
            obtain ⟨rb, ro, rfl, -, hrc⟩ := num_at (hGr.call hb) (k := q) (by rw [HGL2.out]; exact hqT)
            have hxy : G2.getD q 0 = G1.getD k 0 := by rw [List.getD_eq_getElem?_getD, List.getD_eq_getElem?_getD, hrv]
            rw [hxy] at hrc
            obtain ⟨x, hx⟩ : ∃ x, x = G1.getD k 0 := ⟨_, rfl⟩
            rw [← hx] at hgc hrc
            have e1 : IntKind.i64.wrap ((T : Int) - 1) = (T : Int) - 1 := wrap_id _ (by omega) (by omega)
            have e2 : IntKind.i64.wrap ((T : Int) - 1 - (k : Int)) = (q : Int) := by rw [wrap_id _ (by omega) (by omega)]; omega
            have dx : ((x : Int) != x) = false := by simp
            have f0 := Ext.of hgc
            have f1 := Ext.of hrc
            clear hx hxy hrv hgc hrc hq
            go_upto_region 29 with (fail)
            refine wp_region_ext (by kernel_rfl) (by kernel_rfl) ?_
            repeat (go_big_quiet_step (fail))
            refine wpQuiet_nil ?_
            intro _ hw'
            obtain ⟨xr, hw''⟩ := hw'
            subst hw''
            have hb2 := hb.trans (xr.h.mono hb.size)
            go_wp2
            go_roundw
            case rel => exact ⟨k + 1, by omega, by go_num, hb2⟩
            case measure => (simp [intOf]; try omega)
          · obtain rfl : T = k := by omega
            have d8 : decide (T < T) = false := by simp
            replace hB := hB.trans (hb.mono hB.size)
            clear hb
            go_wp2_with fail
            refine (works_ok _).mono ?_
            rintro e wz ⟨rfl, hbz⟩
            have hBz := hB.trans (hbz.mono hB.size)
            go_wp2
            try rw [Exit.noGoto_ret]
            go_ret
            exact ⟨rfl, hBz⟩
end Go.Proofs.Ytgngpdnppdbgoaa
