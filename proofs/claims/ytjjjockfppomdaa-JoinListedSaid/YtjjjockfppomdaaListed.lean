/- Contract of the law JoinListed: true. -/
import Derived.Test.YtjjjockfppomdaaJsp
import Derived.Test.YtjjjockfppomdaaSml
import Derived.Test.YtjjjockfppomdaaWrk
import Derived.WalkLawsBesides
namespace Go.Proofs.Ytjjjockfppomdaa
open Go.RowKit Go.Shelf
set_option linter.unusedVariables false

set_option maxRecDepth 100000 in
set_option maxHeartbeats 6400000 in
theorem listed_ok (v lv : Value) (c : Cyl) (one two : Int) (l : List St) (w : World) (hv : CylV w w.heap.size v c) (hl : Arr w w.heap.size 2 lv l stcell) (h1 : (Lit.int .u32 one).wf = true) (h2 : (Lit.int .u32 two).wf = true) :
    Calls Try.prog 6 #[v, .int .u32 one, .int .u32 two, lv] w fun r w' => r = .returned (.bool true) ∧ Below w.heap.size w w' := by
  obtain ⟨one, rfl, ho⟩ := u32_nat h1
  obtain ⟨two, rfl, ht⟩ := u32_nat h2
  obtain ⟨la, lc, rfl, hl1, hl2, -⟩ := id hl
  clear h1 h2
  have HO := Lib.hid ho
  have HT := Lib.hid ht
  clear ho ht
  obtain ⟨pa, pc, rfl, hp⟩ := hv.open_
  have hC := CB.new hp
  have hB := (Below.refl w.heap.size w).alloc (Nat.le_refl _) (.cells #[.slice pa c.pcs.length pc, .int .i64 c.off, .int .i64 c.slo, .int .i64 c.shi] 26)
  go_enter Try.func6, Try.ntmps6
  go_upto_region 1 with (fail)
  have HWS : Hid ((w.alloc (.cells #[.slice pa c.pcs.length pc, .int .i64 c.off, .int .i64 c.slo, .int .i64 c.shi] 26)).heap.size = w.heap.size + 1) := by simp [Hid]
  generalize hW : w.alloc (.cells #[.slice pa c.pcs.length pc, .int .i64 c.off, .int .i64 c.slo, .int .i64 c.shi] 26) = W at *
  clear hW hp
  have hgx := hB.size
  obtain ⟨k0, k1, k2, k3⟩ := hC.c4
  go_wp2_with fail
  refine (fine_ok _ c W hC.cyl).mono ?_
  rintro e w1 hp
  clear k0 k1 k2 k3
  obtain ⟨rfl, hb⟩ := hp
  replace hC := hC.call hb
  replace hB := hB.trans ((hb).mono hB.size)
  clear hb
  by_cases hbad : checkCyl c ≠ 0 ∨ 12 < l.length
  · by_cases hbad1 : checkCyl c ≠ 0
    · have d1 : decide (checkCyl c = 0) = false := by simpa using hbad1
      go_wp2_with fail
      refine (works_ok w1).mono ?_
      rintro e w2 ⟨rfl, hb⟩
      replace hB := hB.trans (hb.mono hB.size)
      clear hb
      go_wp2
      go_ret
      exact ⟨rfl, hB⟩
    · have d1 : decide (checkCyl c = 0) = true := by simpa using hbad1
      have hlong : 12 < l.length := by omega
      have d2 : decide ((12 : Int) < (l.length : Int)) = true := by simp; omega
      have d2' : decide (12 < l.length) = true := by simpa using hlong
      go_wp2_with fail
      refine (works_ok w1).mono ?_
      rintro e w2 ⟨rfl, hb⟩
      replace hB := hB.trans (hb.mono hB.size)
      clear hb
      go_wp2
      go_ret
      exact ⟨rfl, hB⟩
  · have h0 : checkCyl c = 0 := by omega
    have hls : l.length ≤ 12 := by omega
    have d1 : decide (checkCyl c = 0) = true := by simpa using h0
    have d2 : decide ((12 : Int) < (l.length : Int)) = false := by simp; omega
    have d2' : decide (12 < l.length) = false := by simp; omega
    obtain ⟨n, hn⟩ : ∃ n, n = (joinsS c).length := ⟨_, rfl⟩
    have hcnt : countM c = ((n : Int), 0) := by rw [countM_good h0, hn]
    have hN1 : nthM c (n : Int) = ([], 3) := nthM_bad h0 (.inr (by omega))
    have hN2 : nthM c (-1) = ([], 3) := nthM_bad h0 (.inl (by omega))
    have HN32 : Hid (n ≤ 4294967296) := by rw [Hid, hn]; exact joins_i64 (good_len h0).2
    have hn0 : ¬ ((n : Int) < 0) := by omega
    have HNN := Lib.hid hn
    clear hbad hn
    obtain ⟨k0, k1, k2, k3⟩ := hC.c4
    go_wp2_with fail
    refine (count_ok _ c w1 hC.cyl).mono ?_
    rintro e w2 hp
    clear k0 k1 k2 k3
    rw [hcnt] at hp
    obtain ⟨rfl, hb⟩ := hp
    replace hC := hC.call hb
    replace hB := hB.trans ((hb).mono hB.size)
    clear hb
    obtain ⟨k0, k1, k2, k3⟩ := hC.c4
    go_wp2_with fail
    refine (nthP_ok _ c n w2 hC.cyl).mono ?_
    rintro e w3 hp
    clear k0 k1 k2 k3
    obtain ⟨uA, uc, rfl, -, hb⟩ := hp.at_ hN1
    replace hC := hC.call hb
    replace hB := hB.trans ((hb).mono hB.size)
    clear hb hp
    obtain ⟨k0, k1, k2, k3⟩ := hC.c4
    go_wp2_with fail
    refine (nthP_ok _ c (-1) w3 hC.cyl).mono ?_
    rintro e w4 hp
    clear k0 k1 k2 k3
    obtain ⟨tA, tc, rfl, -, hb⟩ := hp.at_ hN2
    replace hC := hC.call hb
    replace hB := hB.trans ((hb).mono hB.size)
    clear hb hp
    obtain ⟨k0, k1, k2, k3⟩ := hC.c4
    go_wp2_with fail
    refine (rank_ok _ _ c l w4 hC.cyl ((hl.below hB).more hB.size)).mono ?_
    rintro e w5 hp
    clear k0 k1 k2 k3
    have hrest : ∃ k e, rankM c l = (k, e) ∧ ((checkJoin c l = 0 ∧ e = 0 ∧ ∃ m : Nat, k = (m : Int) ∧ (joinsS c)[m]? = some l) ∨ (checkJoin c l ≠ 0 ∧ e = checkJoin c l)) := by
      by_cases hj : checkJoin c l = 0
      · obtain ⟨m, hm⟩ : ∃ m, (joinsS c)[m]? = some l := ⟨_, rank_at (mem_joinsS.2 (checkJoin_iff.1 hj).2)⟩
        exact ⟨_, _, rankM_good h0 hm, .inl ⟨hj, rfl, m, rfl, hm⟩⟩
      · refine ⟨0, checkJoin c l, ?_, .inr ⟨hj, rfl⟩⟩
        unfold rankM
        rw [if_pos hj]
    obtain ⟨k, e2, hrk, hcase⟩ := hrest
    rw [hrk] at hp
    obtain ⟨rfl, hb⟩ := hp
    replace hC := hC.call hb
    replace hB := hB.trans ((hb).mono hB.size)
    clear hb hrk hcnt hN1 hN2
    obtain ⟨e3, he3⟩ : ∃ e3, e3 = checkJoin c l := ⟨_, rfl⟩
    rw [← he3] at hcase
    have HE3 := Lib.hid he3
    have hrj := rcheckJoin_ok _ _ c l w5 hC.cyl ((hl.below hB).more hB.size)
    rw [← he3] at hrj
    clear he3
    obtain ⟨k0, k1, k2, k3⟩ := hC.c4
    go_wp2_with fail
    refine (hrj).mono ?_
    rintro e w6 hp
    clear k0 k1 k2 k3
    obtain ⟨rfl, hb⟩ := hp
    replace hC := hC.call hb
    replace hB := hB.trans ((hb).mono hB.size)
    clear hb hrj
    go_upto_if 74 with (fail)
    go_cut [] from 73 to 106 (fun wx => Below w6.heap.size w6 wx)
    case first =>
      have hlx := (hl.below hB).more hB.size
      rcases hcase with ⟨hj, rfl, m, rfl, hm⟩ | ⟨hj, rfl⟩
      · have d3 : (e3 == 0) = true := by simpa using hj
        obtain ⟨k0, k1, k2, k3⟩ := hC.c4
        go_wp2_with fail
        refine (nthP_ok _ c m w6 hC.cyl).mono ?_
        rintro e w7 hp
        obtain ⟨xA, xc, rfl, hx, hb⟩ := hp.at_ (nthM_good h0 hm)
        replace hlx := (hlx.below hb).more hb.size
        have hm1 : ¬ ((m : Int) < 0) := by omega
        have hm2 : ¬ ((n : Int) ≤ (m : Int)) := by
          have := (List.getElem?_eq_some_iff.1 hm).1
          have := HNN.out
          omega
        clear k0 k1 k2 k3 hp
        go_wp2_with fail
        refine (sameT _ _ _ w7 hx hlx).mono ?_
        rintro e w8 ⟨rfl, hb2⟩
        replace hb := hb.trans (hb2.mono hb.size)
        clear hb2 hx hlx
        go_wp2
        go_meet
        case rel => exact hb
      · have d3 : (e2 == 0) = false := by simpa using hj
        have hrj := rcheckJoin_ok _ _ c l w6 hC.cyl hlx
        rw [← HE3.out] at hrj
        obtain ⟨k0, k1, k2, k3⟩ := hC.c4
        clear hj
        go_wp2_with fail
        refine hrj.mono ?_
        rintro e w7 ⟨rfl, hb⟩
        clear k0 k1 k2 k3 hrj
        go_wp2
        go_meet
        case rel => exact hb
    case rest =>
      replace hC := hC.call hcut
      replace hB := hB.trans (hcut.mono hB.size)
      clear hcut hcase HE3 hls d2 d2' HWS hgx hl hl1 hl2 hv
      by_cases hz : n = 0
      · have d3 : ((n : Int) == 0) = true := by simp; omega
        go_wp2_with fail
        refine (works_ok wc).mono ?_
        rintro e wd ⟨rfl, hb⟩
        replace hB := hB.trans (hb.mono hB.size)
        clear hb
        go_wp2
        go_ret
        exact ⟨rfl, hB⟩
      · have d3 : ((n : Int) == 0) = false := by simp; omega
        obtain ⟨A, hA⟩ : ∃ A, A = one % n := ⟨_, rfl⟩
        obtain ⟨B, hB2⟩ : ∃ B, B = two % n := ⟨_, rfl⟩
        have hA1 : A < n := by rw [hA]; exact Nat.mod_lt _ (by omega)
        have hB1 : B < n := by rw [hB2]; exact Nat.mod_lt _ (by omega)
        have c1 : IntKind.i64.wrap (one : Int) = one := wrap_id _ (by omega) (by have := HO.out; omega)
        have c2 : IntKind.i64.wrap (two : Int) = two := wrap_id _ (by omega) (by have := HT.out; omega)
        have m1 : (one : Int).tmod (n : Int) = (A : Int) := by rw [hA]; rfl
        have m2 : (two : Int).tmod (n : Int) = (B : Int) := by rw [hB2]; rfl
        have c3 : IntKind.i64.wrap (A : Int) = A := wrap_id _ (by omega) (by have := HN32.out; omega)
        have c4 : IntKind.i64.wrap (B : Int) = B := wrap_id _ (by omega) (by have := HN32.out; omega)
        clear hA hB2
        go_upto_region 17 with (fail)
        refine wp_region_ext (by kernel_rfl) (by kernel_rfl) ?_
        repeat (go_big_quiet_step (fail))
        refine wpQuiet_nil ?_
        intro _ hw'
        obtain ⟨xr, hw''⟩ := hw'
        subst hw''
        have hb := xr.h
        replace hC := hC.call hb
        replace hB := hB.trans ((hb).mono hB.size)
        clear hb c1 c2 m1 m2 c3 c4
        generalize xr.w = W2 at *
        have hat : ∀ k, k < n → ∃ z, (joinsS c)[k]? = some z := fun k hk => ⟨_, List.getElem?_eq_getElem (by have := HNN.out; omega)⟩
        rcases Nat.lt_trichotomy A B with hlt | hlt | hlt
        · obtain ⟨x, hmx⟩ := hat A hA1
          obtain ⟨y, hmy⟩ := hat B hB1
          have hxy := joinsS_at_lt hmx hmy hlt
          have hne : x ≠ y := by
            rintro rfl
            rw [lessB_irrefl] at hxy
            cases hxy
          have e1 : (A : Int) < B := by omega
          have e2 : ¬ (B : Int) < A := by omega
          have e3 : ((A : Int) == B) = false := by simp; omega
          have e4 : ((A : Int) != B) = true := by simp; omega
          clear hat hlt
          have d5 : lessB x y = true := hxy
          have d6 : decide (x = y) = false := (by simpa using hne)
          obtain ⟨k0, k1, k2, k3⟩ := hC.c4
          go_wp2_with fail
          refine (nthP_ok _ c A W2 hC.cyl).mono ?_
          rintro e w7 hp
          obtain ⟨xA, xc, rfl, hX, hb⟩ := hp.at_ (nthM_good h0 hmx)
          clear k0 k1 k2 k3 hp
          replace hC := hC.call hb
          replace hB := hB.trans ((hb).mono hB.size)
          clear hb
          obtain ⟨k0, k1, k2, k3⟩ := hC.c4
          go_wp2_with fail
          refine (nthP_ok _ c B w7 hC.cyl).mono ?_
          rintro e w8 hp
          obtain ⟨yA, yc, rfl, hY, hb⟩ := hp.at_ (nthM_good h0 hmy)
          clear k0 k1 k2 k3 hp
          replace hC := hC.call hb
          replace hB := hB.trans ((hb).mono hB.size)
          replace hX := (hX.below hb).more hb.size
          clear hb
          obtain ⟨k0, k1, k2, k3⟩ := hC.c4
          have hrj := rcheckJoin_ok _ _ c x w8 hC.cyl hX
          rw [checkJoin_iff.2 ⟨h0, mem_joinsS.1 (List.mem_of_getElem? hmx)⟩] at hrj
          go_wp2_with fail
          refine hrj.mono ?_
          rintro e w9 ⟨rfl, hb⟩
          clear k0 k1 k2 k3 hrj
          replace hC := hC.call hb
          replace hB := hB.trans ((hb).mono hB.size)
          replace hX := (hX.below hb).more hb.size
          replace hY := (hY.below hb).more hb.size
          clear hb
          obtain ⟨k0, k1, k2, k3⟩ := hC.c4
          have hrj := rcheckJoin_ok _ _ c y w9 hC.cyl hY
          rw [checkJoin_iff.2 ⟨h0, mem_joinsS.1 (List.mem_of_getElem? hmy)⟩] at hrj
          go_wp2_with fail
          refine hrj.mono ?_
          rintro e w10 ⟨rfl, hb⟩
          clear k0 k1 k2 k3 hrj
          replace hC := hC.call hb
          replace hB := hB.trans ((hb).mono hB.size)
          replace hX := (hX.below hb).more hb.size
          replace hY := (hY.below hb).more hb.size
          clear hb
          have hls := less_ok _ _ x y w10 hX hY
          rw [d5] at hls
          go_wp2_with fail
          refine hls.mono ?_
          rintro e w11 ⟨rfl, hb⟩
          clear hls
          replace hC := hC.call hb
          replace hB := hB.trans ((hb).mono hB.size)
          replace hX := (hX.below hb).more hb.size
          replace hY := (hY.below hb).more hb.size
          clear hb
          have hls := same_ok _ _ x y w11 hX hY
          rw [d6] at hls
          go_wp2_with fail
          refine hls.mono ?_
          rintro e w12 ⟨rfl, hb⟩
          clear hls
          replace hC := hC.call hb
          replace hB := hB.trans ((hb).mono hB.size)
          replace hX := (hX.below hb).more hb.size
          replace hY := (hY.below hb).more hb.size
          clear hb
          obtain ⟨k0, k1, k2, k3⟩ := hC.c4
          have hrk := rank_ok _ _ c x w12 hC.cyl hX
          rw [rankM_good h0 hmx] at hrk
          go_wp2_with fail
          refine hrk.mono ?_
          rintro e w13 ⟨rfl, hb⟩
          clear k0 k1 k2 k3 hrk
          replace hC := hC.call hb
          replace hB := hB.trans ((hb).mono hB.size)
          replace hY := (hY.below hb).more hb.size
          clear hb
          obtain ⟨k0, k1, k2, k3⟩ := hC.c4
          have hrk := rank_ok _ _ c y w13 hC.cyl hY
          rw [rankM_good h0 hmy] at hrk
          go_wp2_with fail
          refine hrk.mono ?_
          rintro e w14 ⟨rfl, hb⟩
          clear k0 k1 k2 k3 hrk hX hY
          replace hC := hC.call hb
          replace hB := hB.trans ((hb).mono hB.size)
          clear hb
          go_wp2_with fail
          refine (works_ok w14).mono ?_
          rintro e w15 ⟨rfl, hb⟩
          replace hB := hB.trans (hb.mono hB.size)
          clear hb
          go_wp2
          go_ret
          exact ⟨rfl, hB⟩
        · subst hlt
          obtain ⟨x, hmx⟩ := hat A hA1
          obtain ⟨y, hmy⟩ := hat A hA1
          have hxy : x = y := by
            rw [hmx] at hmy
            injection hmy
          have HXY := Lib.hid hxy
          clear hat hxy
          have d5 : lessB x y = false := (by rw [HXY.out, lessB_irrefl])
          have d6 : decide (x = y) = true := (by simpa using HXY.out)
          obtain ⟨k0, k1, k2, k3⟩ := hC.c4
          go_wp2_with fail
          refine (nthP_ok _ c A W2 hC.cyl).mono ?_
          rintro e w7 hp
          obtain ⟨xA, xc, rfl, hX, hb⟩ := hp.at_ (nthM_good h0 hmx)
          clear k0 k1 k2 k3 hp
          replace hC := hC.call hb
          replace hB := hB.trans ((hb).mono hB.size)
          clear hb
          obtain ⟨k0, k1, k2, k3⟩ := hC.c4
          go_wp2_with fail
          refine (nthP_ok _ c A w7 hC.cyl).mono ?_
          rintro e w8 hp
          obtain ⟨yA, yc, rfl, hY, hb⟩ := hp.at_ (nthM_good h0 hmy)
          clear k0 k1 k2 k3 hp
          replace hC := hC.call hb
          replace hB := hB.trans ((hb).mono hB.size)
          replace hX := (hX.below hb).more hb.size
          clear hb
          obtain ⟨k0, k1, k2, k3⟩ := hC.c4
          have hrj := rcheckJoin_ok _ _ c x w8 hC.cyl hX
          rw [checkJoin_iff.2 ⟨h0, mem_joinsS.1 (List.mem_of_getElem? hmx)⟩] at hrj
          go_wp2_with fail
          refine hrj.mono ?_
          rintro e w9 ⟨rfl, hb⟩
          clear k0 k1 k2 k3 hrj
          replace hC := hC.call hb
          replace hB := hB.trans ((hb).mono hB.size)
          replace hX := (hX.below hb).more hb.size
          replace hY := (hY.below hb).more hb.size
          clear hb
          obtain ⟨k0, k1, k2, k3⟩ := hC.c4
          have hrj := rcheckJoin_ok _ _ c y w9 hC.cyl hY
          rw [checkJoin_iff.2 ⟨h0, mem_joinsS.1 (List.mem_of_getElem? hmy)⟩] at hrj
          go_wp2_with fail
          refine hrj.mono ?_
          rintro e w10 ⟨rfl, hb⟩
          clear k0 k1 k2 k3 hrj
          replace hC := hC.call hb
          replace hB := hB.trans ((hb).mono hB.size)
          replace hX := (hX.below hb).more hb.size
          replace hY := (hY.below hb).more hb.size
          clear hb
          have hls := less_ok _ _ x y w10 hX hY
          rw [d5] at hls
          go_wp2_with fail
          refine hls.mono ?_
          rintro e w11 ⟨rfl, hb⟩
          clear hls
          replace hC := hC.call hb
          replace hB := hB.trans ((hb).mono hB.size)
          replace hX := (hX.below hb).more hb.size
          replace hY := (hY.below hb).more hb.size
          clear hb
          have hls := same_ok _ _ x y w11 hX hY
          rw [d6] at hls
          go_wp2_with fail
          refine hls.mono ?_
          rintro e w12 ⟨rfl, hb⟩
          clear hls
          replace hC := hC.call hb
          replace hB := hB.trans ((hb).mono hB.size)
          replace hX := (hX.below hb).more hb.size
          replace hY := (hY.below hb).more hb.size
          clear hb
          obtain ⟨k0, k1, k2, k3⟩ := hC.c4
          have hrk := rank_ok _ _ c x w12 hC.cyl hX
          rw [rankM_good h0 hmx] at hrk
          go_wp2_with fail
          refine hrk.mono ?_
          rintro e w13 ⟨rfl, hb⟩
          clear k0 k1 k2 k3 hrk
          replace hC := hC.call hb
          replace hB := hB.trans ((hb).mono hB.size)
          replace hY := (hY.below hb).more hb.size
          clear hb
          obtain ⟨k0, k1, k2, k3⟩ := hC.c4
          have hrk := rank_ok _ _ c y w13 hC.cyl hY
          rw [rankM_good h0 hmy] at hrk
          go_wp2_with fail
          refine hrk.mono ?_
          rintro e w14 ⟨rfl, hb⟩
          clear k0 k1 k2 k3 hrk hX hY
          replace hC := hC.call hb
          replace hB := hB.trans ((hb).mono hB.size)
          clear hb
          go_wp2_with fail
          refine (works_ok w14).mono ?_
          rintro e w15 ⟨rfl, hb⟩
          replace hB := hB.trans (hb.mono hB.size)
          clear hb
          go_wp2
          go_ret
          exact ⟨rfl, hB⟩
        · obtain ⟨x, hmx⟩ := hat B hB1
          obtain ⟨y, hmy⟩ := hat A hA1
          have hxy := joinsS_at_lt hmx hmy hlt
          have hne : x ≠ y := by
            rintro rfl
            rw [lessB_irrefl] at hxy
            cases hxy
          have e1 : (B : Int) < A := by omega
          have e2 : ¬ (A : Int) < B := by omega
          have e3 : ((A : Int) == B) = false := by simp; omega
          have e4 : ((A : Int) != B) = true := by simp; omega
          clear hat hlt
          have d5 : lessB x y = true := hxy
          have d6 : decide (x = y) = false := (by simpa using hne)
          obtain ⟨k0, k1, k2, k3⟩ := hC.c4
          go_wp2_with fail
          refine (nthP_ok _ c B W2 hC.cyl).mono ?_
          rintro e w7 hp
          obtain ⟨xA, xc, rfl, hX, hb⟩ := hp.at_ (nthM_good h0 hmx)
          clear k0 k1 k2 k3 hp
          replace hC := hC.call hb
          replace hB := hB.trans ((hb).mono hB.size)
          clear hb
          obtain ⟨k0, k1, k2, k3⟩ := hC.c4
          go_wp2_with fail
          refine (nthP_ok _ c A w7 hC.cyl).mono ?_
          rintro e w8 hp
          obtain ⟨yA, yc, rfl, hY, hb⟩ := hp.at_ (nthM_good h0 hmy)
          clear k0 k1 k2 k3 hp
          replace hC := hC.call hb
          replace hB := hB.trans ((hb).mono hB.size)
          replace hX := (hX.below hb).more hb.size
          clear hb
          obtain ⟨k0, k1, k2, k3⟩ := hC.c4
          have hrj := rcheckJoin_ok _ _ c x w8 hC.cyl hX
          rw [checkJoin_iff.2 ⟨h0, mem_joinsS.1 (List.mem_of_getElem? hmx)⟩] at hrj
          go_wp2_with fail
          refine hrj.mono ?_
          rintro e w9 ⟨rfl, hb⟩
          clear k0 k1 k2 k3 hrj
          replace hC := hC.call hb
          replace hB := hB.trans ((hb).mono hB.size)
          replace hX := (hX.below hb).more hb.size
          replace hY := (hY.below hb).more hb.size
          clear hb
          obtain ⟨k0, k1, k2, k3⟩ := hC.c4
          have hrj := rcheckJoin_ok _ _ c y w9 hC.cyl hY
          rw [checkJoin_iff.2 ⟨h0, mem_joinsS.1 (List.mem_of_getElem? hmy)⟩] at hrj
          go_wp2_with fail
          refine hrj.mono ?_
          rintro e w10 ⟨rfl, hb⟩
          clear k0 k1 k2 k3 hrj
          replace hC := hC.call hb
          replace hB := hB.trans ((hb).mono hB.size)
          replace hX := (hX.below hb).more hb.size
          replace hY := (hY.below hb).more hb.size
          clear hb
          have hls := less_ok _ _ x y w10 hX hY
          rw [d5] at hls
          go_wp2_with fail
          refine hls.mono ?_
          rintro e w11 ⟨rfl, hb⟩
          clear hls
          replace hC := hC.call hb
          replace hB := hB.trans ((hb).mono hB.size)
          replace hX := (hX.below hb).more hb.size
          replace hY := (hY.below hb).more hb.size
          clear hb
          have hls := same_ok _ _ x y w11 hX hY
          rw [d6] at hls
          go_wp2_with fail
          refine hls.mono ?_
          rintro e w12 ⟨rfl, hb⟩
          clear hls
          replace hC := hC.call hb
          replace hB := hB.trans ((hb).mono hB.size)
          replace hX := (hX.below hb).more hb.size
          replace hY := (hY.below hb).more hb.size
          clear hb
          obtain ⟨k0, k1, k2, k3⟩ := hC.c4
          have hrk := rank_ok _ _ c x w12 hC.cyl hX
          rw [rankM_good h0 hmx] at hrk
          go_wp2_with fail
          refine hrk.mono ?_
          rintro e w13 ⟨rfl, hb⟩
          clear k0 k1 k2 k3 hrk
          replace hC := hC.call hb
          replace hB := hB.trans ((hb).mono hB.size)
          replace hY := (hY.below hb).more hb.size
          clear hb
          obtain ⟨k0, k1, k2, k3⟩ := hC.c4
          have hrk := rank_ok _ _ c y w13 hC.cyl hY
          rw [rankM_good h0 hmy] at hrk
          go_wp2_with fail
          refine hrk.mono ?_
          rintro e w14 ⟨rfl, hb⟩
          clear k0 k1 k2 k3 hrk hX hY
          replace hC := hC.call hb
          replace hB := hB.trans ((hb).mono hB.size)
          clear hb
          go_wp2_with fail
          refine (works_ok w14).mono ?_
          rintro e w15 ⟨rfl, hb⟩
          replace hB := hB.trans (hb.mono hB.size)
          clear hb
          go_wp2
          go_ret
          exact ⟨rfl, hB⟩
end Go.Proofs.Ytjjjockfppomdaa
