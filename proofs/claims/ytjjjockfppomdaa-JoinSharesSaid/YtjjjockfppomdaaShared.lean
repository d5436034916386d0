/- Contract of the law JoinShared: true. -/
import Derived.Test.YtjjjockfppomdaaJsp
import Derived.Test.YtjjjockfppomdaaSml
import Derived.Test.YtjjjockfppomdaaWrk
namespace Go.Proofs.Ytjjjockfppomdaa
open Go.RowKit Go.Shelf
set_option linter.unusedVariables false

theorem pairsOf_at : ∀ {l : List St} {k : Nat} {x y : St}, l[k]? = some x → l[k + 1]? = some y → (pairsOf l)[k]? = some (x, y)
  | [], _, _, _, h, _ => by simp at h
  | [_], _, _, _, _, h => by simp at h
  | a :: b :: r, 0, x, y, h, h' => by
    simp at h h'
    subst h h'
    rfl
  | a :: b :: r, k + 1, x, y, h, h' => by
    rw [pairsOf, List.getElem?_cons_succ]
    exact pairsOf_at (by simpa using h) (by simpa using h')
theorem Blk.put4 {w : World} {g : Nat} {t : TypeId} {x0 x1 x2 x3 : Value} (h : Blk w g t #[x0, x1, x2, x3]) (a b c d : Value) :
    Blk ((((w.setCell ⟨g, 0, none⟩ a).setCell ⟨g, 1, none⟩ b).setCell ⟨g, 2, none⟩ c).setCell ⟨g, 3, none⟩ d) g t #[a, b, c, d] := by
  simpa using (((h.set_ 0 a).set_ 1 b).set_ 2 c).set_ 3 d
theorem pass_len8 {c : Cyl} (h8 : c.pcs.length ≤ 8) : (passS c).length ≤ 256 := by
  have h1 : (stepsOf c).length ≤ 16 := steps_le c h8
  unfold passS
  rw [List.length_flatMap]
  have h2 : ((stepsOf c).map fun a => (((stepsOf c).filter fun b => (joinsS c).all fun l => hasS l (a, b)).map fun b => (a, b)).length).sum ≤ (stepsOf c).length * 16 := sum_le fun a _ => by
    rw [List.length_map]
    exact Nat.le_trans (List.length_filter_le _ _) h1
  omega

set_option maxRecDepth 100000 in
set_option maxHeartbeats 6400000 in
theorem shared_ok (v : Value) (c : Cyl) (number ar : Int) (w : World) (hv : CylV w w.heap.size v c) (h1 : (Lit.int .u32 number).wf = true) (h2 : (Lit.int .u8 ar).wf = true) :
    Calls Try.prog 8 #[v, .int .u32 number, .int .u8 ar] w fun r w' => r = .returned (.bool true) ∧ Below w.heap.size w w' := by
  obtain ⟨num, rfl, ho⟩ := u32_nat h1
  obtain ⟨ar, rfl, ha⟩ := u8_nat h2
  have HO := Lib.hid ho
  have HA8 := Lib.hid ha
  clear h1 h2 ho ha
  obtain ⟨pa, pc, rfl, hp⟩ := hv.open_
  have hC := CB.new hp
  have hB := (Below.refl w.heap.size w).alloc (Nat.le_refl _) (.cells #[.slice pa c.pcs.length pc, .int .i64 c.off, .int .i64 c.slo, .int .i64 c.shi] 26)
  go_enter Try.func8, Try.ntmps8
  go_upto_region 1 with (fail)
  have HWS : Hid ((w.alloc (.cells #[.slice pa c.pcs.length pc, .int .i64 c.off, .int .i64 c.slo, .int .i64 c.shi] 26)).heap.size = w.heap.size + 1) := by simp [Hid]
  generalize hW : w.alloc (.cells #[.slice pa c.pcs.length pc, .int .i64 c.off, .int .i64 c.slo, .int .i64 c.shi] 26) = W at *
  clear hW hp
  clear hv HWS
  obtain ⟨k0, k1, k2, k3⟩ := hC.c4
  go_wp2_with fail
  refine (fine_ok _ c W hC.cyl).mono ?_
  rintro e w1 hp
  clear k0 k1 k2 k3
  obtain ⟨rfl, hb⟩ := hp
  replace hC := hC.call hb
  replace hB := hB.trans ((hb).mono hB.size)
  clear hb
  by_cases h0 : checkCyl c = 0
  · have d1 : decide (checkCyl c = 0) = true := by simpa using h0
    obtain ⟨n, hn⟩ : ∃ n, n = (joinsS c).length := ⟨_, rfl⟩
    have HNN := Lib.hid hn
    have HN32 : Hid (n ≤ 4294967296) := by rw [Hid, hn]; exact joins_i64 (good_len h0).2
    have hcnt : countM c = ((n : Int), 0) := by rw [countM_good h0, hn]
    clear hn
    obtain ⟨k0, k1, k2, k3⟩ := hC.c4
    go_wp2_with fail
    refine (count_ok _ c w1 hC.cyl).mono ?_
    rintro e w2 hp
    clear k0 k1 k2 k3
    rw [hcnt] at hp
    obtain ⟨rfl, hb⟩ := hp
    replace hC := hC.call hb
    replace hB := hB.trans ((hb).mono hB.size)
    clear hb hcnt
    have hn0 : ¬ ((n : Int) < 0) := by omega
    by_cases hz : n = 0
    · have hj : joinsS c = [] := List.length_eq_zero_iff.1 (by rw [← HNN.out, hz])
      have hpm := passM_none h0 hj
      have d3 : ((n : Int) == 0) = true := by simp; omega
      clear hj hz
      obtain ⟨k0, k1, k2, k3⟩ := hC.c4
      go_wp2_with fail
      refine (passages_ok _ c w2 hC.cyl).mono ?_
      rintro e w3 hp
      clear k0 k1 k2 k3
      obtain ⟨pA, pq, rfl, -, hb⟩ := hp.at_ hpm
      replace hC := hC.call hb
      replace hB := hB.trans ((hb).mono hB.size)
      clear hb hp hpm
      go_wp2_with fail
      refine (works_ok w3).mono ?_
      rintro e w4 ⟨rfl, hb⟩
      replace hB := hB.trans (hb.mono hB.size)
      clear hb
      go_wp2
      go_ret
      exact ⟨rfl, hB⟩
    · have hj : joinsS c ≠ [] := fun e => hz (by rw [HNN.out, e]; rfl)
      obtain ⟨P, hP⟩ : ∃ P, P = passS c := ⟨_, rfl⟩
      have HP := Lib.hid hP
      have hpm : passM c = (P, 0) := by rw [hP]; exact passM_good h0 hj
      have d3 : ((n : Int) == 0) = false := by simp; omega
      have HZ := Lib.hid hz
      clear hP hj hz
      obtain ⟨k0, k1, k2, k3⟩ := hC.c4
      go_wp2_with fail
      refine (passages_ok _ c w2 hC.cyl).mono ?_
      rintro e w3 hp
      clear k0 k1 k2 k3
      obtain ⟨pA, pq, rfl, hPA, hb⟩ := hp.at_ hpm
      replace hC := hC.call hb
      replace hB := hB.trans ((hb).mono hB.size)
      clear hb hp hpm
      obtain ⟨A, hA⟩ : ∃ A, A = num % n := ⟨_, rfl⟩
      have hA1 : A < n := by rw [hA]; exact Nat.mod_lt _ (by have := HZ.out; omega)
      obtain ⟨l, hl⟩ : ∃ l, (joinsS c)[A]? = some l := ⟨_, List.getElem?_eq_getElem (by have := HNN.out; omega)⟩
      have c1 : IntKind.i64.wrap (num : Int) = num := wrap_id _ (by omega) (by have := HO.out; omega)
      have m1 : (num : Int).tmod (n : Int) = (A : Int) := by rw [hA]; rfl
      have c3 : IntKind.i64.wrap (A : Int) = A := wrap_id _ (by omega) (by have := HN32.out; omega)
      clear hA
      obtain ⟨k0, k1, k2, k3⟩ := hC.c4
      have f0 := Ext.of k0
      have f1 := Ext.of k1
      have f2 := Ext.of k2
      have f3 := Ext.of k3
      clear k0 k1 k2 k3
      go_upto_region 9 with (fail)
      refine wp_region_schedH (C := fun w' => ∃ x : Ext w3, w' = x.w) [(0, true), (1, true), (2, true), (3, true), (4, false), (5, false), (6, true), (7, true), (8, true), (9, true), (10, true)] (by kernel_rfl) (by kernel_rfl) ⟨⟨w3.drew, (Below.refl _ w3).drew⟩, rfl⟩ ?_
      refine schedH_q (by rfl) (by rfl) ?_
      intro K hK
      go_big_quiet_op
      go_big_quiet_on
      refine schedH_q (by rfl) (by rfl) ?_
      intro K hK
      go_big_quiet_op
      go_big_quiet_on
      refine schedH_q (by rfl) (by rfl) ?_
      intro K hK
      go_big_quiet_op
      go_big_quiet_on
      refine schedH_q (by rfl) (by rfl) ?_
      intro K hK
      go_big_quiet_op
      go_big_quiet_on
      refine schedH_c (by rfl) (by rfl) ?_
      intro K' hK'
      have hx : Below w3.heap.size w3 w3.drew := (Below.refl _ w3).drew
      go_wp2
      refine hK' _ _ ⟨⟨⟨w3.drew, hx⟩, rfl⟩, ?_⟩
      clear hK' K'
      refine schedH_c (by rfl) (by rfl) ?_
      intro K' hK'
      have hCx := hC.call hx
      go_wp2_with fail
      refine (nthP_ok _ c A w3.drew hCx.cyl).mono ?_
      rintro e w4 hp
      obtain ⟨lA, lc, rfl, hL, hb⟩ := hp.at_ (nthM_good h0 hl)
      replace hx := hx.trans (hb.mono hx.size)
      go_wp2
      refine hK' _ _ ⟨⟨⟨w4, hx⟩, rfl⟩, ?_⟩
      clear hK' K'
      clear hb hp hCx
      refine schedH_q (by rfl) (by rfl) ?_
      intro K hK
      go_big_quiet_op
      go_big_quiet_on
      refine schedH_q (by rfl) (by rfl) ?_
      intro K hK
      go_big_quiet_op
      go_big_quiet_on
      refine schedH_q (by rfl) (by rfl) ?_
      intro K hK
      go_big_quiet_op
      go_big_quiet_on
      refine schedH_q (by rfl) (by rfl) ?_
      intro K hK
      go_big_quiet_op
      go_big_quiet_on
      refine schedH_q (by rfl) (by rfl) ?_
      intro K hK
      go_big_quiet_op
      go_big_quiet_on
      refine schedH_nil ?_
      clear f0 f1 f2 f3 c1 m1 c3
      replace hC := hC.call hx
      replace hB := hB.trans (hx.mono hB.size)
      replace hPA := (hPA.below hx).more hx.size
      clear hx
      have hlJ : l ∈ joinsS c := List.mem_of_getElem? hl
      have hgood := checkJoin_iff.2 ⟨h0, mem_joinsS.1 hlJ⟩
      have HLL := Lib.hid (And.intro (mem_joinsS.1 hlJ).1 (good_len h0))
      have hph : Hid (∀ p ∈ P, hasS l p = true) := by
        rintro ⟨a, b⟩ hp
        rw [HP.out] at hp
        exact (mem_passS.1 hp).2.2 l hlJ
      have hpo : Hid (∀ (i : Nat) (p q : St × St), P[i]? = some p → P[i + 1]? = some q → befP p q = true) := by
        intro i p q hp hq
        rw [HP.out] at hp hq
        obtain ⟨g1, rfl⟩ := List.getElem?_eq_some_iff.1 hp
        obtain ⟨g2, rfl⟩ := List.getElem?_eq_some_iff.1 hq
        exact List.pairwise_iff_getElem.1 (passS_sorted c) i (i + 1) g1 g2 (by omega)
      have HPL : Hid (P.length ≤ 1000) := by
        have := pass_len8 (c := c) (good_len h0).2
        rw [Hid, HP.out]
        omega
      have HL := Lib.hid hl
      have hrj := rcheckJoin_ok _ _ c l w4 hC.cyl hL
      rw [hgood] at hrj
      obtain ⟨k0, k1, k2, k3⟩ := hC.c4
      clear hl hgood
      go_wp2_with fail
      refine hrj.mono ?_
      rintro e w5 ⟨rfl, hb⟩
      clear k0 k1 k2 k3 hrj
      replace hC := hC.call hb
      replace hB := hB.trans ((hb).mono hB.size)
      replace hL := (hL.below hb).more hb.size
      replace hPA := (hPA.below hb).more hb.size
      clear hb
      go_wp2
      go_loopw [13] (fun i wr => ∃ k : Nat, k ≤ P.length ∧ i = .int .i64 k ∧ Below w5.heap.size w5 wr) (fun i _ => P.length - (intOf i).toNat)
      case atStart => exact ⟨0, Nat.zero_le _, rfl, Below.refl _ _⟩
      case round =>
        obtain ⟨k, hk, rfl, hbr⟩ := hrel
        by_cases hk1 : k < P.length
        · have d3 : decide (k < P.length) = true := by simpa using hk1
          have d3' : decide ((k : Int) < (P.length : Int)) = true := by simp; omega
          have hki : (k : Int) < (P.length : Int) := by omega
          obtain ⟨pb, po, p, hpa, hpb, hp1, hp2⟩ := hPA.at_ hk1
          subst hpa
          have f0 := Ext.of ((hbr.cell (p := ⟨pb, po + k * 4, none⟩) hpb).trans (hp2 0 (by omega)))
          have f1 := Ext.of ((hbr.cell (p := ⟨pb, po + k * 4 + 1, none⟩) hpb).trans (hp2 1 (by omega)))
          have f2 := Ext.of ((hbr.cell (p := ⟨pb, po + k * 4 + 2, none⟩) hpb).trans (hp2 2 (by omega)))
          have f3 := Ext.of ((hbr.cell (p := ⟨pb, po + k * 4 + 3, none⟩) hpb).trans (hp2 3 (by omega)))
          simp only [pcell] at f0 f1 f2 f3
          have hLr := (hL.below hbr).more hbr.size
          have HA1 : Hid (∀ y : Ext wr, Calls Try.prog 37 #[.slice lA l.length lc, pairV p] y.w fun r w' => r = .returned (.bool true) ∧ ∃ z : Ext wr, w' = z.w) := fun y => by
            have := has_ok _ l p y.w ((hLr.below y.h).more y.h.size)
            rw [hph.out p (List.mem_of_getElem? hp1)] at this
            exact ext_call y this
          have ek : IntKind.i64.wrap ((k : Int) + 1) = ((k + 1 : Nat) : Int) := by have := HPL.out; rw [IntKind.wrap_i64]; omega
          by_cases hk0 : k = 0
          · have e1 : decide ((0 : Int) < (k : Int)) = false := decide_eq_false (by omega)
            have e1' : decide (0 < k) = false := decide_eq_false (by omega)
            have hk0' := Lib.hid hk0
            clear hp1 hp2 hk0
            go_upto_region 15 with (fail)
            refine wp_region_ext (by kernel_rfl) (by kernel_rfl) ?_
            repeat (go_big_quiet_step ((go_at_call 37; with_reducible exact HA1.out _)))
            refine wpQuiet_nil ?_
            intro _ hw'
            obtain ⟨xr, hw''⟩ := hw'
            subst hw''
            have hbz := hbr.trans (xr.h.mono hbr.size)
            go_wp2
            go_roundw
            case rel => exact ⟨k + 1, by omega, by go_num, hbz⟩
            case measure => (simp [intOf]; try omega)
          · obtain ⟨m, hm⟩ : ∃ m, k = m + 1 := ⟨k - 1, by omega⟩
            have HM := Lib.hid hm
            obtain ⟨pb', po', q, hpa', hpb', hq1, hq2⟩ := hPA.at_ (show m < P.length by omega)
            injection hpa' with hpa'
            injection hpa' with e3 e4
            subst e3 e4
            have f4 := Ext.of ((hbr.cell (p := ⟨pb, po + m * 4, none⟩) hpb).trans (hq2 0 (by omega)))
            have f5 := Ext.of ((hbr.cell (p := ⟨pb, po + m * 4 + 1, none⟩) hpb).trans (hq2 1 (by omega)))
            have f6 := Ext.of ((hbr.cell (p := ⟨pb, po + m * 4 + 2, none⟩) hpb).trans (hq2 2 (by omega)))
            have f7 := Ext.of ((hbr.cell (p := ⟨pb, po + m * 4 + 3, none⟩) hpb).trans (hq2 3 (by omega)))
            simp only [pcell] at f4 f5 f6 f7
            have hbf := hpo.out m q p hq1 (by rw [← hm]; exact hp1)
            have HA2 : Hid (∀ y : Ext wr, Calls Try.prog 38 #[pairV q, pairV p] y.w fun r w' => r = .returned (.bool true) ∧ ∃ z : Ext wr, w' = z.w) := fun y => by
              have := before2_ok q p y.w
              rw [hbf] at this
              exact ext_call y this
            have e1 : decide ((0 : Int) < (k : Int)) = true := decide_eq_true (by omega)
            have e1' : decide (0 < k) = true := decide_eq_true (by omega)
            have e2 : IntKind.i64.wrap ((k : Int) - 1) = (m : Int) := by have := HPL.out; rw [IntKind.wrap_i64]; omega
            have hmi : (m : Int) < (P.length : Int) := by omega
            clear hp1 hp2 hq1 hq2 hbf hk0 hpb' hm
            go_upto_region 15 with (fail)
            refine wp_region_ext (by kernel_rfl) (by kernel_rfl) ?_
            repeat (go_big_quiet_step ((first | (go_at_call 37; with_reducible exact HA1.out _) | (go_at_call 38; with_reducible exact HA2.out _))))
            refine wpQuiet_nil ?_
            intro _ hw'
            obtain ⟨xr, hw''⟩ := hw'
            subst hw''
            have hbz := hbr.trans (xr.h.mono hbr.size)
            go_wp2
            go_roundw
            case rel => exact ⟨k + 1, by omega, by go_num, hbz⟩
            case measure => (simp [intOf]; try omega)
        · obtain rfl : k = P.length := by omega
          have d3 : decide (P.length < P.length) = false := by simp
          obtain ⟨wv, rfl⟩ : ∃ wv : World, wv = wr := ⟨wr, rfl⟩
          replace hC := hC.call hbr
          replace hB := hB.trans (hbr.mono hB.size)
          replace hL := (hL.below hbr).more hbr.size
          clear hbr hPA hk hk1 hph hpo
          obtain ⟨K, hK⟩ : ∃ K, K = ar % l.length := ⟨_, rfl⟩
          have hKl : K < l.length := by rw [hK]; exact Nat.mod_lt _ (by have := HLL.out; omega)
          have c1 : IntKind.i64.wrap (ar : Int) = ar := wrap_id _ (by omega) (by have := HA8.out; omega)
          have m1 : (ar : Int).tmod (l.length : Int) = (K : Int) := by rw [hK]; rfl
          have c3 : IntKind.i64.wrap (K : Int) = K := wrap_id _ (by omega) (by have := HLL.out; omega)
          have nz : ((l.length : Int) == 0) = false := beq_false_of_ne (by have := HLL.out; omega)
          clear hK
          go_upto_region 18 with (fail)
          clear c1 m1 c3 nz
          obtain ⟨xb, xo, s, hxa, hxb, hs1, hs2⟩ := hL.at_ hKl
          subst hxa
          have hstep := joinsS_step hlJ (List.mem_of_getElem? hs1)
          obtain ⟨R, hR⟩ : ∃ R, R = rivS c s := ⟨_, rfl⟩
          have hrm : rivM c s = (R, 0) := by
            rw [rivM_good h0 hstep, if_pos, hR]
            rw [List.any_eq_true]
            exact ⟨l, hlJ, by rw [List.contains_iff_mem]; exact List.mem_of_getElem? hs1⟩
          have HR := Lib.hid hR
          have HS1 := Lib.hid hs1
          obtain ⟨k0, k1, k2, k3⟩ := hC.c4
          have c0 := hs2 0 (by omega)
          have c1 := hs2 1 (by omega)
          simp only [Nat.add_zero, stcell] at c0 c1
          have f0 := Ext.of k0
          have f1 := Ext.of k1
          have f2 := Ext.of k2
          have f3 := Ext.of k3
          have f4 := Ext.of c0
          have f5 := Ext.of c1
          have hKi : (K : Int) < (l.length : Int) := by omega
          clear hR hs1 hs2 k0 k1 k2 k3 c0 c1 hstep
          refine wp_region_schedH (C := fun w' => ∃ x : Ext wv, w' = x.w) [(0, true), (1, true), (2, true), (3, true), (4, true), (5, false), (6, true), (7, true), (8, true), (9, true), (10, true)] (by kernel_rfl) (by kernel_rfl) ⟨⟨wv.drew, (Below.refl _ wv).drew⟩, rfl⟩ ?_
          refine schedH_q (by rfl) (by rfl) ?_
          intro K hK
          go_big_quiet_op
          go_big_quiet_on
          refine schedH_q (by rfl) (by rfl) ?_
          intro K hK
          go_big_quiet_op
          go_big_quiet_on
          refine schedH_q (by rfl) (by rfl) ?_
          intro K hK
          go_big_quiet_op
          go_big_quiet_on
          refine schedH_q (by rfl) (by rfl) ?_
          intro K hK
          go_big_quiet_op
          go_big_quiet_on
          refine schedH_q (by rfl) (by rfl) ?_
          intro K hK
          go_big_quiet_op
          go_big_quiet_on
          refine schedH_c (by rfl) (by rfl) ?_
          intro K' hK'
          have hx : Below wv.heap.size wv wv.drew := (Below.refl _ wv).drew
          have hCx := hC.call hx
          go_wp2_with fail
          refine (rivals_ok _ c s wv.drew hCx.cyl).mono ?_
          rintro e w6 hp
          obtain ⟨rA, rc, rfl, hRA, hb⟩ := hp.at_ hrm
          replace hx := hx.trans (hb.mono hx.size)
          go_wp2
          refine hK' _ _ ⟨⟨⟨w6, hx⟩, rfl⟩, ?_⟩
          clear hK' K'
          clear hb hp hCx hrm
          refine schedH_q (by rfl) (by rfl) ?_
          intro K hK
          go_big_quiet_op
          go_big_quiet_on
          refine schedH_q (by rfl) (by rfl) ?_
          intro K hK
          go_big_quiet_op
          go_big_quiet_on
          refine schedH_q (by rfl) (by rfl) ?_
          intro K hK
          go_big_quiet_op
          go_big_quiet_on
          refine schedH_q (by rfl) (by rfl) ?_
          intro K hK
          go_big_quiet_op
          go_big_quiet_on
          refine schedH_q (by rfl) (by rfl) ?_
          intro K hK
          go_big_quiet_op
          go_big_quiet_on
          refine schedH_nil ?_
          clear f0 f1 f2 f3 f4 f5
          replace hC := hC.call hx
          replace hB := hB.trans (hx.mono hB.size)
          replace hL := (hL.below hx).more hx.size
          clear hx hxb
          obtain ⟨M, hM⟩ : ∃ M, M = min (K + 1) (l.length - 1) := ⟨_, rfl⟩
          obtain ⟨y, hy⟩ : ∃ y, l[M]? = some y := ⟨_, List.getElem?_eq_getElem (by have := HLL.out; omega)⟩
          obtain ⟨F0, hF0⟩ : ∃ F0, F0 = decide (K + 1 = l.length) := ⟨_, rfl⟩
          have hfd : Hid (F0 || R.any fun x => decide (x = y)) := by
            rw [Hid, hF0]
            by_cases hlast : K + 1 = l.length
            · simp [hlast]
            · have hMK : M = K + 1 := by omega
              rw [hMK] at hy
              have hr := riv_next hlJ HS1.out hy
              rw [← HR.out] at hr
              rw [Bool.or_eq_true, List.any_eq_true]
              exact .inr ⟨y, hr, by simp⟩
          have e1 : IntKind.i64.wrap ((K : Int) + 1) = ((K : Int) + 1) := wrap_id _ (by omega) (by have := HLL.out; omega)
          have e2 : ((K : Int) + 1 == (l.length : Int)) = F0 := by rw [hF0, Bool.eq_iff_iff]; simp; omega
          have HM := Lib.hid hM
          have HF := Lib.hid hF0
          clear hF0 hM
          go_upto_region 22 with (fail)
          clear e2
          have HRL : Hid (R.length ≤ 16) := by
            rw [Hid, HR.out]
            exact Nat.le_trans (List.length_filter_le _ _) (steps_le c (good_len h0).2)
          have HFD := hfd
          have HY := Lib.hid hy
          clear hfd hy
          go_wp2
          go_loopw [17, 18] (fun f i wr => ∃ k : Nat, k ≤ R.length ∧ i = .int .i64 k ∧ f = .bool (F0 || (R.take k).any fun x => decide (x = y)) ∧ Below w6.heap.size w6 wr) (fun _ i _ => R.length - (intOf i).toNat)
          case atStart => exact ⟨0, Nat.zero_le _, rfl, by simp, Below.refl _ _⟩
          case round =>
            obtain ⟨k, hk, rfl, rfl, hbr⟩ := hrel
            by_cases hk1 : k < R.length
            · have d4 : decide (k < R.length) = true := by simpa using hk1
              have d4' : decide ((k : Int) < (R.length : Int)) = true := by simp; omega
              have hki : (k : Int) < (R.length : Int) := by omega
              obtain ⟨qb, qo, x, hqa, hqb, hx1, hx2⟩ := hRA.at_ hk1
              subst hqa
              have ek : IntKind.i64.wrap ((k : Int) + 1) = ((k + 1 : Nat) : Int) := by have := HRL.out; rw [IntKind.wrap_i64]; omega
              have hnx : (R.take (k + 1)).any (fun x => decide (x = y)) = ((R.take k).any (fun x => decide (x = y)) || decide (x = y)) := by
                rw [take_snoc hx1, List.any_append]
                simp
              obtain ⟨F, hF⟩ : ∃ F, F = (F0 || (R.take k).any fun x => decide (x = y)) := ⟨_, rfl⟩
              rw [← hF]
              cases F
              · have hF0 : F0 = false := by
                  cases h : F0
                  · rfl
                  · rw [h] at hF; simp at hF
                have hnot : K + 1 < l.length := by
                  have := HF.out
                  rw [hF0] at this
                  have := of_decide_eq_false this.symm
                  omega
                have HN : Hid ((F0 || (R.take (k + 1)).any fun x => decide (x = y)) = decide (x = y)) := by
                  rw [Hid, hnx, ← Bool.or_assoc, ← hF, Bool.false_or]
                obtain ⟨xb', xo', y', hya, hyb, hy1, hy2⟩ := hL.at_ hnot
                injection hya with hya
                injection hya with e3 e4
                subst e3 e4
                have hMK : M = K + 1 := by have := HM.out; omega
                have hyy : y' = y := by
                  have := HY.out
                  rw [hMK, hy1] at this
                  injection this
                subst hyy
                have f0 := Ext.of ((hbr.cell (p := ⟨qb, qo + k * 2 + 0, none⟩) hqb).trans (hx2 0 (by omega)))
                have f1 := Ext.of ((hbr.cell (p := ⟨qb, qo + k * 2 + 1, none⟩) hqb).trans (hx2 1 (by omega)))
                have f2 := Ext.of ((hbr.cell (p := ⟨xb, xo + (K + 1) * 2 + 0, none⟩) hyb).trans (hy2 0 (by omega)))
                have f3 := Ext.of ((hbr.cell (p := ⟨xb, xo + (K + 1) * 2 + 1, none⟩) hyb).trans (hy2 1 (by omega)))
                simp only [Nat.add_zero, stcell] at f0 f1 f2 f3
                have e3 : IntKind.i64.wrap ((l.length : Int) - 1) = (l.length : Int) - 1 := wrap_id _ (by omega) (by have := HLL.out; omega)
                have e4 : ¬ ((l.length : Int) - 1 < (K : Int) + 1) := by omega
                obtain ⟨xp, xt⟩ := x
                obtain ⟨yp, yt⟩ := y'
                have H1 : Hid (decide ((⟨xp, xt⟩ : St) = ⟨yp, yt⟩) = (xp == yp && xt == yt)) := by rw [Hid, Bool.eq_iff_iff]; simp
                have hq : ∀ w', (Op.equalIn 10000 28 (.agg #[.int .i64 xp, .bool xt]) (.agg #[.int .i64 yp, .bool yt])).run Try.prog w' = .ok (xp == yp && xt == yt) w' := fun w' => eq_st _ _ _ _ w'
                clear hx1 hx2 hy1 hy2 hF hnx hMK hyb hF0
                go_upto_region 25 with (fail)
                refine wp_region_schedH (C := fun w' => ∃ x : Ext wr, w' = x.w) [(0, true), (1, true), (2, true), (3, true), (4, true), (5, true), (6, true), (7, true), (8, true), (9, true), (10, true), (11, true), (12, false), (13, true), (14, true), (15, true), (16, true), (17, true)] (by kernel_rfl) (by kernel_rfl) ⟨⟨wr.drew, (Below.refl _ wr).drew⟩, rfl⟩ ?_
                refine schedH_q (by rfl) (by rfl) ?_
                intro K hK
                go_big_quiet_op
                go_big_quiet_on
                refine schedH_q (by rfl) (by rfl) ?_
                intro K hK
                go_big_quiet_op
                go_big_quiet_on
                refine schedH_q (by rfl) (by rfl) ?_
                intro K hK
                go_big_quiet_op
                go_big_quiet_on
                refine schedH_q (by rfl) (by rfl) ?_
                intro K hK
                go_big_quiet_op
                go_big_quiet_on
                refine schedH_q (by rfl) (by rfl) ?_
                intro K hK
                go_big_quiet_op
                go_big_quiet_on
                refine schedH_q (by rfl) (by rfl) ?_
                intro K hK
                go_big_quiet_op
                go_big_quiet_on
                refine schedH_q (by rfl) (by rfl) ?_
                intro K hK
                go_big_quiet_op
                go_big_quiet_on
                refine schedH_q (by rfl) (by rfl) ?_
                intro K hK
                go_big_quiet_op
                go_big_quiet_on
                refine schedH_q (by rfl) (by rfl) ?_
                intro K hK
                go_big_quiet_op
                go_big_quiet_on
                refine schedH_q (by rfl) (by rfl) ?_
                intro K hK
                go_big_quiet_op
                go_big_quiet_on
                refine schedH_q (by rfl) (by rfl) ?_
                intro K hK
                go_big_quiet_op
                go_big_quiet_on
                refine schedH_q (by rfl) (by rfl) ?_
                intro K hK
                go_big_quiet_op
                go_big_quiet_on
                refine schedH_c (by rfl) (by rfl) ?_
                intro K' hK'
                have hx : Below wr.heap.size wr wr.drew := (Below.refl _ wr).drew
                go_wp2
                refine hK' _ _ ⟨⟨⟨wr.drew, hx⟩, rfl⟩, ?_⟩
                clear hK' K'
                refine schedH_q (by rfl) (by rfl) ?_
                intro K hK
                go_big_quiet_op
                go_big_quiet_on
                refine schedH_q (by rfl) (by rfl) ?_
                intro K hK
                go_big_quiet_op
                go_big_quiet_on
                refine schedH_q (by rfl) (by rfl) ?_
                intro K hK
                go_big_quiet_op
                go_big_quiet_on
                refine schedH_q (by rfl) (by rfl) ?_
                intro K hK
                go_big_quiet_op
                go_big_quiet_on
                refine schedH_q (by rfl) (by rfl) ?_
                intro K hK
                go_big_quiet_op
                go_big_quiet_on
                refine schedH_nil ?_
                clear f0 f1 f2 f3 hq
                replace hbr := hbr.trans (hx.mono hbr.size)
                clear hx
                go_wp2
                go_roundw
                case rel => exact ⟨k + 1, by omega, by go_num, by rw [HN.out, H1.out], hbr⟩
                case measure => (simp [intOf]; try omega)
              · have HN : Hid ((F0 || (R.take (k + 1)).any fun x => decide (x = y)) = true) := by
                  rw [Hid, hnx, ← Bool.or_assoc, ← hF, Bool.true_or]
                clear hF hnx hx1 hx2
                go_upto_region 25 with (fail)
                have hx : Below wr.heap.size wr wr.drew := (Below.refl _ wr).drew
                refine wp_region_schedH (C := fun w' => ∃ x : Ext wr, w' = x.w) [(0, true), (1, true), (2, true), (3, true), (4, true), (5, true), (6, true), (7, true), (8, true), (9, true), (10, true), (11, true), (12, false), (13, true), (14, true), (15, true), (16, true), (17, true)] (by kernel_rfl) (by kernel_rfl) ⟨⟨wr.drew, (Below.refl _ wr).drew⟩, rfl⟩ ?_
                refine schedH_q (by rfl) (by rfl) ?_
                intro K hK
                go_big_quiet_op
                go_big_quiet_on
                refine schedH_q (by rfl) (by rfl) ?_
                intro K hK
                go_big_quiet_op
                go_big_quiet_on
                refine schedH_s2 (by rfl) (by rfl) ⟨⟨wr.drew, hx⟩, rfl⟩ ?_
                intro K hK
                go_big_quiet_op
                go_big_quiet_on
                refine schedH_s2 (by rfl) (by rfl) ⟨⟨wr.drew, hx⟩, rfl⟩ ?_
                intro K hK
                go_big_quiet_op
                go_big_quiet_on
                refine schedH_s2 (by rfl) (by rfl) ⟨⟨wr.drew, hx⟩, rfl⟩ ?_
                intro K hK
                go_big_quiet_op
                go_big_quiet_on
                refine schedH_s2 (by rfl) (by rfl) ⟨⟨wr.drew, hx⟩, rfl⟩ ?_
                intro K hK
                go_big_quiet_op
                go_big_quiet_on
                refine schedH_s2 (by rfl) (by rfl) ⟨⟨wr.drew, hx⟩, rfl⟩ ?_
                intro K hK
                go_big_quiet_op
                go_big_quiet_on
                refine schedH_s2 (by rfl) (by rfl) ⟨⟨wr.drew, hx⟩, rfl⟩ ?_
                intro K hK
                go_big_quiet_op
                go_big_quiet_on
                refine schedH_s2 (by rfl) (by rfl) ⟨⟨wr.drew, hx⟩, rfl⟩ ?_
                intro K hK
                go_big_quiet_op
                go_big_quiet_on
                refine schedH_s2 (by rfl) (by rfl) ⟨⟨wr.drew, hx⟩, rfl⟩ ?_
                intro K hK
                go_big_quiet_op
                go_big_quiet_on
                refine schedH_s2 (by rfl) (by rfl) ⟨⟨wr.drew, hx⟩, rfl⟩ ?_
                intro K hK
                go_big_quiet_op
                go_big_quiet_on
                refine schedH_s2 (by rfl) (by rfl) ⟨⟨wr.drew, hx⟩, rfl⟩ ?_
                intro K hK
                go_big_quiet_op
                go_big_quiet_on
                refine schedH_s2 (by rfl) (by rfl) ⟨⟨wr.drew, hx⟩, rfl⟩ ?_
                intro K hK
                go_big_quiet_op
                go_big_quiet_on
                refine schedH_s2 (by rfl) (by rfl) ⟨⟨wr.drew, hx⟩, rfl⟩ ?_
                intro K hK
                go_big_quiet_op
                go_big_quiet_on
                refine schedH_s2 (by rfl) (by rfl) ⟨⟨wr.drew, hx⟩, rfl⟩ ?_
                intro K hK
                go_big_quiet_op
                go_big_quiet_on
                refine schedH_s2 (by rfl) (by rfl) ⟨⟨wr.drew, hx⟩, rfl⟩ ?_
                intro K hK
                go_big_quiet_op
                go_big_quiet_on
                refine schedH_q (by rfl) (by rfl) ?_
                intro K hK
                go_big_quiet_op
                go_big_quiet_on
                refine schedH_q (by rfl) (by rfl) ?_
                intro K hK
                go_big_quiet_op
                go_big_quiet_on
                refine schedH_nil ?_
                replace hbr := hbr.trans (hx.mono hbr.size)
                clear hx
                go_wp2
                go_roundw
                case rel => exact ⟨k + 1, by omega, by go_num, by rw [HN.out], hbr⟩
                case measure => (simp [intOf]; try omega)
            · obtain rfl : k = R.length := by omega
              have d4 : decide (R.length < R.length) = false := by simp
              have hF1 : (F0 || (R.take R.length).any fun x => decide (x = y)) = true := by rw [List.take_length]; exact HFD.out
              rw [hF1]
              obtain ⟨wt, rfl⟩ : ∃ wt : World, wt = wr := ⟨wr, rfl⟩
              replace hC := hC.call hbr
              replace hB := hB.trans (hbr.mono hB.size)
              replace hL := (hL.below hbr).more hbr.size
              clear hbr hRA hk hk1 hF1 HFD HF HM HY HR HS1 e1 hKi hKl HRL
              by_cases hbig : 30 < n
              · have d5 : decide ((30 : Int) < (n : Int)) = true := decide_eq_true (by omega)
                have d5' : decide (30 < n) = true := decide_eq_true hbig
                go_wp2_with fail
                refine (works_ok wt).mono ?_
                rintro e wu ⟨rfl, hb⟩
                replace hB := hB.trans (hb.mono hB.size)
                clear hb
                go_wp2
                go_ret
                exact ⟨rfl, hB⟩
              · have d5 : decide ((30 : Int) < (n : Int)) = false := decide_eq_false (by omega)
                have d5' : decide (30 < n) = false := decide_eq_false hbig
                have HN30 : Hid (n ≤ 30) := by rw [Hid]; omega
                clear hbig
                obtain ⟨G, hG⟩ : ∃ G : St × St → Bool, G = fun p => (joinsS c).all fun m => hasS m p := ⟨_, rfl⟩
                have HG := Lib.hid hG
                clear hG
                go_wp2
                go_loopw [19, 20] (fun f i wr => ∃ k : Nat, k < l.length ∧ i = .int .i64 ((k : Int) + 1) ∧ f = .int .i64 ((((pairsOf l).take k).filter G).length : Int) ∧ Below wt.heap.size wt wr) (fun _ i _ => l.length - (intOf i).toNat)
                case atStart => exact ⟨0, by have := HLL.out; omega, rfl, rfl, Below.refl _ _⟩
                case round =>
                  obtain ⟨k, hk, rfl, rfl, hbr⟩ := hrel
                  obtain ⟨lf, hlf⟩ : ∃ lf, lf = (((pairsOf l).take k).filter G).length := ⟨_, rfl⟩
                  rw [← hlf]
                  have HLF := Lib.hid hlf
                  have hlf8 : Hid (lf ≤ 8) := by
                    rw [Hid, hlf]
                    refine Nat.le_trans (List.length_filter_le _ _) ?_
                    rw [List.length_take, pairsOf_len]
                    have := HLL.out
                    omega
                  clear hlf
                  by_cases hk1 : k + 1 < l.length
                  · have d6 : decide (k + 1 < l.length) = true := by simpa using hk1
                    have d6' : decide ((k : Int) + 1 < (l.length : Int)) = true := by simp; omega
                    have hki : (k : Int) < (l.length : Int) := by omega
                    have hki2 : (k : Int) + 1 < (l.length : Int) := by omega
                    obtain ⟨xb', xo', x, hxa, hxb, hx1, hx2⟩ := hL.at_ (show k < l.length by omega)
                    obtain ⟨yb', yo', y, hya, hyb, hy1, hy2⟩ := hL.at_ hk1
                    injection hxa with hxa
                    injection hxa with e1 e2
                    subst e1 e2
                    injection hya with hya
                    injection hya with e1 e2
                    subst e1 e2
                    have hpk := pairsOf_at hx1 hy1
                    have HPK : Hid ((((pairsOf l).take (k + 1)).filter G).length = lf + if G (x, y) = true then 1 else 0) := by
                      rw [Hid, take_snoc hpk, List.filter_append, List.length_append, HLF.out]
                      congr 1
                      simp only [List.filter_cons, List.filter_nil]
                      split <;> simp_all
                    have f0 := Ext.of ((hbr.cell (p := ⟨xb, xo + k * 2 + 0, none⟩) hxb).trans (hx2 0 (by omega)))
                    have f1 := Ext.of ((hbr.cell (p := ⟨xb, xo + k * 2 + 1, none⟩) hxb).trans (hx2 1 (by omega)))
                    have f2 := Ext.of ((hbr.cell (p := ⟨xb, xo + (k + 1) * 2 + 0, none⟩) hyb).trans (hy2 0 (by omega)))
                    have f3 := Ext.of ((hbr.cell (p := ⟨xb, xo + (k + 1) * 2 + 1, none⟩) hyb).trans (hy2 1 (by omega)))
                    simp only [Nat.add_zero, stcell] at f0 f1 f2 f3
                    obtain ⟨xp, xt⟩ := x
                    obtain ⟨yp, yt⟩ := y
                    have ek : IntKind.i64.wrap (k : Int) = (k : Int) := by have := HLL.out; rw [IntKind.wrap_i64]; omega
                    clear hx1 hx2 hy1 hy2 hpk HLF hyb
                    go_upto_region 34 with (fail)
                    refine wp_region_schedH (C := fun w' => ∃ x : Ext wr, w' = x.w) [(0, true), (1, true), (2, true), (3, true), (4, true), (5, true), (6, true), (7, true), (8, true), (9, true), (10, false), (11, false)] (by kernel_rfl) (by kernel_rfl) ⟨⟨wr.drew, (Below.refl _ wr).drew⟩, rfl⟩ ?_
                    refine schedH_q (by rfl) (by rfl) ?_
                    intro K hK
                    go_big_quiet_op
                    go_big_quiet_on
                    refine schedH_q (by rfl) (by rfl) ?_
                    intro K hK
                    go_big_quiet_op
                    go_big_quiet_on
                    refine schedH_q (by rfl) (by rfl) ?_
                    intro K hK
                    go_big_quiet_op
                    go_big_quiet_on
                    refine schedH_q (by rfl) (by rfl) ?_
                    intro K hK
                    go_big_quiet_op
                    go_big_quiet_on
                    refine schedH_q (by rfl) (by rfl) ?_
                    intro K hK
                    go_big_quiet_op
                    go_big_quiet_on
                    refine schedH_q (by rfl) (by rfl) ?_
                    intro K hK
                    go_big_quiet_op
                    go_big_quiet_on
                    refine schedH_q (by rfl) (by rfl) ?_
                    intro K hK
                    go_big_quiet_op
                    go_big_quiet_on
                    refine schedH_q (by rfl) (by rfl) ?_
                    intro K hK
                    go_big_quiet_op
                    go_big_quiet_on
                    refine schedH_q (by rfl) (by rfl) ?_
                    intro K hK
                    go_big_quiet_op
                    go_big_quiet_on
                    refine schedH_q (by rfl) (by rfl) ?_
                    intro K hK
                    go_big_quiet_op
                    go_big_quiet_on
                    refine schedH_c (by rfl) (by rfl) ?_
                    intro K' hK'
                    have hX := (Blk.new wr 57 #[.int .i64 0, .bool false, .int .i64 0, .bool false]).drew
                    have hx := ((Below.refl wr.heap.size wr).alloc (Nat.le_refl _) (.cells #[.int .i64 0, .bool false, .int .i64 0, .bool false] 57)).drew
                    have hlow : wr.heap.size ≤ wr.heap.size := Nat.le_refl _
                    go_wp2
                    generalize (wr.alloc (.cells #[.int .i64 0, .bool false, .int .i64 0, .bool false] 57)).drew = v1 at *
                    refine hK' _ _ ⟨⟨⟨v1, hx⟩, rfl⟩, ?_⟩
                    clear hK' K'
                    have z0 := hX.cell 0
                    have z1 := hX.cell 1
                    have z2 := hX.cell 2
                    have z3 := hX.cell 3
                    have zf := fun i => hX.frozen i
                    simp at z0 z1 z2 z3
                    have hX4 := hX.put4 (.int .i64 xp) (.bool xt) (.int .i64 yp) (.bool yt)
                    have hx4 : Below wr.heap.size wr ((((v1.setCell ⟨wr.heap.size, 0, none⟩ (.int .i64 xp)).setCell ⟨wr.heap.size, 1, none⟩ (.bool xt)).setCell ⟨wr.heap.size, 2, none⟩ (.int .i64 yp)).setCell ⟨wr.heap.size, 3, none⟩ (.bool yt)) :=
                      (((hx.setCell (p := ⟨wr.heap.size, 0, none⟩) (Nat.le_refl _) _).setCell (p := ⟨wr.heap.size, 1, none⟩) (Nat.le_refl _) _).setCell (p := ⟨wr.heap.size, 2, none⟩) (Nat.le_refl _) _).setCell (p := ⟨wr.heap.size, 3, none⟩) (Nat.le_refl _) _
                    refine schedH_c (by rfl) (by rfl) ?_
                    intro K' hK'
                    go_wp2
                    refine hK' _ _ ⟨⟨⟨_, hx4⟩, rfl⟩, ?_⟩
                    clear hK' K'
                    refine schedH_nil ?_
                    generalize ((((v1.setCell ⟨wr.heap.size, 0, none⟩ (.int .i64 xp)).setCell ⟨wr.heap.size, 1, none⟩ (.bool xt)).setCell ⟨wr.heap.size, 2, none⟩ (.int .i64 yp)).setCell ⟨wr.heap.size, 3, none⟩ (.bool yt)) = v2 at *
                    clear f0 f1 f2 f3 ek hX hx hlow z0 z1 z2 z3 zf v1
                    replace hbr := hbr.trans (hx4.mono hbr.size)
                    clear hx4
                    generalize wr.heap.size = pg at *
                    obtain ⟨vb, hvb⟩ : ∃ vb : World, vb = v2 := ⟨_, rfl⟩
                    rw [← hvb] at hbr hX4 ⊢
                    clear hvb v2 wr
                    go_wp2
                    go_loopw [22, 23] (fun b m wr => ∃ q : Nat, q ≤ n ∧ m = .int .i64 q ∧ b = .bool (((joinsS c).take q).all fun z => hasS z (⟨xp, xt⟩, ⟨yp, yt⟩)) ∧ Below vb.heap.size vb wr) (fun _ m _ => n - (intOf m).toNat)
                    case atStart => exact ⟨0, Nat.zero_le _, rfl, rfl, Below.refl _ _⟩
                    case round =>
                      obtain ⟨q, hq, rfl, rfl, hbi⟩ := hrel
                      by_cases hq1 : q < n
                      · have d7 : decide (q < n) = true := by simpa using hq1
                        have d7' : decide ((q : Int) < (n : Int)) = true := by simp; omega
                        obtain ⟨z, hz⟩ : ∃ z, (joinsS c)[q]? = some z := ⟨_, List.getElem?_eq_getElem (by have := HNN.out; omega)⟩
                        have HT : Hid ((((joinsS c).take (q + 1)).all fun z => hasS z (⟨xp, xt⟩, ⟨yp, yt⟩)) = ((((joinsS c).take q).all fun z => hasS z (⟨xp, xt⟩, ⟨yp, yt⟩)) && hasS z (⟨xp, xt⟩, ⟨yp, yt⟩))) := by
                          rw [Hid, take_snoc hz, List.all_append]
                          simp
                        have eq1 : IntKind.i64.wrap ((q : Int) + 1) = ((q + 1 : Nat) : Int) := by have := HN30.out; rw [IntKind.wrap_i64]; omega
                        have hCr := hC.call (hbr.trans (hbi.mono hbr.size))
                        obtain ⟨k0, k1, k2, k3⟩ := hCr.c4
                        go_wp2_with fail
                        refine (nthP_ok _ c q wr hCr.cyl).mono ?_
                        rintro e w7 hp
                        obtain ⟨zA, zc, rfl, hZ, hb⟩ := hp.at_ (nthM_good h0 hz)
                        clear hp k0 k1 k2 k3 hCr hz
                        replace hbi := hbi.trans (hb.mono hbi.size)
                        clear hb
                        have hXr := hX4.call hbi
                        have p0 := hXr.cell 0
                        have p1 := hXr.cell 1
                        have p2 := hXr.cell 2
                        have p3 := hXr.cell 3
                        simp at p0 p1 p2 p3
                        generalize (((joinsS c).take q).all fun z => hasS z (⟨xp, xt⟩, ⟨yp, yt⟩)) = B at *
                        cases B
                        · go_wp2
                          go_roundw
                          case rel => exact ⟨q + 1, by omega, by go_num, by rw [HT.out]; rfl, hbi⟩
                          case measure => (simp [intOf]; try omega)
                        · go_wp2_with fail
                          refine (has_ok _ z (⟨xp, xt⟩, ⟨yp, yt⟩) w7 hZ).mono ?_
                          rintro e w8 ⟨rfl, hb⟩
                          replace hbi := hbi.trans (hb.mono hbi.size)
                          clear hb p0 p1 p2 p3 hXr hZ
                          go_wp2
                          go_roundw
                          case rel => exact ⟨q + 1, by omega, by go_num, by rw [HT.out]; rfl, hbi⟩
                          case measure => (simp [intOf]; try omega)
                      · obtain rfl : q = n := by omega
                        have d7 : decide (q < q) = false := by simp
                        have hall : (((joinsS c).take q).all fun z => hasS z (⟨xp, xt⟩, ⟨yp, yt⟩)) = G (⟨xp, xt⟩, ⟨yp, yt⟩) := by
                          rw [HG.out, HNN.out, List.take_length]
                        rw [hall]
                        clear hall
                        replace hbr := hbr.trans (hbi.mono hbr.size)
                        clear hbi
                        have ek3 : IntKind.i64.wrap ((k : Int) + 1 + 1) = (k : Int) + 1 + 1 := by have := HLL.out; rw [IntKind.wrap_i64]; omega
                        have ek4 : IntKind.i64.wrap ((k : Int) + 2) = (k : Int) + 2 := by have := HLL.out; rw [IntKind.wrap_i64]; omega
                        have el : IntKind.i64.wrap ((lf : Int) + 1) = ((lf + 1 : Nat) : Int) := by have := hlf8.out; rw [IntKind.wrap_i64]; omega
                        cases hGG : G (⟨xp, xt⟩, ⟨yp, yt⟩)
                        · have HQ : Hid ((((pairsOf l).take (k + 1)).filter G).length = lf) := by rw [Hid, HPK.out, hGG]; rfl
                          clear hGG
                          go_wp2
                          go_roundw
                          case rel => exact ⟨k + 1, by omega, by go_num, by rw [HQ.out], hbr⟩
                          case measure => (simp [intOf]; try omega)
                        · have HQ : Hid ((((pairsOf l).take (k + 1)).filter G).length = lf + 1) := by rw [Hid, HPK.out, hGG]; rfl
                          clear hGG
                          go_wp2
                          go_roundw
                          case rel => exact ⟨k + 1, by omega, by go_num, by rw [HQ.out]; rfl, hbr⟩
                          case measure => (simp [intOf]; try omega)
                  · have d6 : decide (k + 1 < l.length) = false := by simpa using hk1
                    have d6' : decide ((k : Int) + 1 < (l.length : Int)) = false := by simp; omega
                    have hend : lf = P.length := by
                      have e1 : (pairsOf l).take k = pairsOf l := List.take_of_length_le (by rw [pairsOf_len]; omega)
                      rw [HLF.out, e1, HG.out, pass_count hlJ, HP.out]
                    subst hend
                    replace hB := hB.trans (hbr.mono hB.size)
                    obtain ⟨wy, hwy⟩ : ∃ wy, wy = wr := ⟨wr, rfl⟩
                    rw [← hwy] at hB ⊢
                    clear hwy hbr hL hC
                    go_wp2_with fail
                    refine (works_ok wy).mono ?_
                    rintro e wz ⟨rfl, hb⟩
                    replace hB := hB.trans (hb.mono hB.size)
                    clear hb
                    go_wp2
                    go_ret
                    exact ⟨rfl, hB⟩
  · have d1 : decide (checkCyl c = 0) = false := by simpa using h0
    go_wp2_with fail
    refine (works_ok w1).mono ?_
    rintro e w2 ⟨rfl, hb⟩
    replace hB := hB.trans (hb.mono hB.size)
    clear hb
    go_wp2
    go_ret
    exact ⟨rfl, hB⟩
end Go.Proofs.Ytjjjockfppomdaa
