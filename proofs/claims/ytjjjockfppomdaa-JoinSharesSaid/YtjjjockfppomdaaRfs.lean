/- Contracts of the reference: Passages, Rivals. -/
import Derived.Test.YtjjjockfppomdaaRfn
import Derived.Test.YtjjjockfppomdaaShared
namespace Go.Proofs.Ytjjjockfppomdaa
open Go.RowKit Go.Shelf
set_option linter.unusedVariables false

def passRow (c : Cyl) (J : List (List St)) (S : List St) (a : St) : List (St × St) := (S.filter fun b => J.all fun l => hasS l (a, b)).map fun b => (a, b)
theorem passS_row (c : Cyl) : passS c = (stepsOf c).flatMap (passRow c (joinsS c) (stepsOf c)) := rfl
theorem passRow_len (c : Cyl) (J : List (List St)) (S : List St) (a : St) : (passRow c J S a).length ≤ S.length := by
  unfold passRow
  rw [List.length_map]
  exact List.length_filter_le _ _
theorem passRow_snoc (c : Cyl) (J : List (List St)) {S : List St} {k : Nat} {b : St} (h : S[k]? = some b) (a : St) :
    passRow c J (S.take (k + 1)) a = passRow c J (S.take k) a ++ if (J.all fun l => hasS l (a, b)) = true then [(a, b)] else [] := by
  unfold passRow
  rw [take_snoc h, List.filter_append, List.map_append]
  congr 1
  simp only [List.filter_cons, List.filter_nil]
  split <;> rfl

set_option maxRecDepth 100000 in
set_option maxHeartbeats 6400000 in
theorem rpassages_ok (v : Value) (c : Cyl) (w : World) (hv : CylV w w.heap.size v c) (h5 : checkCyl c = 0 → c.pcs.length ≤ 5) :
    Calls Try.prog 31 #[v] w (PrPost w (passM c)) := by
  obtain ⟨pa, pc, rfl, hp⟩ := hv.open_
  have hC := CB.new hp
  have hB := (Below.refl w.heap.size w).alloc (Nat.le_refl _) (.cells #[.slice pa c.pcs.length pc, .int .i64 c.off, .int .i64 c.slo, .int .i64 c.shi] 26)
  go_enter Try.func31, Try.ntmps31
  go_upto_region 1 with (fail)
  have HWS : Hid ((w.alloc (.cells #[.slice pa c.pcs.length pc, .int .i64 c.off, .int .i64 c.slo, .int .i64 c.shi] 26)).heap.size = w.heap.size + 1) := by simp [Hid]
  generalize hW : w.alloc (.cells #[.slice pa c.pcs.length pc, .int .i64 c.off, .int .i64 c.slo, .int .i64 c.shi] 26) = W at *
  clear hW hp
  clear hv HWS
  have hrc := rcheckCyl_ok _ c W hC.cyl
  by_cases h0 : checkCyl c = 0
  · rw [h0] at hrc
    have H0 := Lib.hid h0
    have H5 := Lib.hid (h5 h0)
    obtain ⟨k0, k1, k2, k3⟩ := hC.c4
    go_wp2_with fail
    refine (hrc).mono ?_
    rintro e w1 hp
    clear k0 k1 k2 k3
    obtain ⟨rfl, hb⟩ := hp
    replace hC := hC.call hb
    replace hB := hB.trans ((hb).mono hB.size)
    clear hb hrc
    have hall := rall_ok _ c w1 hC.cyl h0 (h5 h0)
    clear h0 h5
    obtain ⟨k0, k1, k2, k3⟩ := hC.c4
    go_wp2_with fail
    refine (hall).mono ?_
    rintro e w2 hp
    clear k0 k1 k2 k3
    obtain ⟨jA, jc, rfl, hL, hb⟩ := hp
    replace hC := hC.call hb
    replace hB := hB.trans ((hb).mono hB.size)
    clear hb hall
    obtain ⟨J, hJ⟩ : ∃ J, J = joinsS c := ⟨_, rfl⟩
    rw [← hJ] at hL ⊢
    have HJ := Lib.hid hJ
    have HJ5 : Hid (J.length ≤ 100000) := by rw [Hid, hJ, joinsS_lvl]; exact lvl_small H5.out H5.out
    clear hJ
    by_cases hz : J = []
    · have HE : Hid (passM c = ([], 5)) := passM_none H0.out (by rw [← HJ.out, hz])
      have d1 : ((J.length : Int) == 0) = true := by rw [hz]; rfl
      clear hz
      go_wp2
      exact bodyPost_ret (v := .tuple #[.slice none 0 0, .int .i64 5]) (by simp [results, Try.results31, go_sem]) rfl (PrPost.nil_ hB HE.out)
    · have HE : Hid (passM c = (passS c, 0)) := passM_good H0.out (by rw [← HJ.out]; exact hz)
      have hpos := List.length_pos_iff.2 hz
      have d1 : ((J.length : Int) == 0) = false := beq_false_of_ne (by omega)
      clear hz hpos
      have h8 : c.pcs.length ≤ 8 := Nat.le_trans H5.out (by omega)
      obtain ⟨k0, k1, k2, k3⟩ := hC.c4
      go_wp2_with fail
      refine (rsteps_ok _ c w2 hC.cyl h8).mono ?_
      rintro e w3 hp
      clear k0 k1 k2 k3
      clear h8
      obtain ⟨sA, sc, rfl, hS, hb⟩ := hp
      replace hB := hB.trans (hb.mono hB.size)
      replace hL := hL.below hb
      clear hb hC d1
      obtain ⟨S, hSe⟩ : ∃ S, S = stepsOf c := ⟨_, rfl⟩
      rw [← hSe] at hS ⊢
      have HSE := Lib.hid hSe
      have HS10 : Hid (S.length ≤ 10) := by rw [Hid, hSe]; exact steps_ten H5.out
      clear hSe
      obtain ⟨wa, hwa⟩ : ∃ wa : World, wa = w3 := ⟨_, rfl⟩
      rw [← hwa] at hS hL hB ⊢
      clear hwa w3
      go_wp2
      go_loopw [6, 7] (fun o i wr => ∃ (n : Nat) (L : List (St × St)) (A : Option Addr) (cap : Nat), n ≤ S.length ∧ i = .int .i64 n ∧ o = .slice A L.length cap ∧ Hid (L = (S.take n).flatMap (passRow c J S)) ∧ wr.ownsRow wa.heap.size 57 4 (.slice A L.length cap) L.length (L.flatMap (cellsOf 4 pcell)) ∧ Below wa.heap.size wa wr) (fun _ i _ => S.length - (intOf i).toNat)
      case atStart => exact ⟨0, [], none, 0, Nat.zero_le _, rfl, rfl, rfl, by simpa using World.ownsRow_nil _ _ _ _, Below.refl _ _⟩
      case round =>
        obtain ⟨n, L, A, cap, hn, rfl, rfl, hLL, hown, hbr⟩ := hrel
        by_cases hn1 : n < S.length
        · have d3 : decide (n < S.length) = true := decide_eq_true hn1
          have d3' : decide ((n : Int) < (S.length : Int)) = true := decide_eq_true (by omega)
          have hni : (n : Int) < (S.length : Int) := by omega
          have en : IntKind.i64.wrap ((n : Int) + 1) = ((n + 1 : Nat) : Int) := by have := HS10.out; rw [IntKind.wrap_i64]; omega
          obtain ⟨xb, xo, x, hxa, hxb, hx1, hx2⟩ := hS.at_ hn1
          subst hxa
          have hLb : Hid (L.length ≤ 100) := by
            rw [Hid, hLL.out, List.length_flatMap]
            refine Nat.le_trans (sum_le (b := 10) fun x _ => Nat.le_trans (passRow_len c J S x) HS10.out) ?_
            rw [List.length_take]
            have := HS10.out
            omega
          have HN : Hid ((S.take (n + 1)).flatMap (passRow c J S) = L ++ passRow c J S x) := by rw [Hid, take_snoc hx1, List.flatMap_append, ← hLL.out]; simp
          have x0 := hx2 0 (by omega)
          have x1 := hx2 1 (by omega)
          simp only [Nat.add_zero, stcell] at x0 x1
          have HX := Lib.hid (And.intro x0 x1)
          clear hx1 hx2 x0 x1 hLL
          obtain ⟨xp, xt⟩ := x
          simp only at HX
          go_wp2
          go_loopw [6, 8] (fun o i wr => ∃ (k : Nat) (L' : List (St × St)) (A : Option Addr) (cap : Nat), k ≤ S.length ∧ i = .int .i64 k ∧ o = .slice A L'.length cap ∧ Hid (L' = L ++ passRow c J (S.take k) ⟨xp, xt⟩) ∧ wr.ownsRow wa.heap.size 57 4 (.slice A L'.length cap) L'.length (L'.flatMap (cellsOf 4 pcell)) ∧ Below wa.heap.size wa wr) (fun _ i _ => S.length - (intOf i).toNat)
          case atStart => exact ⟨0, L, A, cap, Nat.zero_le _, rfl, rfl, by simp [Hid, passRow], hown, hbr⟩
          case round =>
            clear hown hbr
            obtain ⟨k, L', A, cap, hk, rfl, rfl, hLk, hown, hbr⟩ := hrel
            by_cases hk1 : k < S.length
            · have d4 : decide (k < S.length) = true := decide_eq_true hk1
              have d4' : decide ((k : Int) < (S.length : Int)) = true := decide_eq_true (by omega)
              have hki : (k : Int) < (S.length : Int) := by omega
              have ek : IntKind.i64.wrap ((k : Int) + 1) = ((k + 1 : Nat) : Int) := by have := HS10.out; rw [IntKind.wrap_i64]; omega
              obtain ⟨yb, yo, y, hya, hyb, hy1, hy2⟩ := hS.at_ hk1
              injection hya with hya
              injection hya with e1 e2
              subst e1 e2
              have HNK := Lib.hid (passRow_snoc c J hy1 ⟨xp, xt⟩)
              have hLb' : Hid (L'.length ≤ 110) := by
                rw [Hid, hLk.out, List.length_append]
                have h1 := passRow_len c J (S.take k) ⟨xp, xt⟩
                rw [List.length_take] at h1
                have := HS10.out
                have := hLb.out
                omega
              have f0 := Ext.of ((hbr.cell (p := ⟨xb, xo + n * 2, none⟩) hxb).trans HX.out.1)
              have f1 := Ext.of ((hbr.cell (p := ⟨xb, xo + n * 2 + 1, none⟩) hxb).trans HX.out.2)
              have f2 := Ext.of ((hbr.cell (p := ⟨xb, xo + k * 2 + 0, none⟩) hyb).trans (hy2 0 (by omega)))
              have f3 := Ext.of ((hbr.cell (p := ⟨xb, xo + k * 2 + 1, none⟩) hyb).trans (hy2 1 (by omega)))
              simp only [Nat.add_zero, stcell] at f2 f3
              obtain ⟨yp, yt⟩ := y
              simp only at f2 f3
              clear hy1 hy2 hyb
              obtain ⟨wq, hwq⟩ : ∃ wq : World, wq = wr := ⟨_, rfl⟩
              rw [← hwq] at hown hbr f0 f1 f2 f3 ⊢
              clear hwq wr
              go_upto_region 14 with (fail)
              refine wp_region_schedH (C := fun w' => ∃ x : Ext wq, w' = x.w) [(0, true), (1, true), (2, true), (3, true), (4, true), (5, true), (6, true), (7, true), (8, true), (9, false), (10, false)] (by kernel_rfl) (by kernel_rfl) ⟨⟨wq.drew, (Below.refl _ wq).drew⟩, rfl⟩ ?_
              refine schedH_q (by rfl) (by rfl) ?_
              intro K hK
              go_big_quiet_op
              go_big_quiet_on
              refine schedH_q (by rfl) (by rfl) ?_
              intro K hK
              go_big_quiet_op
              go_big_quiet_on
              refine schedH_q (by rfl) (by rfl) ?_
              intro K hK
              go_big_quiet_op
              go_big_quiet_on
              refine schedH_q (by rfl) (by rfl) ?_
              intro K hK
              go_big_quiet_op
              go_big_quiet_on
              refine schedH_q (by rfl) (by rfl) ?_
              intro K hK
              go_big_quiet_op
              go_big_quiet_on
              refine schedH_q (by rfl) (by rfl) ?_
              intro K hK
              go_big_quiet_op
              go_big_quiet_on
              refine schedH_q (by rfl) (by rfl) ?_
              intro K hK
              go_big_quiet_op
              go_big_quiet_on
              refine schedH_q (by rfl) (by rfl) ?_
              intro K hK
              go_big_quiet_op
              go_big_quiet_on
              refine schedH_q (by rfl) (by rfl) ?_
              intro K hK
              go_big_quiet_op
              go_big_quiet_on
              refine schedH_c (by rfl) (by rfl) ?_
              intro K' hK'
              have hX := (Blk.new wq 57 #[.int .i64 0, .bool false, .int .i64 0, .bool false]).drew
              have hx := ((Below.refl wq.heap.size wq).alloc (Nat.le_refl _) (.cells #[.int .i64 0, .bool false, .int .i64 0, .bool false] 57)).drew
              have hlow : wq.heap.size ≤ wq.heap.size := Nat.le_refl _
              go_wp2
              generalize (wq.alloc (.cells #[.int .i64 0, .bool false, .int .i64 0, .bool false] 57)).drew = v1 at *
              refine hK' _ _ ⟨⟨⟨v1, hx⟩, rfl⟩, ?_⟩
              clear hK' K'
              have z0 := hX.cell 0
              have z1 := hX.cell 1
              have z2 := hX.cell 2
              have z3 := hX.cell 3
              have zf := fun i => hX.frozen i
              simp at z0 z1 z2 z3
              have hX4 := hX.put4 (.int .i64 xp) (.bool xt) (.int .i64 yp) (.bool yt)
              have hx4 : Below wq.heap.size wq ((((v1.setCell ⟨wq.heap.size, 0, none⟩ (.int .i64 xp)).setCell ⟨wq.heap.size, 1, none⟩ (.bool xt)).setCell ⟨wq.heap.size, 2, none⟩ (.int .i64 yp)).setCell ⟨wq.heap.size, 3, none⟩ (.bool yt)) :=
                (((hx.setCell (p := ⟨wq.heap.size, 0, none⟩) (Nat.le_refl _) _).setCell (p := ⟨wq.heap.size, 1, none⟩) (Nat.le_refl _) _).setCell (p := ⟨wq.heap.size, 2, none⟩) (Nat.le_refl _) _).setCell (p := ⟨wq.heap.size, 3, none⟩) (Nat.le_refl _) _
              refine schedH_c (by rfl) (by rfl) ?_
              intro K' hK'
              go_wp2
              refine hK' _ _ ⟨⟨⟨_, hx4⟩, rfl⟩, ?_⟩
              clear hK' K'
              refine schedH_nil ?_
              generalize ((((v1.setCell ⟨wq.heap.size, 0, none⟩ (.int .i64 xp)).setCell ⟨wq.heap.size, 1, none⟩ (.bool xt)).setCell ⟨wq.heap.size, 2, none⟩ (.int .i64 yp)).setCell ⟨wq.heap.size, 3, none⟩ (.bool yt)) = v2 at *
              clear f0 f1 f2 f3 hX hx hlow z0 z1 z2 z3 zf v1
              replace hbr := hbr.trans (hx4.mono hbr.size)
              replace hown := own_call hown hx4
              clear hx4
              generalize wq.heap.size = pg at *
              obtain ⟨vb, hvb⟩ : ∃ vb : World, vb = v2 := ⟨_, rfl⟩
              rw [← hvb] at hbr hX4 hown ⊢
              clear hvb v2 wq
              go_wp2
              go_loopw [10, 11] (fun b m wr => ∃ q : Nat, q ≤ J.length ∧ m = .int .i64 q ∧ b = .bool ((J.take q).all fun z => hasS z (⟨xp, xt⟩, ⟨yp, yt⟩)) ∧ Below vb.heap.size vb wr) (fun _ m _ => J.length - (intOf m).toNat)
              case atStart => exact ⟨0, Nat.zero_le _, rfl, rfl, Below.refl _ _⟩
              case round =>
                obtain ⟨q, hq, rfl, rfl, hbi⟩ := hrel
                by_cases hq1 : q < J.length
                · have d7 : decide (q < J.length) = true := by simpa using hq1
                  have d7' : decide ((q : Int) < (J.length : Int)) = true := by simp; omega
                  have hqi : (q : Int) < (J.length : Int) := by omega
                  obtain ⟨z, hz⟩ : ∃ z, J[q]? = some z := ⟨_, List.getElem?_eq_getElem hq1⟩
                  have HT : Hid (((J.take (q + 1)).all fun z => hasS z (⟨xp, xt⟩, ⟨yp, yt⟩)) = (((J.take q).all fun z => hasS z (⟨xp, xt⟩, ⟨yp, yt⟩)) && hasS z (⟨xp, xt⟩, ⟨yp, yt⟩))) := by
                    rw [Hid, take_snoc hz, List.all_append]
                    simp
                  have eq1 : IntKind.i64.wrap ((q : Int) + 1) = ((q + 1 : Nat) : Int) := by have := HJ5.out; rw [IntKind.wrap_i64]; omega
                  obtain ⟨ob, oo, zA, zc, hoA, hob, hoc, hZ⟩ := hL.at_ hz
                  subst hoA
                  have hbw := hbr.trans (hbi.mono hbr.size)
                  have f0 := Ext.of ((hbw.cell (p := ⟨ob, oo + q, none⟩) hob).trans hoc)
                  have hXr := hX4.call hbi
                  have p0 := hXr.cell 0
                  have p1 := hXr.cell 1
                  have p2 := hXr.cell 2
                  have p3 := hXr.cell 3
                  simp at p0 p1 p2 p3
                  have f1 := Ext.of p0
                  have f2 := Ext.of p1
                  have f3 := Ext.of p2
                  have f4 := Ext.of p3
                  replace hZ := (hZ.below hbw).more hbw.size
                  have HA : Hid (∀ y : Ext wr, Calls Try.prog 37 #[.slice zA z.length zc, pairV (⟨xp, xt⟩, ⟨yp, yt⟩)] y.w fun r w' => r = .returned (.bool (hasS z (⟨xp, xt⟩, ⟨yp, yt⟩))) ∧ ∃ u : Ext wr, w' = u.w) := fun y => ext_call y (has_ok _ z (⟨xp, xt⟩, ⟨yp, yt⟩) y.w ((hZ.below y.h).more y.h.size))
                  clear hz hoc hbw hob hXr p0 p1 p2 p3 hZ
                  generalize ((J.take q).all fun z => hasS z (⟨xp, xt⟩, ⟨yp, yt⟩)) = B at *
                  cases B
                  · go_upto_region 19 with (fail)
                    refine wp_region_ext (by kernel_rfl) (by kernel_rfl) ?_
                    repeat (go_big_quiet_step (fail))
                    refine wpQuiet_nil ?_
                    intro _ hw'
                    obtain ⟨xr, hw''⟩ := hw'
                    subst hw''
                    have hbz := hbi.trans (xr.h.mono hbi.size)
                    go_wp2
                    go_roundw
                    case rel => exact ⟨q + 1, by omega, by go_num, by rw [HT.out]; rfl, hbz⟩
                    case measure => (simp [intOf]; try omega)
                  · go_upto_region 19 with (fail)
                    refine wp_region_ext (by kernel_rfl) (by kernel_rfl) ?_
                    repeat (go_big_quiet_step ((go_at_call 37; with_reducible exact HA.out _)))
                    refine wpQuiet_nil ?_
                    intro _ hw'
                    obtain ⟨xr, hw''⟩ := hw'
                    subst hw''
                    have hbz := hbi.trans (xr.h.mono hbi.size)
                    go_wp2
                    go_roundw
                    case rel => exact ⟨q + 1, by omega, by go_num, by rw [HT.out]; rfl, hbz⟩
                    case measure => (simp [intOf]; try omega)
                · obtain rfl : q = J.length := by omega
                  have d7 : decide (J.length < J.length) = false := by simp
                  rw [List.take_length]
                  have hX5 := hX4.call hbi
                  have hown2 := own_call hown hbi
                  have hb2 := hbr.trans (hbi.mono hbr.size)
                  clear hbi hX4 hown hbr hq hq1
                  obtain ⟨B, hB0⟩ : ∃ B, B = J.all fun z => hasS z (⟨xp, xt⟩, ⟨yp, yt⟩) := ⟨_, rfl⟩
                  rw [← hB0] at HNK ⊢
                  clear hB0
                  cases B
                  · have HLE : Hid (L' = L ++ passRow c J (S.take (k + 1)) ⟨xp, xt⟩) := by rw [Hid, HNK.out, hLk.out]; simp
                    clear hX5
                    go_wp2
                    go_roundw
                    case rel => exact ⟨k + 1, L', A, cap, by omega, by go_num, rfl, HLE, hown2, hb2⟩
                    case measure => (simp [intOf]; try omega)
                  · have HLE : Hid (L' ++ [(⟨xp, xt⟩, ⟨yp, yt⟩)] = L ++ passRow c J (S.take (k + 1)) ⟨xp, xt⟩) := by rw [Hid, HNK.out, hLk.out]; simp
                    have p0 := hX5.cell 0
                    have p1 := hX5.cell 1
                    have p2 := hX5.cell 2
                    have p3 := hX5.cell 3
                    simp at p0 p1 p2 p3
                    have hcap := own_cap hown2
                    have hl2 := hLb'.out
                    go_wp2_with (at_builtin; refine wpList_app1 slT_jp rfl (.tmp 61) (.tmp 63) rfl (A := A) (cc := cap) rfl ⟨cap, hown2, .inl rfl⟩ rfl rfl one_jp hb2.size ?_ ?_ ?_)
                    any_goals omega
                    intro v' w5 hown4 hb4 hkeep
                    have hown5 := own_snoc (cell := pcell) (x := (⟨xp, xt⟩, ⟨yp, yt⟩)) (vals := #[.int .i64 xp, .bool xt, .int .i64 yp, .bool yt]) rfl (by simp [cellsOf, List.range_succ, pcell]) hown4
                    obtain ⟨A', cap', rfl⟩ := own_form hown5
                    have hb5 := hb2.trans hb4
                    clear hkeep hown4 hown2 hb4 hX5 hcap p0 p1 p2 p3 hl2 hb2
                    obtain ⟨L2, hL2⟩ : ∃ L2, L2 = L' ++ [((⟨xp, xt⟩, ⟨yp, yt⟩) : St × St)] := ⟨_, rfl⟩
                    rw [← hL2] at HLE hown5
                    have hlen : L'.length + 1 = L2.length := by rw [hL2]; simp
                    rw [← hL2]
                    clear hL2
                    have HLN := Lib.hid hlen
                    clear hlen
                    go_wp2
                    go_roundw
                    case rel => exact ⟨k + 1, L2, A', cap', by omega, by go_num, rfl, HLE, hown5, hb5⟩
                    case measure => (simp [intOf]; try omega)
            · obtain rfl : k = S.length := by omega
              have d4 : decide (S.length < S.length) = false := by simp
              have HLE : Hid (L' = (S.take (n + 1)).flatMap (passRow c J S)) := by rw [Hid, HN.out, hLk.out, List.take_length]
              clear hLk
              go_wp2
              go_roundw
              case rel => exact ⟨n + 1, L', A, cap, by omega, by go_num, rfl, HLE, hown, hbr⟩
              case measure => (simp [intOf]; try omega)
        · obtain rfl : n = S.length := by omega
          have d3 : decide (S.length < S.length) = false := by simp
          have hPE : Hid (passM c = (L, 0)) := by rw [Hid, HE.out, passS_row, hLL.out, List.take_length, ← HJ.out, ← HSE.out]
          have hBf := hB.trans (hbr.mono hB.size)
          have hAr := Arr.of_own hown
          clear hown hbr hLL hn hn1
          go_wp2
          refine bodyPost_ret (v := .tuple #[.slice A L.length cap, .int .i64 0]) (by simp [results, Try.results31, go_sem]) rfl ?_
          rw [hPE.out]
          exact ⟨A, cap, rfl, hAr, hBf⟩
  · have d0 : (checkCyl c != 0) = true := by simpa using h0
    have HE : Hid (passM c = ([], checkCyl c)) := if_pos h0
    clear h0 h5
    obtain ⟨k0, k1, k2, k3⟩ := hC.c4
    go_wp2_with fail
    refine (hrc).mono ?_
    rintro e w1 hp
    clear k0 k1 k2 k3
    obtain ⟨rfl, hb⟩ := hp
    replace hC := hC.call hb
    replace hB := hB.trans ((hb).mono hB.size)
    clear hb hrc
    obtain ⟨k0, k1, k2, k3⟩ := hC.c4
    go_wp2_with fail
    refine (rcheckCyl_ok _ c w1 hC.cyl).mono ?_
    rintro e w2 hp
    clear k0 k1 k2 k3
    obtain ⟨rfl, hb⟩ := hp
    replace hC := hC.call hb
    replace hB := hB.trans ((hb).mono hB.size)
    clear hb
    go_wp2
    exact bodyPost_ret (v := .tuple #[.slice none 0 0, .int .i64 (checkCyl c)]) (by simp [results, Try.results31, go_sem]) rfl (PrPost.nil_ hB HE.out)
theorem contains_eq (l : List St) (s : St) : l.contains s = l.any fun x => decide (x = s) := by
  rw [Bool.eq_iff_iff]
  simp
def rivTo (J : List (List St)) (S : List St) (s : St) : List St := S.filter fun b => J.any fun l => hasS l (s, b)
theorem rivTo_snoc (J : List (List St)) {S : List St} {k : Nat} {b : St} (h : S[k]? = some b) (s : St) :
    rivTo J (S.take (k + 1)) s = rivTo J (S.take k) s ++ if (J.any fun l => hasS l (s, b)) = true then [b] else [] := by
  unfold rivTo
  rw [take_snoc h, List.filter_append]
  congr 1
  simp only [List.filter_cons, List.filter_nil]

set_option maxRecDepth 100000 in
set_option maxHeartbeats 6400000 in
theorem rrivals_ok (v : Value) (c : Cyl) (s : St) (w : World) (hv : CylV w w.heap.size v c) (h5 : checkCyl c = 0 → c.pcs.length ≤ 5) :
    Calls Try.prog 33 #[v, stV2 s] w (StPost w (rivM c s)) := by
  obtain ⟨sp, stt⟩ := s
  obtain ⟨rm, hrm⟩ : ∃ rm, rm = rivM c ⟨sp, stt⟩ := ⟨_, rfl⟩
  rw [← hrm]
  have HRM := Lib.hid hrm
  clear hrm
  obtain ⟨pa, pc, rfl, hp⟩ := hv.open_
  have hC := CB.new hp
  have hB := (Below.refl w.heap.size w).alloc (Nat.le_refl _) (.cells #[.slice pa c.pcs.length pc, .int .i64 c.off, .int .i64 c.slo, .int .i64 c.shi] 26)
  go_enter Try.func33, Try.ntmps33
  go_upto_region 1 with (fail)
  have HWS : Hid ((w.alloc (.cells #[.slice pa c.pcs.length pc, .int .i64 c.off, .int .i64 c.slo, .int .i64 c.shi] 26)).heap.size = w.heap.size + 1) := by simp [Hid]
  generalize hW : w.alloc (.cells #[.slice pa c.pcs.length pc, .int .i64 c.off, .int .i64 c.slo, .int .i64 c.shi] 26) = W at *
  clear hW hp
  have hbA := (Below.refl W.heap.size W).alloc (Nat.le_refl _) (.cells #[.int .i64 sp, .bool stt] 28)
  have hS0 := Blk.new W 28 #[.int .i64 sp, .bool stt]
  rw [HWS.out] at hS0
  replace hC := hC.call hbA
  replace hB := hB.trans (hbA.mono hB.size)
  clear hbA hv HWS
  generalize W.alloc (.cells #[.int .i64 sp, .bool stt] 28) = V2 at *
  have hrc := rcheckCyl_ok _ c V2 hC.cyl
  by_cases h0 : checkCyl c = 0
  · rw [h0] at hrc
    have H0 := Lib.hid h0
    have H5 := Lib.hid (h5 h0)
    obtain ⟨k0, k1, k2, k3⟩ := hC.c4
    go_wp2_with fail
    refine (hrc).mono ?_
    rintro e w1 hp
    clear k0 k1 k2 k3
    obtain ⟨rfl, hb⟩ := hp
    replace hC := hC.call hb
    replace hB := hB.trans ((hb).mono hB.size)
    replace hS0 := hS0.call hb
    clear hb hrc h5
    have s0 := hS0.cell 0
    have s1 := hS0.cell 1
    simp at s0 s1
    obtain ⟨k0, k1, k2, k3⟩ := hC.c4
    go_wp2_with fail
    refine (isStep_ok _ c sp stt w1 hC.cyl).mono ?_
    rintro e w2 hp
    clear k0 k1 k2 k3
    obtain ⟨rfl, hb⟩ := hp
    replace hC := hC.call hb
    replace hB := hB.trans ((hb).mono hB.size)
    replace hS0 := hS0.call hb
    clear hb s0 s1
    cases hst : isStep c ⟨sp, stt⟩
    · have HE : Hid (rm = ([], 2)) := by rw [Hid, HRM.out, rivM, if_neg (by simp [h0]), if_pos hst]
      clear hst h0
      go_wp2
      exact bodyPost_ret (v := .tuple #[.slice none 0 0, .int .i64 2]) (by simp [results, Try.results33, go_sem]) rfl (StPost.nil_ hB HE.out)
    · have HG := Lib.hid (rivM_good h0 hst)
      have hall := rall_ok _ c w2 hC.cyl h0 H5.out
      clear hst h0
      obtain ⟨k0, k1, k2, k3⟩ := hC.c4
      go_wp2_with fail
      refine (hall).mono ?_
      rintro e w3 hp
      clear k0 k1 k2 k3
      obtain ⟨jA, jc, rfl, hL, hb⟩ := hp
      replace hC := hC.call hb
      replace hB := hB.trans ((hb).mono hB.size)
      replace hS0 := hS0.call hb
      clear hb hall
      obtain ⟨J, hJ⟩ : ∃ J, J = joinsS c := ⟨_, rfl⟩
      rw [← hJ] at hL HG ⊢
      have HJ := Lib.hid hJ
      have HJ5 : Hid (J.length ≤ 100000) := by rw [Hid, hJ, joinsS_lvl]; exact lvl_small H5.out H5.out
      have HJL : Hid (∀ l ∈ J, l.length ≤ 8) := by
        intro l hl
        rw [hJ] at hl
        have := (mem_joinsS.1 hl).1
        have := H5.out
        omega
      clear hJ
      obtain ⟨wa, hwa⟩ : ∃ wa : World, wa = w3 := ⟨_, rfl⟩
      rw [← hwa] at hL hB hC hS0 ⊢
      clear hwa w3
      go_wp2
      go_loopw [7, 8] (fun f i wr => ∃ n : Nat, n ≤ J.length ∧ i = .int .i64 n ∧ f = .bool ((J.take n).any fun l => l.contains ⟨sp, stt⟩) ∧ Below wa.heap.size wa wr) (fun _ i _ => J.length - (intOf i).toNat)
      case atStart => exact ⟨0, Nat.zero_le _, rfl, rfl, Below.refl _ _⟩
      case round =>
        obtain ⟨n, hn, rfl, rfl, hbr⟩ := hrel
        by_cases hn1 : n < J.length
        · have d3 : decide (n < J.length) = true := decide_eq_true hn1
          have d3' : decide ((n : Int) < (J.length : Int)) = true := decide_eq_true (by omega)
          have hni : (n : Int) < (J.length : Int) := by omega
          have en : IntKind.i64.wrap ((n : Int) + 1) = ((n + 1 : Nat) : Int) := by have := HJ5.out; rw [IntKind.wrap_i64]; omega
          obtain ⟨l, hl⟩ : ∃ l, J[n]? = some l := ⟨_, List.getElem?_eq_getElem hn1⟩
          have HL8 := Lib.hid (HJL.out l (List.mem_of_getElem? hl))
          obtain ⟨ob, oo, lA, lc, hoA, hob, hoc, hla⟩ := hL.at_ hl
          subst hoA
          obtain ⟨B0, hB0⟩ : ∃ B0, B0 = (J.take n).any fun l => l.contains (⟨sp, stt⟩ : St) := ⟨_, rfl⟩
          have HT : Hid (((J.take (n + 1)).any fun l => l.contains ⟨sp, stt⟩) = (B0 || (l.take l.length).any fun x => decide (x = ⟨sp, stt⟩))) := by
            rw [Hid, take_snoc hl, List.any_append, hB0, List.take_length, ← contains_eq]
            simp
          rw [← hB0]
          clear hl hB0
          go_wp2
          go_loopw [7, 9] (fun f i wr => ∃ k : Nat, k ≤ l.length ∧ i = .int .i64 k ∧ f = .bool (B0 || (l.take k).any fun x => decide (x = ⟨sp, stt⟩)) ∧ Below wa.heap.size wa wr) (fun _ i _ => l.length - (intOf i).toNat)
          case atStart => exact ⟨0, Nat.zero_le _, rfl, by simp, hbr⟩
          case round =>
            clear hbr
            obtain ⟨k, hk, rfl, rfl, hbr⟩ := hrel
            have c0 := (hbr.cell (p := ⟨ob, oo + n, none⟩) hob).trans hoc
            by_cases hk1 : k < l.length
            · have d4 : decide (k < l.length) = true := decide_eq_true hk1
              have d4' : decide ((k : Int) < (l.length : Int)) = true := decide_eq_true (by omega)
              have hki : (k : Int) < (l.length : Int) := by omega
              have ek : IntKind.i64.wrap ((k : Int) + 1) = ((k + 1 : Nat) : Int) := by have := HL8.out; rw [IntKind.wrap_i64]; omega
              obtain ⟨xb, xo, x, hxa, hxb, hx1, hx2⟩ := hla.at_ hk1
              subst hxa
              have HN : Hid ((B0 || (l.take (k + 1)).any fun x => decide (x = ⟨sp, stt⟩)) = ((B0 || (l.take k).any fun x => decide (x = ⟨sp, stt⟩)) || decide (x = ⟨sp, stt⟩))) := by
                rw [Hid, take_snoc hx1, List.any_append, ← Bool.or_assoc]
                simp
              have hSr := hS0.call hbr
              have p0 := hSr.cell 0
              have p1 := hSr.cell 1
              simp at p0 p1
              have f0 := Ext.of c0
              have f1 := Ext.of ((hbr.cell (p := ⟨xb, xo + k * 2 + 0, none⟩) hxb).trans (hx2 0 (by omega)))
              have f2 := Ext.of ((hbr.cell (p := ⟨xb, xo + k * 2 + 1, none⟩) hxb).trans (hx2 1 (by omega)))
              have f3 := Ext.of p0
              have f4 := Ext.of p1
              simp only [Nat.add_zero, stcell] at f1 f2
              obtain ⟨xp, xt⟩ := x
              have HD : Hid (decide ((⟨xp, xt⟩ : St) = ⟨sp, stt⟩) = (xp == sp && xt == stt)) := by rw [Hid, Bool.eq_iff_iff]; simp
              have hq : ∀ w', (Op.equalIn 10000 28 (.agg #[.int .i64 xp, .bool xt]) (.agg #[.int .i64 sp, .bool stt])).run Try.prog w' = .ok (xp == sp && xt == stt) w' := fun w' => eq_st _ _ _ _ w'
              clear hx1 hx2 hSr p0 p1 hxb
              generalize (B0 || (l.take k).any fun x => decide (x = ⟨sp, stt⟩)) = B at *
              cases B
              · go_wp2
                clear c0
                go_upto_region 13 with (fail)
                refine wp_region_ext (by kernel_rfl) (by kernel_rfl) ?_
                repeat (go_big_quiet_step (fail))
                refine wpQuiet_nil ?_
                intro _ hw'
                obtain ⟨xr, hw''⟩ := hw'
                subst hw''
                have hbz := hbr.trans (xr.h.mono hbr.size)
                go_wp2
                go_roundw
                case rel => exact ⟨k + 1, by omega, by go_num, by rw [HN.out, HD.out]; rfl, hbz⟩
                case measure => (simp [intOf]; try omega)
              · clear hq
                go_wp2
                clear c0
                go_upto_region 13 with (fail)
                refine wp_region_ext (by kernel_rfl) (by kernel_rfl) ?_
                repeat (go_big_quiet_step (fail))
                refine wpQuiet_nil ?_
                intro _ hw'
                obtain ⟨xr, hw''⟩ := hw'
                subst hw''
                have hbz := hbr.trans (xr.h.mono hbr.size)
                go_wp2
                go_roundw
                case rel => exact ⟨k + 1, by omega, by go_num, by rw [HN.out]; rfl, hbz⟩
                case measure => (simp [intOf]; try omega)
            · obtain rfl : k = l.length := by omega
              have d4 : decide (l.length < l.length) = false := by simp
              rw [← HT.out]
              go_wp2
              go_roundw
              case rel => exact ⟨n + 1, by omega, by go_num, rfl, hbr⟩
              case measure => (simp [intOf]; try omega)
        · obtain rfl : n = J.length := by omega
          have d3 : decide (J.length < J.length) = false := by simp
          rw [List.take_length]
          replace hB := hB.trans (hbr.mono hB.size)
          replace hC := hC.call hbr
          replace hS0 := hS0.call hbr
          replace hL := hL.below hbr
          clear hbr hn hn1
          obtain ⟨wb, hwb⟩ : ∃ wb : World, wb = wr := ⟨_, rfl⟩
          rw [← hwb] at hL hB hC hS0 ⊢
          clear hwb wr
          cases hfd : (J.any fun l => l.contains ⟨sp, stt⟩)
          · have HE : Hid (rm = ([], 5)) := by rw [Hid, HRM.out, HG.out, hfd]; rfl
            clear hfd
            go_wp2
            exact bodyPost_ret (v := .tuple #[.slice none 0 0, .int .i64 5]) (by simp [results, Try.results33, go_sem]) rfl (StPost.nil_ hB HE.out)
          · have HE : Hid (rm = (rivS c ⟨sp, stt⟩, 0)) := by rw [Hid, HRM.out, HG.out, hfd]; rfl
            clear hfd
            have h8 : c.pcs.length ≤ 8 := Nat.le_trans H5.out (by omega)
            obtain ⟨k0, k1, k2, k3⟩ := hC.c4
            go_wp2_with fail
            refine (rsteps_ok _ c wb hC.cyl h8).mono ?_
            rintro e w4 hp
            clear k0 k1 k2 k3
            clear h8
            obtain ⟨sA, sc, rfl, hS, hb⟩ := hp
            replace hB := hB.trans (hb.mono hB.size)
            replace hL := hL.below hb
            replace hS0 := hS0.call hb
            clear hb hC
            obtain ⟨S, hSe⟩ : ∃ S, S = stepsOf c := ⟨_, rfl⟩
            rw [← hSe] at hS ⊢
            have HSE := Lib.hid hSe
            have HS10 : Hid (S.length ≤ 10) := by rw [Hid, hSe]; exact steps_ten H5.out
            clear hSe
            obtain ⟨wc, hwc⟩ : ∃ wc : World, wc = w4 := ⟨_, rfl⟩
            rw [← hwc] at hS hL hB hS0 ⊢
            clear hwc w4
            go_wp2
            go_loopw [11, 12] (fun o i wr => ∃ (k : Nat) (L : List St) (A : Option Addr) (cap : Nat), k ≤ S.length ∧ i = .int .i64 k ∧ o = .slice A L.length cap ∧ Hid (L = rivTo J (S.take k) ⟨sp, stt⟩) ∧ wr.ownsRow wc.heap.size 28 2 (.slice A L.length cap) L.length (L.flatMap (cellsOf 2 stcell)) ∧ Below wc.heap.size wc wr) (fun _ i _ => S.length - (intOf i).toNat)
            case atStart => exact ⟨0, [], none, 0, Nat.zero_le _, rfl, rfl, rfl, by simpa using World.ownsRow_nil _ _ _ _, Below.refl _ _⟩
            case round =>
              obtain ⟨k, L, A, cap, hk, rfl, rfl, hLk, hown, hbr⟩ := hrel
              by_cases hk1 : k < S.length
              · have d4 : decide (k < S.length) = true := decide_eq_true hk1
                have d4' : decide ((k : Int) < (S.length : Int)) = true := decide_eq_true (by omega)
                have hki : (k : Int) < (S.length : Int) := by omega
                have ek : IntKind.i64.wrap ((k : Int) + 1) = ((k + 1 : Nat) : Int) := by have := HS10.out; rw [IntKind.wrap_i64]; omega
                obtain ⟨yb, yo, y, hya, hyb, hy1, hy2⟩ := hS.at_ hk1
                subst hya
                have HNK := Lib.hid (rivTo_snoc J hy1 ⟨sp, stt⟩)
                have hLb : Hid (L.length ≤ 10) := by
                  rw [Hid, hLk.out]
                  refine Nat.le_trans (List.length_filter_le _ _) ?_
                  rw [List.length_take]
                  have := HS10.out
                  omega
                have y0 := hy2 0 (by omega)
                have y1 := hy2 1 (by omega)
                simp only [Nat.add_zero, stcell] at y0 y1
                obtain ⟨yp, yt⟩ := y
                simp only at y0 y1
                have HY := Lib.hid (And.intro y0 y1)
                clear hy1 hy2 y0 y1
                obtain ⟨vb, hvb⟩ : ∃ vb : World, vb = wr := ⟨_, rfl⟩
                rw [← hvb] at hown hbr ⊢
                clear hvb wr
                go_wp2
                go_loopw [13, 14] (fun b m wr => ∃ q : Nat, q ≤ J.length ∧ m = .int .i64 q ∧ b = .bool ((J.take q).any fun z => hasS z (⟨sp, stt⟩, ⟨yp, yt⟩)) ∧ Below vb.heap.size vb wr) (fun _ m _ => J.length - (intOf m).toNat)
                case atStart => exact ⟨0, Nat.zero_le _, rfl, rfl, Below.refl _ _⟩
                case round =>
                  obtain ⟨q, hq, rfl, rfl, hbi⟩ := hrel
                  by_cases hq1 : q < J.length
                  · have d7 : decide (q < J.length) = true := by simpa using hq1
                    have d7' : decide ((q : Int) < (J.length : Int)) = true := by simp; omega
                    have hqi : (q : Int) < (J.length : Int) := by omega
                    obtain ⟨z, hz⟩ : ∃ z, J[q]? = some z := ⟨_, List.getElem?_eq_getElem hq1⟩
                    have HT : Hid (((J.take (q + 1)).any fun z => hasS z (⟨sp, stt⟩, ⟨yp, yt⟩)) = (((J.take q).any fun z => hasS z (⟨sp, stt⟩, ⟨yp, yt⟩)) || hasS z (⟨sp, stt⟩, ⟨yp, yt⟩))) := by
                      rw [Hid, take_snoc hz, List.any_append]
                      simp
                    have eq1 : IntKind.i64.wrap ((q : Int) + 1) = ((q + 1 : Nat) : Int) := by have := HJ5.out; rw [IntKind.wrap_i64]; omega
                    obtain ⟨ob, oo, zA, zc, hoA, hob, hoc, hZ⟩ := hL.at_ hz
                    subst hoA
                    have hbw := hbr.trans (hbi.mono hbr.size)
                    have f0 := Ext.of ((hbw.cell (p := ⟨ob, oo + q, none⟩) hob).trans hoc)
                    have hSr := hS0.call hbw
                    have p0 := hSr.cell 0
                    have p1 := hSr.cell 1
                    simp at p0 p1
                    have f1 := Ext.of p0
                    have f2 := Ext.of p1
                    have f3 := Ext.of ((hbw.cell (p := ⟨yb, yo + k * 2, none⟩) hyb).trans HY.out.1)
                    have f4 := Ext.of ((hbw.cell (p := ⟨yb, yo + k * 2 + 1, none⟩) hyb).trans HY.out.2)
                    replace hZ := (hZ.below hbw).more hbw.size
                    have HA : Hid (∀ y : Ext wr, Calls Try.prog 37 #[.slice zA z.length zc, pairV (⟨sp, stt⟩, ⟨yp, yt⟩)] y.w fun r w' => r = .returned (.bool (hasS z (⟨sp, stt⟩, ⟨yp, yt⟩))) ∧ ∃ u : Ext wr, w' = u.w) := fun y => ext_call y (has_ok _ z (⟨sp, stt⟩, ⟨yp, yt⟩) y.w ((hZ.below y.h).more y.h.size))
                    clear hz hoc hbw hob hSr p0 p1 hZ
                    generalize ((J.take q).any fun z => hasS z (⟨sp, stt⟩, ⟨yp, yt⟩)) = B at *
                    cases B
                    · go_upto_region 25 with (fail)
                      refine wp_region_ext (by kernel_rfl) (by kernel_rfl) ?_
                      repeat (go_big_quiet_step ((go_at_call 37; with_reducible exact HA.out _)))
                      refine wpQuiet_nil ?_
                      intro _ hw'
                      obtain ⟨xr, hw''⟩ := hw'
                      subst hw''
                      have hbz := hbi.trans (xr.h.mono hbi.size)
                      go_wp2
                      go_roundw
                      case rel => exact ⟨q + 1, by omega, by go_num, by rw [HT.out]; rfl, hbz⟩
                      case measure => (simp [intOf]; try omega)
                    · go_upto_region 25 with (fail)
                      refine wp_region_ext (by kernel_rfl) (by kernel_rfl) ?_
                      repeat (go_big_quiet_step (fail))
                      refine wpQuiet_nil ?_
                      intro _ hw'
                      obtain ⟨xr, hw''⟩ := hw'
                      subst hw''
                      have hbz := hbi.trans (xr.h.mono hbi.size)
                      go_wp2
                      go_roundw
                      case rel => exact ⟨q + 1, by omega, by go_num, by rw [HT.out]; rfl, hbz⟩
                      case measure => (simp [intOf]; try omega)
                  · obtain rfl : q = J.length := by omega
                    have d7 : decide (J.length < J.length) = false := by simp
                    rw [List.take_length]
                    have hown2 := own_call hown hbi
                    have hb2 := hbr.trans (hbi.mono hbr.size)
                    clear hbi hown hbr hq hq1
                    obtain ⟨B, hB0⟩ : ∃ B, B = J.any fun z => hasS z (⟨sp, stt⟩, ⟨yp, yt⟩) := ⟨_, rfl⟩
                    rw [← hB0] at HNK ⊢
                    clear hB0
                    cases B
                    · have HLE : Hid (L = rivTo J (S.take (k + 1)) ⟨sp, stt⟩) := by rw [Hid, HNK.out, hLk.out]; simp
                      go_wp2
                      go_roundw
                      case rel => exact ⟨k + 1, L, A, cap, by omega, by go_num, rfl, HLE, hown2, hb2⟩
                      case measure => (simp [intOf]; try omega)
                    · have HLE : Hid (L ++ [⟨yp, yt⟩] = rivTo J (S.take (k + 1)) ⟨sp, stt⟩) := by rw [Hid, HNK.out, hLk.out]; simp
                      have c0 := (hb2.cell (p := ⟨yb, yo + k * 2, none⟩) hyb).trans HY.out.1
                      have c1 := (hb2.cell (p := ⟨yb, yo + k * 2 + 1, none⟩) hyb).trans HY.out.2
                      have hcap := own_cap hown2
                      have hl2 := hLb.out
                      go_wp2_with (at_builtin; refine wpList_app1 slT_st rfl (.tmp 84) (.tmp 89) rfl (A := A) (cc := cap) rfl ⟨cap, hown2, .inl rfl⟩ rfl rfl one_st hb2.size ?_ ?_ ?_)
                      any_goals omega
                      intro v' w5 hown4 hb4 hkeep
                      have hown5 := own_snoc (cell := stcell) (x := ⟨yp, yt⟩) (vals := #[.int .i64 yp, .bool yt]) rfl (by simp [cellsOf, List.range_succ, stcell]) hown4
                      obtain ⟨A', cap', rfl⟩ := own_form hown5
                      have hb5 := hb2.trans hb4
                      clear hkeep hown4 hown2 hb4 hcap c0 c1 hl2 hb2
                      obtain ⟨L2, hL2⟩ : ∃ L2, L2 = L ++ [(⟨yp, yt⟩ : St)] := ⟨_, rfl⟩
                      rw [← hL2] at HLE hown5
                      have hlen : L.length + 1 = L2.length := by rw [hL2]; simp
                      rw [← hL2]
                      clear hL2
                      have HLN := Lib.hid hlen
                      clear hlen
                      go_wp2
                      go_roundw
                      case rel => exact ⟨k + 1, L2, A', cap', by omega, by go_num, rfl, HLE, hown5, hb5⟩
                      case measure => (simp [intOf]; try omega)
              · obtain rfl : k = S.length := by omega
                have d4 : decide (S.length < S.length) = false := by simp
                have hPE : Hid (rm = (L, 0)) := by rw [Hid, HE.out, hLk.out, List.take_length, HJ.out, HSE.out]; rfl
                have hBf := hB.trans (hbr.mono hB.size)
                have hAr := Arr.of_own hown
                clear hown hbr hLk hk hk1
                go_wp2
                refine bodyPost_ret (v := .tuple #[.slice A L.length cap, .int .i64 0]) (by simp [results, Try.results33, go_sem]) rfl ?_
                rw [hPE.out]
                exact ⟨A, cap, rfl, hAr, hBf⟩
  · have d0 : (checkCyl c != 0) = true := by simpa using h0
    have HE : Hid (rm = ([], checkCyl c)) := by rw [Hid, HRM.out]; exact if_pos h0
    clear h0 h5
    obtain ⟨k0, k1, k2, k3⟩ := hC.c4
    go_wp2_with fail
    refine (hrc).mono ?_
    rintro e w1 hp
    clear k0 k1 k2 k3
    obtain ⟨rfl, hb⟩ := hp
    replace hC := hC.call hb
    replace hB := hB.trans ((hb).mono hB.size)
    clear hb hrc
    obtain ⟨k0, k1, k2, k3⟩ := hC.c4
    go_wp2_with fail
    refine (rcheckCyl_ok _ c w1 hC.cyl).mono ?_
    rintro e w2 hp
    clear k0 k1 k2 k3
    obtain ⟨rfl, hb⟩ := hp
    replace hC := hC.call hb
    replace hB := hB.trans ((hb).mono hB.size)
    clear hb
    go_wp2
    exact bodyPost_ret (v := .tuple #[.slice none 0 0, .int .i64 (checkCyl c)]) (by simp [results, Try.results33, go_sem]) rfl (StPost.nil_ hB HE.out)
end Go.Proofs.Ytjjjockfppomdaa
