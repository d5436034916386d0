/- Contract of the reference: All. -/
import Derived.Test.YtjjjockfppomdaaLls
namespace Go.Proofs.Ytjjjockfppomdaa
open Go.RowKit Go.Shelf
set_option linter.unusedVariables false

set_option maxRecDepth 100000 in
set_option maxHeartbeats 6400000 in
theorem rall_ok (v : Value) (c : Cyl) (w : World) (hv : CylV w w.heap.size v c) (h0 : checkCyl c = 0) (h5 : c.pcs.length ≤ 5) :
    Calls Try.prog 51 #[v] w fun r w' => ∃ A cap, r = .returned (.slice A (joinsS c).length cap) ∧ LL w' (.slice A (joinsS c).length cap) (joinsS c) ∧ Below w.heap.size w w' := by
  obtain ⟨pa, pc, rfl, hp⟩ := hv.open_
  have hC := CB.new hp
  have hB := (Below.refl w.heap.size w).alloc (Nat.le_refl _) (.cells #[.slice pa c.pcs.length pc, .int .i64 c.off, .int .i64 c.slo, .int .i64 c.shi] 26)
  go_enter Try.func51, Try.ntmps51
  go_upto_region 1 with (fail)
  have HWS : Hid ((w.alloc (.cells #[.slice pa c.pcs.length pc, .int .i64 c.off, .int .i64 c.slo, .int .i64 c.shi] 26)).heap.size = w.heap.size + 1) := by simp [Hid]
  generalize hW : w.alloc (.cells #[.slice pa c.pcs.length pc, .int .i64 c.off, .int .i64 c.slo, .int .i64 c.shi] 26) = W at *
  clear hW hp
  clear hv HWS
  have H0 := Lib.hid h0
  have H5 := Lib.hid h5
  have HG := Lib.hid (good_len h0)
  clear h0 h5
  go_upto_region 2 with (fail)
  have b1 := Blk.new W 28 #[]
  have hb1 := (Below.refl W.heap.size W).alloc (Nat.le_refl _) (.cells #[] 28)
  have hz1 : (W.alloc (.cells #[] 28)).heap.size = W.heap.size + 1 := by simp
  have hb2 := hb1.alloc hb1.size (.cells #[.slice (some ⟨W.heap.size, 0, none⟩) 0 0] 29)
  have b2 := Blk.new (W.alloc (.cells #[] 28)) 29 #[.slice (some ⟨W.heap.size, 0, none⟩) 0 0]
  rw [hz1] at b2
  have hL0 : LL ((W.alloc (.cells #[] 28)).alloc (.cells #[.slice (some ⟨W.heap.size, 0, none⟩) 0 0] 29)) (.slice (some ⟨W.heap.size + 1, 0, none⟩) 1 1) (lvl c 0) :=
    LL.first (b1.call ((Below.refl _ _).alloc (Nat.le_refl _) _)) b2
  replace hC := hC.call hb2
  replace hB := hB.trans (hb2.mono hB.size)
  clear b1 hb1 hz1 hb2 b2
  generalize ((W.alloc (.cells #[] 28)).alloc (.cells #[.slice (some ⟨W.heap.size, 0, none⟩) 0 0] 29)) = w1 at *
  generalize W.heap.size = ws at *
  obtain ⟨k0, k1, k2, k3⟩ := hC.c4
  go_wp2_with fail
  refine (rsteps_ok _ c w1 hC.cyl HG.out.2).mono ?_
  rintro e w2 ⟨sA, sc, rfl, hS, hb⟩
  clear k0 k1 k2 k3
  replace hC := hC.call hb
  replace hB := hB.trans (hb.mono hB.size)
  replace hL0 := hL0.below hb
  clear hb
  obtain ⟨S, hSe⟩ : ∃ S, S = stepsOf c := ⟨_, rfl⟩
  rw [← hSe] at hS ⊢
  have HSE := Lib.hid hSe
  have HS10 : Hid (S.length ≤ 10) := by rw [Hid, hSe]; exact steps_ten H5.out
  clear hSe
  go_wp2
  go_loopg [3] c.pcs.length (fun g d wr => ∃ (f : Nat) (A : Option Addr) (cap : Nat), f + g = c.pcs.length ∧ d = .slice A (lvl c f).length cap ∧ LL wr (.slice A (lvl c f).length cap) (lvl c f) ∧ Below w2.heap.size w2 wr)
  case atStart => exact ⟨0, _, _, by omega, rfl, hL0, Below.refl _ _⟩
  case round =>
    obtain ⟨f, A, cap, hfg, rfl, hL, hbr⟩ := hrel
    obtain ⟨lN, hlN⟩ : ∃ lN, lN = lvl c f := ⟨_, rfl⟩
    rw [← hlN] at hL ⊢
    have HLN := Lib.hid hlN
    have hN5 : Hid (lN.length ≤ 100000) := by rw [Hid, hlN]; exact lvl_small H5.out (by have := H5.out; omega)
    clear hlN
    obtain ⟨wl, hwl⟩ : ∃ wl : World, wl = wr := ⟨_, rfl⟩
    rw [← hwl] at hL hbr ⊢
    clear hwl wr
    have hCl := hC.call hbr
    have hSl := (hS.below hbr).more hbr.size
    have hBl := hB.trans (hbr.mono hB.size)
    obtain ⟨k0, k1, k2, k3⟩ := hCl.c4
    have f0 := Ext.of k0
    clear k0 k1 k2 k3
    by_cases hne : lN = []
    · have hend : Hid (joinsS c = lN) := by
        have := lvl_stop (c := c) (f := f) (by rw [← HLN.out, hne]) gk
        rw [hfg] at this
        rw [Hid, joinsS_lvl, this, hne]
      obtain ⟨n, hn⟩ : ∃ n, n = lN.length := ⟨_, rfl⟩
      have hn0 : n = 0 := by rw [hn, hne]; rfl
      have d1 : decide ((0 : Int) < (n : Int)) = false := by rw [hn0]; rfl
      have d1' : decide (0 < n) = false := by rw [hn0]; rfl
      rw [← hn] at hL ⊢
      have HNn := Lib.hid hn
      clear hn hn0 hne
      go_upto_region 3 with (fail)
      refine wp_region_ext (by kernel_rfl) (by kernel_rfl) ?_
      repeat (go_big_quiet_step (fail))
      refine wpQuiet_nil ?_
      intro _ hw'
      obtain ⟨xr, hw''⟩ := hw'
      subst hw''
      have hLx := hL.below xr.h
      have hBx := hBl.trans (xr.h.mono hBl.size)
      go_wp2
      go_ret
      rw [hend.out, ← HNn.out]
      exact ⟨_, _, rfl, hLx, hBx⟩
    · obtain ⟨l0, hl0⟩ : ∃ l0, lN[0]? = some l0 := ⟨_, List.getElem?_eq_getElem (List.length_pos_iff.2 hne)⟩
      have hl0f : l0.length = f := lvl_len (by rw [← HLN.out]; exact List.mem_of_getElem? hl0)
      obtain ⟨ob, oo, iA, ic, hoA, hob, hoc, -⟩ := hL.at_ hl0
      subst hoA
      rw [Nat.add_zero, hl0f] at hoc
      have f1 := Ext.of hoc
      obtain ⟨n, hn⟩ : ∃ n, n = lN.length := ⟨_, rfl⟩
      have hn0 : 0 < n := by rw [hn]; exact List.length_pos_iff.2 hne
      have d1 : decide ((0 : Int) < (n : Int)) = true := decide_eq_true (by omega)
      have d1' : decide (0 < n) = true := decide_eq_true hn0
      have hni : (0 : Int) < (n : Int) := by omega
      have HNn := Lib.hid hn
      rw [← hn] at hL hN5 ⊢
      clear hn hne hl0 hl0f hoc
      by_cases hfn : f = c.pcs.length
      · have hend : Hid (joinsS c = lN) := by rw [Hid, joinsS_lvl, HLN.out, hfn]
        have d2 : decide ((f : Int) < (c.pcs.length : Int)) = false := decide_eq_false (by omega)
        have d2' : decide (f < c.pcs.length) = false := decide_eq_false (by omega)
        clear hfn hfg
        go_upto_region 3 with (fail)
        refine wp_region_ext (by kernel_rfl) (by kernel_rfl) ?_
        repeat (go_big_quiet_step (fail))
        refine wpQuiet_nil ?_
        intro _ hw'
        obtain ⟨xr, hw''⟩ := hw'
        subst hw''
        have hLx := hL.below xr.h
        have hBx := hBl.trans (xr.h.mono hBl.size)
        go_wp2
        go_ret
        rw [hend.out, ← HNn.out]
        exact ⟨_, _, rfl, hLx, hBx⟩
      · have d2 : decide ((f : Int) < (c.pcs.length : Int)) = true := decide_eq_true (by omega)
        have d2' : decide (f < c.pcs.length) = true := decide_eq_true (by omega)
        have HFG := Lib.hid (And.intro hfg hfn)
        clear hfn hfg
        go_upto_region 3 with (fail)
        refine wp_region_ext (by kernel_rfl) (by kernel_rfl) ?_
        repeat (go_big_quiet_step (fail))
        refine wpQuiet_nil ?_
        intro _ hw'
        obtain ⟨xr, hw''⟩ := hw'
        subst hw''
        replace hL := hL.below xr.h
        replace hCl := hCl.call xr.h
        replace hSl := (hSl.below xr.h).more xr.h.size
        replace hBl := hBl.trans (xr.h.mono hBl.size)
        replace hbr := hbr.trans (xr.h.mono hbr.size)
        generalize xr.w = wl at *
        clear f0 f1 d1 d1' d2 d2' xr hob
        go_wp2
        go_loopw [5, 6] (fun x i wr => ∃ (m : Nat) (L : List (List St)) (A2 : Option Addr) (cap2 : Nat) (vs : List Value), m ≤ n ∧ i = .int .i64 m ∧ Hid (L = (lN.take m).flatMap (ext c)) ∧ x = .slice A2 L.length cap2 ∧ NB wl L A2 cap2 vs wr) (fun _ i _ => n - (intOf i).toNat)
        case atStart => exact ⟨0, [], none, 0, [], Nat.zero_le _, rfl, rfl, rfl, NB.nil_ wl⟩
        case round =>
          obtain ⟨m, L, A2, cap2, vs, hm, rfl, hLL, rfl, hNB⟩ := hrel
          by_cases hm1 : m < n
          · have d3 : decide (m < n) = true := decide_eq_true hm1
            have d3' : decide ((m : Int) < (n : Int)) = true := decide_eq_true (by omega)
            have hmi : (m : Int) < (n : Int) := by omega
            have em : IntKind.i64.wrap ((m : Int) + 1) = ((m + 1 : Nat) : Int) := by have := hN5.out; rw [IntKind.wrap_i64]; omega
            obtain ⟨l, hl⟩ : ∃ l, lN[m]? = some l := ⟨_, List.getElem?_eq_getElem (by have := HNn.out; omega)⟩
            have hlm : Hid (l ∈ lvl c f) := by rw [Hid, ← HLN.out]; exact List.mem_of_getElem? hl
            have hl5 : Hid (l.length ≤ 5) := by rw [Hid, lvl_len hlm.out]; have := H5.out; have := HFG.out; omega
            have hnext : Hid ((lN.take (m + 1)).flatMap (ext c) = L ++ ext c l) := by rw [Hid, take_snoc hl, List.flatMap_append, ← hLL.out]; simp
            obtain ⟨ob', oo', lA, lc, hoA, hob, hoc, hla⟩ := hL.at_ hl
            injection hoA with hoA
            injection hoA with e1 e2
            subst e1 e2
            have hLb : Hid (L.length ≤ 1000000) := by
              rw [Hid, hLL.out, List.length_flatMap]
              refine Nat.le_trans (sum_le (b := 10) fun x _ => Nat.le_trans (ext_len c x) (by rw [← HSE.out]; exact HS10.out)) ?_
              rw [List.length_take]
              have := hN5.out
              have := HNn.out
              omega
            have c0 := (hNB.bl.cell (p := ⟨ob, oo + m, none⟩) hob).trans hoc
            clear hl hoc hLL
            obtain ⟨wm, hwm⟩ : ∃ wm : World, wm = wr := ⟨_, rfl⟩
            rw [← hwm] at hNB c0 ⊢
            clear hwm wr
            go_wp2
            clear c0
            go_loopw [5, 8] (fun x i wr => ∃ (q : Nat) (L' : List (List St)) (A2 : Option Addr) (cap2 : Nat) (vs : List Value), q ≤ S.length ∧ i = .int .i64 q ∧ Hid (L' = L ++ ((S.take q).filter (goodK c l)).map fun s => l ++ [s]) ∧ x = .slice A2 L'.length cap2 ∧ NB wl L' A2 cap2 vs wr) (fun _ i _ => S.length - (intOf i).toNat)
            case atStart => exact ⟨0, L, A2, cap2, vs, Nat.zero_le _, rfl, by simp [Hid], rfl, hNB⟩
            case round =>
              clear hNB
              obtain ⟨q, L', A2, cap2, vs, hq, rfl, hLq, rfl, hNB⟩ := hrel
              by_cases hq1 : q < S.length
              · have d4 : decide (q < S.length) = true := decide_eq_true hq1
                have d4' : decide ((q : Int) < (S.length : Int)) = true := decide_eq_true (by omega)
                have hqi : (q : Int) < (S.length : Int) := by omega
                have eq1 : IntKind.i64.wrap ((q : Int) + 1) = ((q + 1 : Nat) : Int) := by have := HS10.out; rw [IntKind.wrap_i64]; omega
                obtain ⟨sb, so, s, hsA, hsb, hs1, hs2⟩ := hSl.at_ hq1
                subst hsA
                have hsm : s ∈ stepsOf c := by rw [← HSE.out]; exact List.mem_of_getElem? hs1
                have hstep := (isStep_iff c s).2 hsm
                have hnx : Hid (L ++ ((S.take (q + 1)).filter (goodK c l)).map (fun s => l ++ [s]) = L' ++ if goodK c l s = true then [l ++ [s]] else []) := by
                  rw [Hid, take_snoc hs1, List.filter_append, List.map_append, ← List.append_assoc, ← hLq.out]
                  congr 1
                  simp only [List.filter_cons, List.filter_nil]
                  split <;> rfl
                have hLb' : Hid (L'.length ≤ 1000010) := by
                  rw [Hid, hLq.out, List.length_append, List.length_map]
                  have h1 := List.length_filter_le (goodK c l) (S.take q)
                  rw [List.length_take] at h1
                  have := HS10.out
                  have := hLb.out
                  omega
                obtain ⟨wq, hwq⟩ : ∃ wq : World, wq = wr := ⟨_, rfl⟩
                rw [← hwq] at hNB ⊢
                clear hwq wr hLq hs1 hsm
                obtain ⟨sp, st⟩ := s
                obtain ⟨ky, hky, hkyl⟩ := isStep_n hstep
                simp only at hky
                subst hky
                have s0 := hs2 0 (by omega)
                have s1 := hs2 1 (by omega)
                simp only [Nat.add_zero, stcell] at s0 s1
                have HSC := Lib.hid (And.intro s0 s1)
                clear hs2 s0 s1 hstep
                go_upto_region 12 with (fail)
                go_cut [9] from 44 to 60 (fun g wx => g = .bool (lastOk c l ⟨(ky : Int), st⟩) ∧ Below wq.heap.size wq wx)
                case first =>
                  by_cases hle : l = []
                  · have hlo : Hid (lastOk c l ⟨(ky : Int), st⟩ = true) := by rw [Hid, hle]; rfl
                    have d5 : ((l.length : Int) == 0) = true := by rw [hle]; rfl
                    clear hle
                    refine wp_region_ext (by kernel_rfl) (by kernel_rfl) ?_
                    repeat (go_big_quiet_step (fail))
                    refine wpQuiet_nil ?_
                    intro _ hw'
                    obtain ⟨xr, hw''⟩ := hw'
                    subst hw''
                    go_wp2
                    go_meet
                    case rel => exact ⟨by rw [hlo.out], xr.h⟩
                  · obtain ⟨j, hj⟩ : ∃ j, l.length = j + 1 := ⟨l.length - 1, by have := List.length_pos_iff.2 hle; omega⟩
                    obtain ⟨xb, xo, x, hxa, hxb, hx1, hx2⟩ := hla.at_ (show j < l.length by omega)
                    subst hxa
                    have hlast : Hid (lastOk c l ⟨(ky : Int), st⟩ = fitsS c x ⟨(ky : Int), st⟩) := by
                      have : l.getLast? = some x := by rw [List.getLast?_eq_getElem?, hj, Nat.add_sub_cancel]; exact hx1
                      unfold lastOk
                      rw [Hid, this]
                    obtain ⟨kx, hkx, hkxl⟩ := isStep_n (lvl_step hlm.out (List.mem_of_getElem? hx1))
                    obtain ⟨xp, xt⟩ := x
                    simp only at hkx
                    subst hkx
                    have hCq := hCl.call hNB.bl
                    obtain ⟨k0, k1, k2, k3⟩ := hCq.c4
                    have f0 := Ext.of k0
                    have f1 := Ext.of k1
                    have f2 := Ext.of k2
                    have f3 := Ext.of k3
                    have f4 := Ext.of ((hNB.bl.cell (p := ⟨sb, so + q * 2, none⟩) hsb).trans HSC.out.1)
                    have f5 := Ext.of ((hNB.bl.cell (p := ⟨sb, so + q * 2 + 1, none⟩) hsb).trans HSC.out.2)
                    have f6 := Ext.of ((hNB.bl.cell (p := ⟨xb, xo + j * 2 + 0, none⟩) hxb).trans (hx2 0 (by omega)))
                    have f7 := Ext.of ((hNB.bl.cell (p := ⟨xb, xo + j * 2 + 1, none⟩) hxb).trans (hx2 1 (by omega)))
                    simp only [Nat.add_zero, stcell] at f6 f7
                    have HA : Hid (∀ y : Ext wq, Calls Try.prog 45 #[_, .agg #[.int .i64 (kx : Int), .bool xt], .agg #[.int .i64 (ky : Int), .bool st]] y.w fun r w' => r = .returned (.bool (fitsS c ⟨kx, xt⟩ ⟨ky, st⟩)) ∧ ∃ z : Ext wq, w' = z.w) := fun y => ext_call y (fits_ok _ c kx ky xt st y.w (hCq.call y.h).cyl H0.out hkxl hkyl)
                    have d5 : ((l.length : Int) == 0) = false := beq_false_of_ne (by omega)
                    have ej : IntKind.i64.wrap ((l.length : Int) - 1) = (j : Int) := by have := hl5.out; rw [IntKind.wrap_i64]; omega
                    have hji : (j : Int) < (l.length : Int) := by omega
                    have HJ := Lib.hid hj
                    clear k0 k1 k2 k3 hx1 hx2 hj hle hxb
                    refine wp_region_ext (by kernel_rfl) (by kernel_rfl) ?_
                    repeat (go_big_quiet_step ((go_at_call 45; with_reducible exact HA.out _)))
                    refine wpQuiet_nil ?_
                    intro _ hw'
                    obtain ⟨xr, hw''⟩ := hw'
                    subst hw''
                    go_wp2
                    go_meet
                    case rel => exact ⟨by rw [hlast.out], xr.h⟩
                case rest =>
                  obtain ⟨rfl, hb⟩ := hcut
                  replace hNB := hNB.call hb
                  clear hb
                  obtain ⟨B0, hB0⟩ : ∃ B0, B0 = lastOk c l ⟨(ky : Int), st⟩ := ⟨_, rfl⟩
                  rw [← hB0]
                  have HB0 := Lib.hid hB0
                  obtain ⟨wp, hwp⟩ : ∃ wp : World, wp = wc := ⟨_, rfl⟩
                  rw [← hwp] at hNB ⊢
                  clear hwp hB0 wq
                  go_wp2
                  go_loopw [9, 10] (fun g i wr => ∃ j : Nat, j ≤ l.length ∧ i = .int .i64 j ∧ g = .bool (B0 && (l.take j).all fun x => decide (x.p ≠ (ky : Int))) ∧ Below wp.heap.size wp wr) (fun _ i _ => l.length - (intOf i).toNat)
                  case atStart => exact ⟨0, Nat.zero_le _, rfl, by simp, Below.refl _ _⟩
                  case round =>
                    obtain ⟨j, hj, rfl, rfl, hbj⟩ := hrel
                    by_cases hj1 : j < l.length
                    · have d6 : decide (j < l.length) = true := decide_eq_true hj1
                      have d6' : decide ((j : Int) < (l.length : Int)) = true := decide_eq_true (by omega)
                      have hji : (j : Int) < (l.length : Int) := by omega
                      have ej : IntKind.i64.wrap ((j : Int) + 1) = ((j + 1 : Nat) : Int) := by have := hl5.out; rw [IntKind.wrap_i64]; omega
                      obtain ⟨xb, xo, x, hxa, hxb, hx1, hx2⟩ := hla.at_ hj1
                      subst hxa
                      have hnj : Hid ((B0 && (l.take (j + 1)).all fun x => decide (x.p ≠ (ky : Int))) = ((B0 && (l.take j).all fun x => decide (x.p ≠ (ky : Int))) && (x.p != (ky : Int)))) := by
                        rw [Hid, take_snoc hx1, List.all_append, ← Bool.and_assoc]
                        congr 1
                        simp only [List.all_cons, List.all_nil, Bool.and_true, ne_eq]
                        rw [Bool.eq_iff_iff]
                        simp
                      have hbw := hNB.bl.trans (hbj.mono hNB.bl.size)
                      have f0 := Ext.of ((hbw.cell (p := ⟨sb, so + q * 2, none⟩) hsb).trans HSC.out.1)
                      have f1 := Ext.of ((hbw.cell (p := ⟨xb, xo + j * 2 + 0, none⟩) hxb).trans (hx2 0 (by omega)))
                      simp only [Nat.add_zero, stcell] at f0 f1
                      clear hx1 hx2 hbw hxb
                      generalize (B0 && (l.take j).all fun x => decide (x.p ≠ (ky : Int))) = G at *
                      cases G
                      · go_upto_region 16 with (fail)
                        refine wp_region_ext (by kernel_rfl) (by kernel_rfl) ?_
                        repeat (go_big_quiet_step (fail))
                        refine wpQuiet_nil ?_
                        intro _ hw'
                        obtain ⟨xr, hw''⟩ := hw'
                        subst hw''
                        have hbz := hbj.trans (xr.h.mono hbj.size)
                        go_wp2
                        go_roundw
                        case rel => exact ⟨j + 1, by omega, by go_num, by rw [hnj.out]; rfl, hbz⟩
                        case measure => (simp [intOf]; try omega)
                      · go_upto_region 16 with (fail)
                        refine wp_region_ext (by kernel_rfl) (by kernel_rfl) ?_
                        repeat (go_big_quiet_step (fail))
                        refine wpQuiet_nil ?_
                        intro _ hw'
                        obtain ⟨xr, hw''⟩ := hw'
                        subst hw''
                        have hbz := hbj.trans (xr.h.mono hbj.size)
                        go_wp2
                        go_roundw
                        case rel => exact ⟨j + 1, by omega, by go_num, by rw [hnj.out]; rfl, hbz⟩
                        case measure => (simp [intOf]; try omega)
                    · obtain rfl : j = l.length := by omega
                      have d6 : decide (l.length < l.length) = false := by simp
                      have hgood : (B0 && (l.take l.length).all fun x => decide (x.p ≠ (ky : Int))) = goodK c l ⟨(ky : Int), st⟩ := by rw [List.take_length, HB0.out]; rfl
                      rw [hgood]
                      have hNB3 := hNB.call hbj
                      clear hgood hNB hbj hj hj1
                      obtain ⟨wq, hwq⟩ : ∃ wq : World, wq = wr := ⟨_, rfl⟩
                      rw [← hwq] at hNB3 ⊢
                      clear hwq wr
                      cases hgd : goodK c l ⟨(ky : Int), st⟩
                      · have hno : Hid (L' = L ++ ((S.take (q + 1)).filter (goodK c l)).map fun s => l ++ [s]) := by rw [Hid, hnx.out, hgd]; simp
                        clear hgd
                        go_wp2
                        go_roundw
                        case rel => exact ⟨q + 1, L', A2, cap2, vs, by omega, by go_num, hno, rfl, hNB3⟩
                        case measure => (simp [intOf]; try omega)
                      · have hyes : Hid (L' ++ [l ++ [⟨(ky : Int), st⟩]] = L ++ ((S.take (q + 1)).filter (goodK c l)).map fun s => l ++ [s]) := by rw [Hid, hnx.out, hgd]; simp
                        clear hgd
                        have s0 := Ext.of HSC.out.1
                        have s1 := Ext.of HSC.out.2
                        have hla3 := (hla.below hNB3.bl).more hNB3.bl.size
                        have HX : Hid (∀ {w' : World}, Below wq.heap.size wq w' → Below wl.heap.size wl w') := fun {w'} h => hNB3.bl.trans (h.mono hNB3.bl.size)
                        go_upto_region 18 with (fail)
                        have hx : Below wq.heap.size wq wq.drew := (Below.refl wq.heap.size wq).drew
                        refine ways_start 13 (fun w' => ∃ x : Ext wl, w' = x.w) (by rfl) (by kernel_rfl) ?_
                        generalize wq.drew = v0 at *
                        refine ways_q 0 (by rfl) (by rfl) (by kernel_rfl) (by kernel_rfl) (by kernel_rfl) (by rfl) ⟨⟨v0, HX.out hx⟩, rfl⟩ ?_
                        intro K hK
                        go_big_quiet_op
                        go_big_quiet_on
                        refine ways_q 2 (by rfl) (by rfl) (by kernel_rfl) (by kernel_rfl) (by kernel_rfl) (by rfl) ⟨⟨v0, HX.out hx⟩, rfl⟩ ?_
                        intro K hK
                        go_big_quiet_op
                        go_big_quiet_on
                        refine ways_q 4 (by rfl) (by rfl) (by kernel_rfl) (by kernel_rfl) (by kernel_rfl) (by rfl) ⟨⟨v0, HX.out hx⟩, rfl⟩ ?_
                        intro K hK
                        go_big_quiet_op
                        go_big_quiet_on
                        refine ways_q 5 (by rfl) (by rfl) (by kernel_rfl) (by kernel_rfl) (by kernel_rfl) (by rfl) ⟨⟨v0, HX.out hx⟩, rfl⟩ ?_
                        intro K hK
                        go_big_quiet_op
                        go_big_quiet_on
                        refine ways_q 6 (by rfl) (by rfl) (by kernel_rfl) (by kernel_rfl) (by kernel_rfl) (by rfl) ⟨⟨v0, HX.out hx⟩, rfl⟩ ?_
                        intro K hK
                        go_big_quiet_op
                        go_big_quiet_on
                        refine ways_q 7 (by rfl) (by rfl) (by kernel_rfl) (by kernel_rfl) (by kernel_rfl) (by rfl) ⟨⟨v0, HX.out hx⟩, rfl⟩ ?_
                        intro K hK
                        go_big_quiet_op
                        go_big_quiet_on
                        refine ways_2 1 8 (by kernel_rfl) ?_ ?_
                        · refine ⟨_, _, (by rfl), (by rfl), ?_⟩
                          intro K' hK'
                          go_wp2
                          have hown := own_empty v0 wq.heap.size 28 2 hx.size
                          have hbb := (Below.refl (v0).heap.size v0).alloc (Nat.le_refl _) (.cells #[] 28)
                          have hgs : (v0).heap.size < ((v0).alloc (.cells #[] 28)).heap.size := by simp
                          replace hx := hx.trans (hbb.mono hx.size)
                          skip
                          generalize (v0).alloc (.cells #[] 28) = v1 at *
                          generalize (v0).heap.size = eb at *
                          refine hK' _ _ ⟨⟨⟨v1, HX.out hx⟩, rfl⟩, ?_⟩
                          clear hK' K' hbb
                          refine ways_2 3 8 (by kernel_rfl) ?_ ?_
                          · refine ⟨_, _, (by rfl), (by rfl), ?_⟩
                            intro K' hK'
                            refine wpList_appArr (sv := .slice (some ⟨eb, 0, none⟩) 0 0) slT_st rfl (.tmp 83) (.tmp 84) rfl rfl hown rfl (hla3.below hx) (one_sts _) hx.size (by have := hl5.out; omega) (by omega) ?_
                            intro v' v2 hown2 hb2 hgr
                            rw [Nat.zero_add, List.nil_append] at hown2
                            obtain ⟨A3, cap3, rfl⟩ := own_form hown2
                            replace hx := hx.trans hb2
                            skip
                            clear hown hgr hb2
                            go_wp2
                            refine hK' _ _ ⟨⟨⟨v2, HX.out hx⟩, rfl⟩, ?_⟩
                            clear hK' K'
                            refine ways_1 8 (by kernel_rfl) ?_
                            refine ⟨_, _, (by rfl), (by rfl), ?_⟩
                            intro K' hK'
                            go_wp2
                            have hs1 := Blk.new v2 28 #[.int .i64 ky, .bool st]
                            have hbb := (Below.refl (v2).heap.size v2).alloc (Nat.le_refl _) (.cells #[.int .i64 ky, .bool st] 28)
                            have hgs2 : (v2).heap.size < ((v2).alloc (.cells #[.int .i64 ky, .bool st] 28)).heap.size := by simp
                            replace hx := hx.trans (hbb.mono hx.size)
                            replace hown2 := own_call hown2 hbb
                            generalize (v2).alloc (.cells #[.int .i64 ky, .bool st] 28) = v3 at *
                            generalize (v2).heap.size = sx at *
                            refine hK' _ _ ⟨⟨⟨v3, HX.out hx⟩, rfl⟩, ?_⟩
                            clear hK' K' hbb
                            refine ways_1 9 (by kernel_rfl) ?_
                            refine ⟨_, _, (by rfl), (by rfl), ?_⟩
                            intro K' hK'
                            have harr1 : Arr v3 (v3).heap.size 2 (.slice (some ⟨sx, 0, none⟩) 1 1) [(⟨(ky : Int), st⟩ : St)] stcell := Arr.lit hs1 hs1.lt rfl (by simp) (by omega) (by simp [cellsOf, List.range_succ, stcell])
                            refine wpList_appArr (l := [(⟨(ky : Int), st⟩ : St)]) slT_st rfl (.tmp 85) (.tmp 90) rfl rfl hown2 rfl harr1 (one_sts _) hx.size (by have := hl5.out; simp; omega) (by omega) ?_
                            intro v5 u5 hown3 hb3 hgr3
                            rw [← List.flatMap_append] at hown3
                            obtain ⟨nb, ncap, rfl, hRS, hnb, hn1, hn2⟩ := RowS.of_own hown3 (by simp) (by simp)
                            replace hx := hx.trans hb3
                            clear hown3 hgr3 hb3 hown2 harr1 hs1
                            go_wp2
                            refine hK' _ _ ⟨⟨⟨u5, HX.out hx⟩, rfl⟩, ?_⟩
                            clear hK' K'
                            refine ways_1 10 (by kernel_rfl) ?_
                            refine ⟨_, _, (by rfl), (by rfl), ?_⟩
                            intro K' hK'
                            go_wp2
                            refine hK' _ _ ⟨⟨⟨_, HX.out (hx.alloc hx.size _)⟩, rfl⟩, ?_⟩
                            clear hK' K'
                            have hNB5 := hNB3.call hx
                            refine ways_1 11 (by kernel_rfl) ?_
                            refine ⟨_, _, (by rfl), (by rfl), ?_⟩
                            intro K' hK'
                            refine wpList_app1 slT_ls rfl (.tmp 82) (.tmp 92) rfl (A := A2) (cc := cap2) rfl ⟨cap2, hNB5.own, .inl rfl⟩ rfl rfl one_sl hNB5.bl.size ?_ ?_ ?_
                            any_goals (have := hLb'.out; omega)
                            intro v7 w7 hown7 hb7 hkeep
                            obtain ⟨A4, cap4, rfl, hNB4⟩ := hNB5.app (l := l ++ [⟨(ky : Int), st⟩]) hRS (by simpa using hn1) hn2 hb7 hkeep (by simpa using hown7)
                            clear hkeep hown7 hb7 hNB5
                            go_wp2
                            refine hK' _ _ ⟨⟨⟨w7, hNB4.bl⟩, rfl⟩, ?_⟩
                            clear hK' K'
                            refine ways_q 12 (by rfl) (by rfl) (by kernel_rfl) (by kernel_rfl) (by kernel_rfl) (by rfl) ⟨⟨w7, hNB4.bl⟩, rfl⟩ ?_
                            intro K hK
                            go_big_quiet_op
                            go_big_quiet_on
                            refine ways_end (by kernel_rfl) ?_
                            clear s0 s1
                            go_wp2
                            go_roundw
                            case rel => exact ⟨q + 1, _, A4, cap4, _, by omega, by go_num, hyes, by simp, hNB4⟩
                            case measure => (simp [intOf]; try omega)
                          · refine ⟨_, _, (by rfl), (by rfl), ?_⟩
                            intro K' hK'
                            go_wp2
                            have hs1 := Blk.new v1 28 #[.int .i64 ky, .bool st]
                            have hbb := (Below.refl (v1).heap.size v1).alloc (Nat.le_refl _) (.cells #[.int .i64 ky, .bool st] 28)
                            have hgs2 : (v1).heap.size < ((v1).alloc (.cells #[.int .i64 ky, .bool st] 28)).heap.size := by simp
                            replace hx := hx.trans (hbb.mono hx.size)
                            replace hown := own_call hown hbb
                            generalize (v1).alloc (.cells #[.int .i64 ky, .bool st] 28) = v2 at *
                            generalize (v1).heap.size = sx at *
                            refine hK' _ _ ⟨⟨⟨v2, HX.out hx⟩, rfl⟩, ?_⟩
                            clear hK' K' hbb
                            refine ways_1 3 (by kernel_rfl) ?_
                            refine ⟨_, _, (by rfl), (by rfl), ?_⟩
                            intro K' hK'
                            refine wpList_appArr (sv := .slice (some ⟨eb, 0, none⟩) 0 0) slT_st rfl (.tmp 83) (.tmp 84) rfl rfl hown rfl (hla3.below hx) (one_sts _) hx.size (by have := hl5.out; omega) (by omega) ?_
                            intro v' v3 hown2 hb2 hgr
                            rw [Nat.zero_add, List.nil_append] at hown2
                            obtain ⟨A3, cap3, rfl⟩ := own_form hown2
                            replace hx := hx.trans hb2
                            replace hs1 := hs1.grown hgr (fun e => absurd (show sx = eb by simpa [Value.ownBlock] using e) (by omega))
                            clear hown hgr hb2
                            go_wp2
                            refine hK' _ _ ⟨⟨⟨v3, HX.out hx⟩, rfl⟩, ?_⟩
                            clear hK' K'
                            refine ways_1 9 (by kernel_rfl) ?_
                            refine ⟨_, _, (by rfl), (by rfl), ?_⟩
                            intro K' hK'
                            have harr1 : Arr v3 (v3).heap.size 2 (.slice (some ⟨sx, 0, none⟩) 1 1) [(⟨(ky : Int), st⟩ : St)] stcell := Arr.lit hs1 hs1.lt rfl (by simp) (by omega) (by simp [cellsOf, List.range_succ, stcell])
                            refine wpList_appArr (l := [(⟨(ky : Int), st⟩ : St)]) slT_st rfl (.tmp 85) (.tmp 90) rfl rfl hown2 rfl harr1 (one_sts _) hx.size (by have := hl5.out; simp; omega) (by omega) ?_
                            intro v5 u5 hown3 hb3 hgr3
                            rw [← List.flatMap_append] at hown3
                            obtain ⟨nb, ncap, rfl, hRS, hnb, hn1, hn2⟩ := RowS.of_own hown3 (by simp) (by simp)
                            replace hx := hx.trans hb3
                            clear hown3 hgr3 hb3 hown2 harr1 hs1
                            go_wp2
                            refine hK' _ _ ⟨⟨⟨u5, HX.out hx⟩, rfl⟩, ?_⟩
                            clear hK' K'
                            refine ways_1 10 (by kernel_rfl) ?_
                            refine ⟨_, _, (by rfl), (by rfl), ?_⟩
                            intro K' hK'
                            go_wp2
                            refine hK' _ _ ⟨⟨⟨_, HX.out (hx.alloc hx.size _)⟩, rfl⟩, ?_⟩
                            clear hK' K'
                            have hNB5 := hNB3.call hx
                            refine ways_1 11 (by kernel_rfl) ?_
                            refine ⟨_, _, (by rfl), (by rfl), ?_⟩
                            intro K' hK'
                            refine wpList_app1 slT_ls rfl (.tmp 82) (.tmp 92) rfl (A := A2) (cc := cap2) rfl ⟨cap2, hNB5.own, .inl rfl⟩ rfl rfl one_sl hNB5.bl.size ?_ ?_ ?_
                            any_goals (have := hLb'.out; omega)
                            intro v7 w7 hown7 hb7 hkeep
                            obtain ⟨A4, cap4, rfl, hNB4⟩ := hNB5.app (l := l ++ [⟨(ky : Int), st⟩]) hRS (by simpa using hn1) hn2 hb7 hkeep (by simpa using hown7)
                            clear hkeep hown7 hb7 hNB5
                            go_wp2
                            refine hK' _ _ ⟨⟨⟨w7, hNB4.bl⟩, rfl⟩, ?_⟩
                            clear hK' K'
                            refine ways_q 12 (by rfl) (by rfl) (by kernel_rfl) (by kernel_rfl) (by kernel_rfl) (by rfl) ⟨⟨w7, hNB4.bl⟩, rfl⟩ ?_
                            intro K hK
                            go_big_quiet_op
                            go_big_quiet_on
                            refine ways_end (by kernel_rfl) ?_
                            clear s0 s1
                            go_wp2
                            go_roundw
                            case rel => exact ⟨q + 1, _, A4, cap4, _, by omega, by go_num, hyes, by simp, hNB4⟩
                            case measure => (simp [intOf]; try omega)
                        · refine ⟨_, _, (by rfl), (by rfl), ?_⟩
                          intro K' hK'
                          go_wp2
                          have hs1 := Blk.new v0 28 #[.int .i64 ky, .bool st]
                          have hbb := (Below.refl (v0).heap.size v0).alloc (Nat.le_refl _) (.cells #[.int .i64 ky, .bool st] 28)
                          have hgs2 : (v0).heap.size < ((v0).alloc (.cells #[.int .i64 ky, .bool st] 28)).heap.size := by simp
                          replace hx := hx.trans (hbb.mono hx.size)
                          skip
                          generalize (v0).alloc (.cells #[.int .i64 ky, .bool st] 28) = v1 at *
                          generalize (v0).heap.size = sx at *
                          refine hK' _ _ ⟨⟨⟨v1, HX.out hx⟩, rfl⟩, ?_⟩
                          clear hK' K' hbb
                          refine ways_1 1 (by kernel_rfl) ?_
                          refine ⟨_, _, (by rfl), (by rfl), ?_⟩
                          intro K' hK'
                          go_wp2
                          have hown := own_empty v1 wq.heap.size 28 2 hx.size
                          have hbb := (Below.refl (v1).heap.size v1).alloc (Nat.le_refl _) (.cells #[] 28)
                          have hgs : (v1).heap.size < ((v1).alloc (.cells #[] 28)).heap.size := by simp
                          replace hx := hx.trans (hbb.mono hx.size)
                          replace hs1 := hs1.call hbb
                          generalize (v1).alloc (.cells #[] 28) = v2 at *
                          generalize (v1).heap.size = eb at *
                          refine hK' _ _ ⟨⟨⟨v2, HX.out hx⟩, rfl⟩, ?_⟩
                          clear hK' K' hbb
                          refine ways_1 3 (by kernel_rfl) ?_
                          refine ⟨_, _, (by rfl), (by rfl), ?_⟩
                          intro K' hK'
                          refine wpList_appArr (sv := .slice (some ⟨eb, 0, none⟩) 0 0) slT_st rfl (.tmp 83) (.tmp 84) rfl rfl hown rfl (hla3.below hx) (one_sts _) hx.size (by have := hl5.out; omega) (by omega) ?_
                          intro v' v3 hown2 hb2 hgr
                          rw [Nat.zero_add, List.nil_append] at hown2
                          obtain ⟨A3, cap3, rfl⟩ := own_form hown2
                          replace hx := hx.trans hb2
                          replace hs1 := hs1.grown hgr (fun e => absurd (show sx = eb by simpa [Value.ownBlock] using e) (by omega))
                          clear hown hgr hb2
                          go_wp2
                          refine hK' _ _ ⟨⟨⟨v3, HX.out hx⟩, rfl⟩, ?_⟩
                          clear hK' K'
                          refine ways_1 9 (by kernel_rfl) ?_
                          refine ⟨_, _, (by rfl), (by rfl), ?_⟩
                          intro K' hK'
                          have harr1 : Arr v3 (v3).heap.size 2 (.slice (some ⟨sx, 0, none⟩) 1 1) [(⟨(ky : Int), st⟩ : St)] stcell := Arr.lit hs1 hs1.lt rfl (by simp) (by omega) (by simp [cellsOf, List.range_succ, stcell])
                          refine wpList_appArr (l := [(⟨(ky : Int), st⟩ : St)]) slT_st rfl (.tmp 85) (.tmp 90) rfl rfl hown2 rfl harr1 (one_sts _) hx.size (by have := hl5.out; simp; omega) (by omega) ?_
                          intro v5 u5 hown3 hb3 hgr3
                          rw [← List.flatMap_append] at hown3
                          obtain ⟨nb, ncap, rfl, hRS, hnb, hn1, hn2⟩ := RowS.of_own hown3 (by simp) (by simp)
                          replace hx := hx.trans hb3
                          clear hown3 hgr3 hb3 hown2 harr1 hs1
                          go_wp2
                          refine hK' _ _ ⟨⟨⟨u5, HX.out hx⟩, rfl⟩, ?_⟩
                          clear hK' K'
                          refine ways_1 10 (by kernel_rfl) ?_
                          refine ⟨_, _, (by rfl), (by rfl), ?_⟩
                          intro K' hK'
                          go_wp2
                          refine hK' _ _ ⟨⟨⟨_, HX.out (hx.alloc hx.size _)⟩, rfl⟩, ?_⟩
                          clear hK' K'
                          have hNB5 := hNB3.call hx
                          refine ways_1 11 (by kernel_rfl) ?_
                          refine ⟨_, _, (by rfl), (by rfl), ?_⟩
                          intro K' hK'
                          refine wpList_app1 slT_ls rfl (.tmp 82) (.tmp 92) rfl (A := A2) (cc := cap2) rfl ⟨cap2, hNB5.own, .inl rfl⟩ rfl rfl one_sl hNB5.bl.size ?_ ?_ ?_
                          any_goals (have := hLb'.out; omega)
                          intro v7 w7 hown7 hb7 hkeep
                          obtain ⟨A4, cap4, rfl, hNB4⟩ := hNB5.app (l := l ++ [⟨(ky : Int), st⟩]) hRS (by simpa using hn1) hn2 hb7 hkeep (by simpa using hown7)
                          clear hkeep hown7 hb7 hNB5
                          go_wp2
                          refine hK' _ _ ⟨⟨⟨w7, hNB4.bl⟩, rfl⟩, ?_⟩
                          clear hK' K'
                          refine ways_q 12 (by rfl) (by rfl) (by kernel_rfl) (by kernel_rfl) (by kernel_rfl) (by rfl) ⟨⟨w7, hNB4.bl⟩, rfl⟩ ?_
                          intro K hK
                          go_big_quiet_op
                          go_big_quiet_on
                          refine ways_end (by kernel_rfl) ?_
                          clear s0 s1
                          go_wp2
                          go_roundw
                          case rel => exact ⟨q + 1, _, A4, cap4, _, by omega, by go_num, hyes, by simp, hNB4⟩
                          case measure => (simp [intOf]; try omega)
              · obtain rfl : q = S.length := by omega
                have d4 : decide (S.length < S.length) = false := by simp
                have hLe : Hid (L' = (lN.take (m + 1)).flatMap (ext c)) := by
                  rw [Hid, hnext.out, hLq.out, List.take_length, HSE.out]
                  rfl
                clear hLq
                go_wp2
                go_roundw
                case rel => exact ⟨m + 1, L', A2, cap2, vs, by omega, by go_num, hLe, rfl, hNB⟩
                case measure => (simp [intOf]; try omega)
          · obtain rfl : m = n := by omega
            have d3 : decide (m < m) = false := by simp
            have hLe : L = lvl c (f + 1) := by
              rw [hLL.out, HNn.out, List.take_length, HLN.out]; rfl
            subst hLe
            have hll := hNB.ll
            have hbz := hbr.trans (hNB.bl.mono hbr.size)
            have hfg2 := HFG.out
            clear hNB hLL hL
            go_wp2
            go_roundg (gk - 1)
            case measure => omega
            case rel => exact ⟨f + 1, A2, cap2, by omega, rfl, hll, hbz⟩
end Go.Proofs.Ytjjjockfppomdaa
