/- Contract of the reference: CheckJoin. -/
import Derived.Test.YtjjjockfppomdaaRefE
namespace Go.Proofs.Ytjjjockfppomdaa
open Go.RowKit Go.Shelf
set_option linter.unusedVariables false

theorem twice_pw : ∀ l : List St, twice l = false ↔ l.Pairwise fun a b => b.p ≠ a.p
  | [] => by simp [twice]
  | s :: r => by
    rw [twice, Bool.or_eq_false_iff, twice_pw r, List.pairwise_cons, List.any_eq_false]
    simp
theorem twice_at {l : List St} {k i : Nat} {x y : St} (hk : k < i) (hx : l[i]? = some x) (hy : l[k]? = some y) (h : x.p = y.p) : twice l = true := by
  cases ht : twice l
  · obtain ⟨h1, e1⟩ := List.getElem?_eq_some_iff.1 hx
    obtain ⟨h2, e2⟩ := List.getElem?_eq_some_iff.1 hy
    have := List.pairwise_iff_getElem.1 ((twice_pw l).1 ht) k i h2 h1 hk
    rw [e1, e2] at this
    exact absurd h this
  · rfl
theorem twice_not {l : List St} (h : ∀ (i : Nat) (x : St), l[i]? = some x → ∀ (k : Nat) (y : St), k < i → l[k]? = some y → x.p ≠ y.p) : twice l = false := by
  rw [twice_pw, List.pairwise_iff_getElem]
  intro i j hi hj hij
  exact h j l[j] (List.getElem?_eq_getElem hj) i l[i] hij (List.getElem?_eq_getElem hi)
theorem chain_all {c : Cyl} : ∀ {l : List St}, (∀ i x y, l[i]? = some x → l[i + 1]? = some y → fitsS c x y = true) → chain c l = true
  | [], _ => rfl
  | [_], _ => rfl
  | x :: y :: r, h => by
    rw [chain, h 0 x y rfl rfl, Bool.true_and]
    exact chain_all fun i a b ha hb => h (i + 1) a b (by simpa using ha) (by simpa using hb)
theorem chain_not {c : Cyl} : ∀ {l : List St} {i : Nat} {x y : St}, l[i]? = some x → l[i + 1]? = some y → fitsS c x y = false → chain c l = false
  | [], i, x, y, hx, hy, h => by simp at hx
  | [_], i, x, y, hx, hy, h => by simp at hy
  | a :: b :: r, 0, x, y, hx, hy, h => by
    simp at hx hy
    subst hx hy
    rw [chain, h]; rfl
  | a :: b :: r, i + 1, x, y, hx, hy, h => by
    rw [chain, chain_not (l := b :: r) (i := i) (by simpa using hx) (by simpa using hy) h, Bool.and_false]

set_option maxRecDepth 100000 in
set_option maxHeartbeats 1600000 in
theorem rcheckJoin_ok (v lv : Value) (c : Cyl) (l : List St) (w : World) (hv : CylV w w.heap.size v c) (hl : Arr w w.heap.size 2 lv l stcell) :
    Calls Try.prog 19 #[v, lv] w fun r w' => r = .returned (.int .i64 (checkJoin c l)) ∧ Below w.heap.size w w' := by
  obtain ⟨la, lc, rfl, hl1, hl2, -⟩ := id hl
  obtain ⟨pa, pc, rfl, hp⟩ := hv.open_
  have hC := CB.new hp
  have hB := (Below.refl w.heap.size w).alloc (Nat.le_refl _) (.cells #[.slice pa c.pcs.length pc, .int .i64 c.off, .int .i64 c.slo, .int .i64 c.shi] 26)
  go_enter Try.func19, Try.ntmps19
  go_upto_region 1 with (fail)
  have HWS : Hid ((w.alloc (.cells #[.slice pa c.pcs.length pc, .int .i64 c.off, .int .i64 c.slo, .int .i64 c.shi] 26)).heap.size = w.heap.size + 1) := by simp [Hid]
  generalize hW : w.alloc (.cells #[.slice pa c.pcs.length pc, .int .i64 c.off, .int .i64 c.slo, .int .i64 c.shi] 26) = W at *
  clear hW hp
  replace hl := hl.below hB
  obtain ⟨k0, k1, k2, k3⟩ := hC.c4
  go_wp2_with fail
  refine (rcheckCyl_ok _ c W hC.cyl).mono ?_
  rintro e w1 ⟨rfl, hb1⟩
  replace hC := hC.call hb1
  have hx1 := hb1.mono hB.size
  replace hl := hl.below hx1
  replace hB := hB.trans hx1
  clear hb1 hx1 k0 k1 k2 k3
  obtain ⟨k0, k1, k2, k3⟩ := hC.c4
  by_cases h0 : checkCyl c = 0
  · have d0 : (checkCyl c != 0) = false := by simp [h0]
    by_cases h1 : l.length = c.pcs.length
    · have d1 : ((l.length : Int) != (c.pcs.length : Int)) = false := by simp [h1]
      have HE : Hid (checkJoin c l = if l.all (isStep c) = false then 2 else if twice l = true then 11 else if chain c l = false then 18 else 0) := by
        rw [Hid, checkJoin, if_neg (by simp [h0]), if_neg (by simp [h1])]
      have hn8 : l.length ≤ 8 := by rw [h1]; exact (cyl_bounds h0).1.2
      go_wp2
      go_loopw [5] (fun i wr => ∃ n : Nat, n ≤ l.length ∧ i = .int .i64 n ∧ Below w1.heap.size w1 wr ∧ ∀ k x, k < n → l[k]? = some x → isStep c x = true) (fun i _ => l.length - (intOf i).toNat)
      case atStart => exact ⟨0, Nat.zero_le _, rfl, Below.refl _ _, fun k x hk => absurd hk (Nat.not_lt_zero _)⟩
      case round =>
        obtain ⟨n, hn, rfl, hb, hall⟩ := hrel
        have hCr := hC.call hb
        have hBr := hB.trans (hb.mono hB.size)
        have HALL := Lib.hid hall
        clear k0 k1 k2 k3 hall
        obtain ⟨k0, k1, k2, k3⟩ := hCr.c4
        by_cases hn1 : n < l.length
        · have d3 : decide (n < l.length) = true := by simpa using hn1
          have d3' : decide ((n : Int) < (l.length : Int)) = true := by simp; omega
          obtain ⟨xb, xo, x, hxa, hxb, hx1, hx2⟩ := (hl.below (hb.mono hB.size)).at_ hn1
          subst hxa
          obtain ⟨xp, xt⟩ := x
          have c0 := hx2 0 (by omega)
          have c1 := hx2 1 (by omega)
          simp only [Nat.add_zero, stcell] at c0 c1
          have f0 := Ext.of c0
          have f1 := Ext.of c1
          have f2 := Ext.of k0
          have f3 := Ext.of k1
          have f4 := Ext.of k2
          have f5 := Ext.of k3
          have HX := Lib.hid hx1
          have HA : Hid (∀ y : Ext wr, Calls Try.prog 44 #[_, .agg #[.int .i64 xp, .bool xt]] y.w fun r w' => r = .returned (.bool (isStep c ⟨xp, xt⟩)) ∧ ∃ z : Ext wr, w' = z.w) := fun y => ext_call y (isStep_ok _ c xp xt y.w (hCr.call y.h).cyl)
          clear c0 c1 hx1 hx2
          go_upto_region 8 with (fail)
          cases hs : isStep c ⟨xp, xt⟩
          · rw [hs] at HA
            have HZ : Hid (checkJoin c l = 2) := by
              rw [Hid, HE.out, if_pos]
              rw [List.all_eq_false]
              exact ⟨⟨xp, xt⟩, List.mem_of_getElem? HX.out, by rw [hs]; simp⟩
            refine wp_region_ext (by kernel_rfl) (by kernel_rfl) ?_
            repeat (go_big_quiet_step ((go_at_call 44; with_reducible exact HA.out _)))
            refine wpQuiet_nil ?_
            intro _ hw'
            obtain ⟨xr, hw''⟩ := hw'
            subst hw''
            have hbz := hBr.trans (xr.h.mono hBr.size)
            go_wp2
            go_ret
            exact ⟨by rw [HZ.out]; rfl, hbz⟩
          · rw [hs] at HA
            have HN : Hid (∀ k x, k < n + 1 → l[k]? = some x → isStep c x = true) := fun k x hk hx => by
              by_cases hkn : k = n
              · subst hkn
                rw [HX.out] at hx
                cases hx
                exact hs
              · exact HALL.out k x (by omega) hx
            refine wp_region_ext (by kernel_rfl) (by kernel_rfl) ?_
            repeat (go_big_quiet_step ((go_at_call 44; with_reducible exact HA.out _)))
            refine wpQuiet_nil ?_
            intro _ hw'
            obtain ⟨xr, hw''⟩ := hw'
            subst hw''
            have hbz := hb.trans (xr.h.mono hb.size)
            go_wp2
            go_roundw
            case rel => exact ⟨n + 1, by omega, by go_num, hbz, HN.out⟩
            case measure => (simp [intOf]; try omega)
        · obtain rfl : n = l.length := by omega
          have d3 : decide (l.length < l.length) = false := by simp
          replace HE : Hid (checkJoin c l = if twice l = true then 11 else if chain c l = false then 18 else 0) := by
            rw [Hid, HE.out, if_neg]
            rw [Bool.not_eq_false, List.all_eq_true]
            intro x hx
            obtain ⟨k, hk, rfl⟩ := List.getElem_of_mem hx
            exact HALL.out k _ hk (List.getElem?_eq_getElem hk)
          replace hl := hl.below (hb.mono hB.size)
          have HALL0 : Hid (∀ (k : Nat) (x : St), l[k]? = some x → isStep c x = true) := fun k x hx => HALL.out k x (by obtain ⟨h, -⟩ := List.getElem?_eq_some_iff.1 hx; exact h) hx
          clear hC hB hb HALL
          have HIS : Hid (∀ (k : Nat) (x : St), l[k]? = some x → ∃ m : Nat, x.p = (m : Int) ∧ m < c.pcs.length) := fun k x hx => isStep_num (HALL0.out k x hx)
          go_wp2
          go_loopw [6] (fun i wz => ∃ n : Nat, n ≤ l.length ∧ i = .int .i64 n ∧ Below wr.heap.size wr wz ∧ ∀ (i : Nat) (x : St), l[i]? = some x → i < n → ∀ (k : Nat) (y : St), k < i → l[k]? = some y → x.p ≠ y.p) (fun i _ => l.length - (intOf i).toNat)
          case atStart => exact ⟨0, Nat.zero_le _, rfl, Below.refl _ _, fun i x _ hi => absurd hi (Nat.not_lt_zero _)⟩
          case round =>
            obtain ⟨n, hn, rfl, hb, hall⟩ := hrel
            have hCz := hCr.call hb
            have hBz := hBr.trans (hb.mono hBr.size)
            have HALL := Lib.hid hall
            clear k0 k1 k2 k3 hall
            obtain ⟨k0, k1, k2, k3⟩ := hCz.c4
            by_cases hn1 : n < l.length
            · have d3 : decide (n < l.length) = true := by simpa using hn1
              have d3' : decide ((n : Int) < (l.length : Int)) = true := by simp; omega
              have hln := hl.below (hb.mono hBr.size)
              obtain ⟨xb, xo, x, hxa, hxb, hx1, hx2⟩ := hln.at_ hn1
              have c0 := hx2 0 (by omega)
              simp only [Nat.add_zero, stcell] at c0
              have HX := Lib.hid hx1
              clear hx2 hx1
              go_wp2
              go_loopw [7] (fun j wy => ∃ m : Nat, m ≤ n ∧ j = .int .i64 m ∧ Below wr.heap.size wr wy ∧ ∀ (k : Nat) (y : St), k < m → l[k]? = some y → x.p ≠ y.p) (fun j _ => n - (intOf j).toNat)
              case atStart => exact ⟨0, Nat.zero_le _, rfl, Below.refl _ _, fun k y hk => absurd hk (Nat.not_lt_zero _)⟩
              case round =>
                obtain ⟨m, hm, rfl, hbj, hin⟩ := hrel
                have hCy := hCz.call hbj
                have hBy := hBz.trans (hbj.mono hBz.size)
                have hby := hb.trans (hbj.mono hb.size)
                have HIN := Lib.hid hin
                clear k0 k1 k2 k3 hin
                by_cases hm1 : m < n
                · have d4 : decide (m < n) = true := by simpa using hm1
                  have d4' : decide ((m : Int) < (n : Int)) = true := by simp; omega
                  obtain ⟨yb, yo, y, hya, hyb, hy1, hy2⟩ := hln.at_ (show m < l.length by omega)
                  have e0 := (hbj.cell (p := ⟨yb, yo + m * 2, none⟩) (cell_lt (hy2 0 (by omega)))).trans (hy2 0 (by omega))
                  have c0' := (hbj.cell (p := ⟨xb, xo + n * 2, none⟩) (cell_lt c0)).trans c0
                  subst hxa
                  simp only [Option.some.injEq, Addr.mk.injEq, and_true] at hya
                  obtain ⟨rfl, rfl⟩ := hya
                  simp only [stcell] at e0
                  have HY := Lib.hid hy1
                  clear hy2 hy1
                  have f0 := Ext.of c0'
                  have f1 := Ext.of e0
                  have hml : (m : Int) < (l.length : Int) := by omega
                  clear c0 c0' e0
                  go_upto_region 16 with (fail)
                  by_cases hq : x.p = y.p
                  · have d5 : (x.p == y.p) = true := by simpa using hq
                    have HZ : Hid (checkJoin c l = 11) := by rw [Hid, HE.out, if_pos (twice_at hm1 HX.out HY.out hq)]
                    refine wp_region_ext (by kernel_rfl) (by kernel_rfl) ?_
                    repeat (go_big_quiet_step (fail))
                    refine wpQuiet_nil ?_
                    intro _ hw'
                    obtain ⟨xr, hw''⟩ := hw'
                    subst hw''
                    have hbz := hBy.trans (xr.h.mono hBy.size)
                    go_wp2
                    go_ret
                    exact ⟨by rw [HZ.out]; rfl, hbz⟩
                  · have d5 : (x.p == y.p) = false := by simpa using hq
                    have HN : Hid (∀ (k : Nat) (y : St), k < m + 1 → l[k]? = some y → x.p ≠ y.p) := fun k z hk hz => by
                      by_cases hkm : k = m
                      · subst hkm
                        rw [HY.out] at hz
                        cases hz
                        exact hq
                      · exact HIN.out k z (by omega) hz
                    refine wp_region_ext (by kernel_rfl) (by kernel_rfl) ?_
                    repeat (go_big_quiet_step (fail))
                    refine wpQuiet_nil ?_
                    intro _ hw'
                    obtain ⟨xr, hw''⟩ := hw'
                    subst hw''
                    have hbz := hbj.trans (xr.h.mono hbj.size)
                    go_wp2
                    go_roundw
                    case rel => exact ⟨m + 1, by omega, by go_num, hbz, HN.out⟩
                    case measure => (simp [intOf]; try omega)
                · obtain rfl : m = n := by omega
                  have d4 : decide (m < m) = false := by simp
                  have HN : Hid (∀ (i : Nat) (x : St), l[i]? = some x → i < m + 1 → ∀ (k : Nat) (y : St), k < i → l[k]? = some y → x.p ≠ y.p) := fun i z hz hi => by
                    by_cases him : i = m
                    · subst him
                      rw [HX.out] at hz
                      cases hz
                      exact HIN.out
                    · exact HALL.out i z hz (by omega)
                  clear hbj
                  go_wp2
                  go_roundw
                  case rel => exact ⟨m + 1, by omega, by go_num, hby, HN.out⟩
                  case measure => (simp [intOf]; try omega)
            · obtain rfl : n = l.length := by omega
              have d3 : decide (l.length < l.length) = false := by simp
              replace HE : Hid (checkJoin c l = if chain c l = false then 18 else 0) := by
                rw [Hid, HE.out, if_neg]
                rw [twice_not fun i x hx k y hk hy => HALL.out i x hx (by obtain ⟨h, -⟩ := List.getElem?_eq_some_iff.1 hx; exact h) k y hk hy]
                simp
              replace hl := hl.below (hb.mono hBr.size)
              clear hCr hBr hb HALL
              go_wp2
              go_loopw [8] (fun i wz => ∃ n : Nat, n ≤ l.length ∧ i = .int .i64 ((n + 1 : Nat) : Int) ∧ Below wr.heap.size wr wz ∧ ∀ (i : Nat) (x y : St), i < n → l[i]? = some x → l[i + 1]? = some y → fitsS c x y = true) (fun i _ => l.length - (intOf i).toNat)
              case atStart => exact ⟨0, Nat.zero_le _, rfl, Below.refl _ _, fun i x y hi => absurd hi (Nat.not_lt_zero _)⟩
              case round =>
                obtain ⟨n, hn, rfl, hb, hall⟩ := hrel
                have hCy := hCz.call hb
                have hBy := hBz.trans (hb.mono hBz.size)
                have HALL := Lib.hid hall
                clear k0 k1 k2 k3 hall
                obtain ⟨k0, k1, k2, k3⟩ := hCy.c4
                by_cases hn1 : n + 1 < l.length
                · have d3 : decide (n + 1 < l.length) = true := by simpa using hn1
                  have d3' : decide (((n + 1 : Nat) : Int) < (l.length : Int)) = true := by simp; omega
                  have d3'' : decide ((n : Int) + 1 < (l.length : Int)) = true := by simp; omega
                  have hln := hl.below (hb.mono hBz.size)
                  obtain ⟨xb, xo, x, hxa, hxb, hx1, hx2⟩ := hln.at_ (show n < l.length by omega)
                  obtain ⟨yb, yo, y, hya, hyb, hy1, hy2⟩ := hln.at_ hn1
                  subst hxa
                  simp only [Option.some.injEq, Addr.mk.injEq, and_true] at hya
                  obtain ⟨rfl, rfl⟩ := hya
                  obtain ⟨kx, hkx, hkx'⟩ := HIS.out n x hx1
                  obtain ⟨ky, hky, hky'⟩ := HIS.out (n + 1) y hy1
                  obtain ⟨xp, xt⟩ := x
                  obtain ⟨yp, yt⟩ := y
                  subst hkx
                  subst hky
                  have c0 := hx2 0 (by omega)
                  have c1 := hx2 1 (by omega)
                  have e0 := hy2 0 (by omega)
                  have e1 := hy2 1 (by omega)
                  simp only [Nat.add_zero, stcell] at c0 c1 e0 e1
                  have f0 := Ext.of c0
                  have f1 := Ext.of c1
                  have f2 := Ext.of k0
                  have f3 := Ext.of k1
                  have f4 := Ext.of k2
                  have f5 := Ext.of k3
                  have f6 := Ext.of e0
                  have f7 := Ext.of e1
                  have HX := Lib.hid hx1
                  have HY := Lib.hid hy1
                  have HA : Hid (∀ y : Ext wr, Calls Try.prog 45 #[_, .agg #[.int .i64 (kx : Int), .bool xt], .agg #[.int .i64 (ky : Int), .bool yt]] y.w fun r w' => r = .returned (.bool (fitsS c ⟨kx, xt⟩ ⟨ky, yt⟩)) ∧ ∃ z : Ext wr, w' = z.w) := fun y => ext_call y (fits_ok _ c kx ky xt yt y.w (hCy.call y.h).cyl h0 hkx' hky')
                  have w1n : IntKind.i64.wrap (((n + 1 : Nat) : Int) - 1) = n := by rw [IntKind.wrap_i64]; omega
                  have w1n' : IntKind.i64.wrap ((n : Int) + 1 - 1) = n := by rw [IntKind.wrap_i64]; omega
                  have hnl : (n : Int) < (l.length : Int) := by omega
                  have hnl' : (n : Int) + 1 < (l.length : Int) := by omega
                  clear c0 c1 e0 e1 hx1 hx2 hy1 hy2
                  go_upto_region 21 with (fail)
                  cases hs : fitsS c ⟨kx, xt⟩ ⟨ky, yt⟩
                  · rw [hs] at HA
                    have HZ : Hid (checkJoin c l = 18) := by
                      rw [Hid, HE.out, if_pos]
                      exact chain_not HX.out HY.out hs
                    refine wp_region_ext (by kernel_rfl) (by kernel_rfl) ?_
                    repeat (go_big_quiet_step ((go_at_call 45; with_reducible exact HA.out _)))
                    refine wpQuiet_nil ?_
                    intro _ hw'
                    obtain ⟨xr, hw''⟩ := hw'
                    subst hw''
                    have hbz := hBy.trans (xr.h.mono hBy.size)
                    go_wp2
                    go_ret
                    exact ⟨by rw [HZ.out]; rfl, hbz⟩
                  · rw [hs] at HA
                    have HN : Hid (∀ (i : Nat) (x y : St), i < n + 1 → l[i]? = some x → l[i + 1]? = some y → fitsS c x y = true) := fun k a b hk ha hb => by
                      by_cases hkn : k = n
                      · subst hkn
                        rw [HX.out] at ha
                        rw [HY.out] at hb
                        cases ha
                        cases hb
                        exact hs
                      · exact HALL.out k a b (by omega) ha hb
                    refine wp_region_ext (by kernel_rfl) (by kernel_rfl) ?_
                    repeat (go_big_quiet_step ((go_at_call 45; with_reducible exact HA.out _)))
                    refine wpQuiet_nil ?_
                    intro _ hw'
                    obtain ⟨xr, hw''⟩ := hw'
                    subst hw''
                    have hbz := hb.trans (xr.h.mono hb.size)
                    go_wp2
                    go_roundw
                    case rel => exact ⟨n + 1, by omega, by go_num, hbz, HN.out⟩
                    case measure => (simp [intOf]; try omega)
                · have d3 : decide (n + 1 < l.length) = false := by simpa using hn1
                  have d3' : decide (((n + 1 : Nat) : Int) < (l.length : Int)) = false := by simp; omega
                  have d3'' : decide ((n : Int) + 1 < (l.length : Int)) = false := by simp; omega
                  have HZ : Hid (checkJoin c l = 0) := by
                    rw [Hid, HE.out, if_neg]
                    rw [chain_all fun i x y hx hy => HALL.out i x y (by obtain ⟨h, -⟩ := List.getElem?_eq_some_iff.1 hy; omega) hx hy]
                    simp
                  go_wp2
                  go_ret
                  exact ⟨by rw [HZ.out]; rfl, hBy⟩
    · have d1 : ((l.length : Int) != (c.pcs.length : Int)) = true := by simp; omega
      have HE : Hid (checkJoin c l = 15) := by rw [Hid, checkJoin, if_neg (by simp [h0]), if_pos h1]
      go_wp2
      go_ret
      exact ⟨by rw [HE.out]; rfl, hB⟩
  · have d0 : (checkCyl c != 0) = true := by simp [h0]
    have HE : Hid (checkJoin c l = checkCyl c) := by rw [Hid, checkJoin, if_pos h0]
    go_wp2_with fail
    refine (rcheckCyl_ok _ c w1 hC.cyl).mono ?_
    rintro e w2 ⟨rfl, hb2⟩
    replace hB := hB.trans (hb2.mono hB.size)
    go_wp2
    go_ret
    exact ⟨by rw [HE.out]; rfl, hB⟩
end Go.Proofs.Ytjjjockfppomdaa
