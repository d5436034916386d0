/- Contract of the law NameParted. -/
import Derived.Test.YtpkccmohlcndgaaNaQM
namespace Go.Proofs.Ytpkccmohlcndgaa
open Go.RowKit Go.Shelf
set_option linter.unusedVariables false

theorem any_take {α : Type} (p : α → Bool) {l : List α} {k : Nat} {x : α} (h : l[k]? = some x) : (l.take (k + 1)).any p = ((l.take k).any p || p x) := by
  rw [take_snoc h, List.any_append]
  simp
theorem dropB_lo {a b k : Nat} (h : k < 64) : dropB a b k = bitB a k := by
  unfold dropB
  rw [if_pos (by omega), show k % 64 = k by omega]
theorem dropB_hi {a b k : Nat} (h : 64 ≤ k) (h2 : k < 128) : dropB a b k = bitB b (k - 64) := by
  unfold dropB
  rw [if_neg (by omega), show k % 64 = k - 64 by omega]
set_option maxRecDepth 100000 in
set_option maxHeartbeats 6400000 in
theorem nparted_ok (v : Value) (l : NL) (b da db : Nat) (w : World) (hbb : b < 18446744073709551616) (hda : da < 18446744073709551616) (hdb : db < 18446744073709551616) (hv : NLV w w.heap.size v l) :
    Calls Try.prog 8 #[v, .int .u64 (b : Int), .agg #[.int .u64 (da : Int), .int .u64 (db : Int)]] w fun r w' => r = .returned (.bool true) ∧ Below w.heap.size w w' := by
  obtain ⟨ka, kc, aa, ac, ba, bc, rfl, hna⟩ := hv
  have hE := NB.new hna
  have hB := (Below.refl w.heap.size w).alloc (Nat.le_refl _) (.cells #[.int .i64 l.n, .slice ka l.links.length kc, .slice aa l.left.length ac, .slice ba l.right.length bc] 25)
  go_enter Try.func8, Try.ntmps8
  go_upto_region 1 with (fail)
  generalize hW : w.alloc (.cells #[.int .i64 l.n, .slice ka l.links.length kc, .slice aa l.left.length ac, .slice ba l.right.length bc] 25) = W at *
  have hX := Blk.new W 56 #[.int .u64 (da : Int), .int .u64 (db : Int)]
  have hb1 := (Below.refl W.heap.size W).alloc (Nat.le_refl _) (.cells #[.int .u64 (da : Int), .int .u64 (db : Int)] 56)
  replace hB := hB.trans (hb1.mono hB.size)
  replace hE := hE.call hb1
  rw [show W.heap.size = w.heap.size + 1 by rw [← hW]; simp] at hX
  clear hW hb1
  generalize W.alloc (.cells #[.int .u64 (da : Int), .int .u64 (db : Int)] 56) = V at *
  have hfi := lfine_ok _ l V hE.v
  cases hg : fineN l
  · rw [hg] at hfi
    clear hg
    obtain ⟨k0, k1, k2, k3⟩ := hE.blk.c4
    go_wp2_with fail
    refine (hfi).mono ?_
    rintro e w1 hp
    clear k0 k1 k2 k3
    obtain ⟨rfl, hb⟩ := hp
    replace hE := hE.call hb
    replace hB := hB.trans ((hb).mono hB.size)
    clear hfi hb
    go_wp2_with fail
    refine (lworks_ok _).mono ?_
    rintro e wz ⟨rfl, hbz⟩
    have hBz := hB.trans (hbz.mono hB.size)
    go_wp2
    try rw [Exit.noGoto_ret]
    go_ret
    exact ⟨rfl, hBz⟩
  · rw [hg] at hfi
    have hc0 := fineN_iff.1 hg
    have hgd := check_good.1 hc0
    have HC0 := Lib.hid hc0
    clear hg hc0
    obtain ⟨k0, k1, k2, k3⟩ := hE.blk.c4
    go_wp2_with fail
    refine hfi.mono ?_
    rintro e w1 ⟨rfl, hb⟩
    replace hE := hE.call hb
    replace hB := hB.trans ((hb).mono hB.size)
    replace hX := hX.call hb
    clear k0 k1 k2 k3 hfi hb
    have hos := on_side hgd b
    obtain ⟨hs0, hs1, hs2⟩ := cut_names hgd hos
    have hop := cut_open hgd (onSide l b)
    obtain ⟨hce, hjo⟩ := cut_chain hgd hos
    have HSU := Lib.hid (sideU_names l b)
    have HNA := Lib.hid (fun gi (hg : gi ∈ groupsOf (pairsOf l.L (cutL l (onSide l b))) l.N) u v hu hv => group_apart hgd (drop := cutL l (onSide l b)) (by rw [← cut_drop]; exact hjo) (gi := gi) hg (u := u) (v := v) hu hv)
    have HCC := Lib.hid (fun (drop : List Int) hd h ho => chain_cut hgd hos (drop := drop) hd h ho)
    have HDO := Lib.hid (dropU_open hgd da db)
    have HGR := Lib.hid (grpL_go hop)
    rw [cut_drop] at HGR
    obtain ⟨cu, hcu⟩ : ∃ cu, cu = cutL l (onSide l b) := ⟨_, rfl⟩
    rw [← hcu] at hs2 hop hce hjo HNA HCC HGR
    obtain ⟨sn, hsn⟩ : ∃ sn, sn = namesOf l (onSide l b) := ⟨_, rfl⟩
    rw [← hsn] at hs0 hs1 hs2 HSU
    have hcun : ∀ x ∈ intL cu, 0 ≤ x := intL_nonneg cu
    have HS := Lib.hid (And.intro hs0 hs2)
    generalize cutC l.L (onSide l b) = cx at *
    have hcs := fun W' hv => lside_ok (nlV l ka kc aa ac ba bc) l b W' hgd hbb hv
    rw [HSU.out] at hcs
    clear hcu hsn hs0 hs2 hos
    obtain ⟨k0, k1, k2, k3⟩ := hE.blk.c4
    go_wp2_with fail
    refine (hcs w1 hE.v).mono ?_
    rintro e w2 hp
    clear k0 k1 k2 k3
    obtain ⟨sv, rfl, hS, hb⟩ := hp
    obtain ⟨sA, sc, rfl, -⟩ := id hS
    replace hE := hE.call hb
    replace hB := hB.trans ((hb).mono hB.size)
    replace hX := hX.call hb
    clear hb hcs
    have h1 := cut_ok _ _ l (intL sn) w2 hE.v hS
    rw [HS.out.1, HS.out.2, hs1] at h1
    obtain ⟨k0, k1, k2, k3⟩ := hE.blk.c4
    go_wp2_with fail
    refine (h1).mono ?_
    rintro e w3 hp
    clear k0 k1 k2 k3
    obtain ⟨cv, rfl, hC1, hb⟩ := hp
    obtain ⟨cA, cc, rfl, -⟩ := id hC1
    replace hE := hE.call hb
    replace hB := hB.trans ((hb).mono hB.size)
    replace hX := hX.call hb
    clear hb h1 hS hs1
    have h1 := chain_ok _ _ l (intL cu) w3 hE.v hC1
    rw [hce] at h1
    obtain ⟨k0, k1, k2, k3⟩ := hE.blk.c4
    go_wp2_with fail
    refine (h1).mono ?_
    rintro e w4 hp
    clear k0 k1 k2 k3
    obtain ⟨xv, xc, rfl, -, -, hb⟩ := hp
    replace hE := hE.call hb
    replace hB := hB.trans ((hb).mono hB.size)
    replace hX := hX.call hb
    replace hC1 := hC1.call hb
    clear hb h1 hce
    have h1 := groups_ok _ _ l (intL cu) w4 hE.v hC1
    rw [hop] at h1
    obtain ⟨k0, k1, k2, k3⟩ := hE.blk.c4
    go_wp2_with fail
    refine (h1).mono ?_
    rintro e w5 hp
    clear k0 k1 k2 k3
    obtain ⟨gv, rfl, hG, hb⟩ := hp
    obtain ⟨gA, gc, rfl, -, -⟩ := hG.form
    replace hE := hE.call hb
    replace hB := hB.trans ((hb).mono hB.size)
    replace hX := hX.call hb
    replace hC1 := hC1.call hb
    clear hb h1 hop
    have h1 := rjoined_ok _ _ l (intL cu) w5 hgd hcun hE.v hC1
    rw [hjo] at h1
    obtain ⟨k0, k1, k2, k3⟩ := hE.blk.c4
    go_wp2_with fail
    refine (h1).mono ?_
    rintro e w6 hp
    clear k0 k1 k2 k3
    obtain ⟨rfl, hb⟩ := hp
    replace hE := hE.call hb
    replace hB := hB.trans ((hb).mono hB.size)
    replace hX := hX.call hb
    replace hC1 := hC1.call hb
    replace hG := hG.call hb
    clear hb h1 hjo
    have hgl : (grpL l (intL cu)).length ≤ 40 := by
      rw [HGR.out, List.length_map]
      have := groupsTo_len (pairsOf l.L cu) l.N l.N
      have := hgd.forty
      have := hgd.nN
      show (groupsTo (pairsOf l.L cu) l.N l.N).length ≤ 40
      omega
    have HMEM : Hid (∀ gi ∈ grpL l (intL cu), ¬ (gi.any (fun x => l.left.contains x) = true ∧ gi.any (fun x => l.right.contains x) = true)) := by
      rintro gi hgi ⟨ha, hb⟩
      rw [HGR.out] at hgi
      obtain ⟨g0, hg0, rfl⟩ := List.mem_map.1 hgi
      obtain ⟨x, hx, hx2⟩ := List.any_eq_true.1 ha
      obtain ⟨y, hy, hy2⟩ := List.any_eq_true.1 hb
      obtain ⟨u, hu, rfl⟩ := List.mem_map.1 hx
      obtain ⟨u2, hu2, rfl⟩ := List.mem_map.1 hy
      rw [hgd.inA] at hx2
      rw [hgd.inB] at hy2
      exact HNA.out g0 hg0 u u2 hu hu2 hx2 hy2
    generalize grpL l (intL cu) = gs at *
    clear HNA HGR
    go_wp2
    go_loopw [15] (fun i wr => ∃ k : Nat, k ≤ gs.length ∧ i = .int .i64 k ∧ Below w6.heap.size w6 wr) (fun i _ => gs.length - (intOf i).toNat)
    case atStart => exact ⟨0, Nat.zero_le _, rfl, Below.refl _ _⟩
    case round =>
      obtain ⟨i, hi, rfl, hr⟩ := hrel
      have hEr := hE.call hr
      have hGr := hG.call hr
      by_cases hil : i < gs.length
      · have d1 : decide (i < gs.length) = true := decide_eq_true hil
        have d1' : decide ((i : Int) < (gs.length : Int)) = true := decide_eq_true (by omega)
        have hii : (i : Int) < (gs.length : Int) := by omega
        obtain ⟨gi, hgi⟩ : ∃ gi, gs[i]? = some gi := ⟨_, List.getElem?_eq_getElem hil⟩
        have hmem := HMEM.out gi (List.mem_of_getElem? hgi)
        have HMI := Lib.hid hmem
        clear hmem
        go_wp2
        go_loopw [16, 17, 18] (fun a b i wr => ∃ k : Nat, k ≤ gi.length ∧ i = .int .i64 k ∧ a = .bool ((gi.take k).any (fun x => l.left.contains x)) ∧ b = .bool ((gi.take k).any (fun x => l.right.contains x)) ∧ Below w6.heap.size w6 wr) (fun _ _ i _ => gi.length - (intOf i).toNat)
        case atStart => exact ⟨0, Nat.zero_le _, rfl, rfl, rfl, hr⟩
        case round =>
          clear hr hEr hGr
          obtain ⟨k, hk, rfl, rfl, rfl, hr⟩ := hrel
          have hEr := hE.call hr
          have hGr := hG.call hr
          obtain ⟨k0, k1, k2, k3⟩ := hEr.blk.c4
          obtain ⟨gb, go, eA, ec, rfl, hgb, c0, hE2⟩ := hGr.at_ hgi
          by_cases hkl : k < gi.length
          · have d2 : decide (k < gi.length) = true := decide_eq_true hkl
            have d2' : decide ((k : Int) < (gi.length : Int)) = true := decide_eq_true (by omega)
            have hki : (k : Int) < (gi.length : Int) := by omega
            obtain ⟨eb, eo, x, rfl, heb, hx, c1⟩ := numx_at hE2 hkl
            have hs1 := any_take (fun x => l.left.contains x) hx
            have hs2 := any_take (fun x => l.right.contains x) hx
            have f0 := Ext.of k2
            have f1 := Ext.of k3
            have f2 := Ext.of c0
            have f3 := Ext.of c1
            have HI1 : Hid (∀ y : Ext wr, Calls Try.prog 38 #[.slice aa l.left.length ac, .int .i64 x] y.w fun r w' => r = .returned (.bool (l.left.contains x)) ∧ ∃ z : Ext wr, w' = z.w) := fun y => ext_call y ((rin_ok _ l.left x y.w (hEr.call y.h).na.as_).mono fun e w' h => ⟨h.1, by rw [h.2]; exact Below.refl _ _⟩)
            have HI2 := Lib.hid (fun (W' : World) (hb : Below wr.heap.size wr W') => rin_ok _ l.right x W' (hEr.call hb).na.bs)
            have hebl : eb < wr.heap.size := heb
            have hgi2 : gi.length ≤ 9223372036854775807 := by have := hE2.len_; omega
            have HS1 := Lib.hid hs1
            have HS2 := Lib.hid hs2
            clear hs1 hs2 hx hEr hGr hE2
            generalize l.left.contains x = q1 at *
            generalize l.right.contains x = q2 at *
            generalize (gi.take k).any (fun x => l.left.contains x) = p1 at *
            generalize (gi.take k).any (fun x => l.right.contains x) = p2 at *
            go_upto_region 16 with (fail)
            have hnext : ∀ (Q1 Q2 : Bool), Q1 = (p1 || q1) → Q2 = (p2 || q2) → Hid (Q1 = (gi.take (k + 1)).any (fun x => l.left.contains x)) ∧ Hid (Q2 = (gi.take (k + 1)).any (fun x => l.right.contains x)) := fun Q1 Q2 h1 h2 => ⟨by rw [Hid, h1, HS1.out], by rw [Hid, h2, HS2.out]⟩
            have HN := Lib.hid hnext
            clear hnext HS1 HS2
            cases p1
            · refine wp_region_ext (by kernel_rfl) (by kernel_rfl) ?_
              repeat (go_big_quiet_step ((go_at_call 38; with_reducible exact HI1.out _)))
              refine wpQuiet_nil ?_
              intro _ hw'
              obtain ⟨xr, hw''⟩ := hw'
              subst hw''
              replace hr := hr.trans (xr.h.mono hr.size)
              have hin2 := fun y : Ext xr.w => ext_call y ((HI2.out y.w (xr.h.trans (y.h.mono xr.h.size))).mono fun e w' h => (⟨h.1, by rw [h.2]; exact Below.refl _ _⟩ : e = _ ∧ Below y.w.heap.size y.w w'))
              have g1 := Ext.of (f1 xr)
              have g2 := Ext.of (f2 xr)
              have g3 := Ext.of (f3 xr)
              obtain ⟨w7, hw7⟩ : ∃ w7 : World, w7 = xr.w := ⟨_, rfl⟩
              rw [← hw7] at hin2 g1 g2 g3 hr ⊢
              have HI3 := Lib.hid hin2
              clear hw7 xr f0 f1 f2 f3 HI1 HI2 k0 k1 k2 k3 c0 c1 hin2
              go_upto_region 17 with (fail)
              cases p2
              · refine wp_region_ext (by kernel_rfl) (by kernel_rfl) ?_
                repeat (go_big_quiet_step ((go_at_call 38; with_reducible exact HI3.out _)))
                refine wpQuiet_nil ?_
                intro _ hw'
                obtain ⟨xr, hw''⟩ := hw'
                subst hw''
                have hr2 := hr.trans (xr.h.mono hr.size)
                obtain ⟨hn1, hn2⟩ := HN.out _ _ (show q1 = _ by simp) (show q2 = _ by simp)
                go_wp2
                go_roundw
                case rel => exact ⟨k + 1, by omega, by go_num, by rw [hn1.out], by rw [hn2.out], hr2⟩
                case measure => (simp [intOf]; try omega)
              · refine wp_region_ext (by kernel_rfl) (by kernel_rfl) ?_
                repeat (go_big_quiet_step (fail))
                refine wpQuiet_nil ?_
                intro _ hw'
                obtain ⟨xr, hw''⟩ := hw'
                subst hw''
                have hr2 := hr.trans (xr.h.mono hr.size)
                obtain ⟨hn1, hn2⟩ := HN.out _ _ (show q1 = _ by simp) (show true = _ by simp)
                go_wp2
                go_roundw
                case rel => exact ⟨k + 1, by omega, by go_num, by rw [hn1.out], by rw [hn2.out], hr2⟩
                case measure => (simp [intOf]; try omega)
            · refine wp_region_ext (by kernel_rfl) (by kernel_rfl) ?_
              repeat (go_big_quiet_step (fail))
              refine wpQuiet_nil ?_
              intro _ hw'
              obtain ⟨xr, hw''⟩ := hw'
              subst hw''
              replace hr := hr.trans (xr.h.mono hr.size)
              have hin2 := fun y : Ext xr.w => ext_call y ((HI2.out y.w (xr.h.trans (y.h.mono xr.h.size))).mono fun e w' h => (⟨h.1, by rw [h.2]; exact Below.refl _ _⟩ : e = _ ∧ Below y.w.heap.size y.w w'))
              have g1 := Ext.of (f1 xr)
              have g2 := Ext.of (f2 xr)
              have g3 := Ext.of (f3 xr)
              obtain ⟨w7, hw7⟩ : ∃ w7 : World, w7 = xr.w := ⟨_, rfl⟩
              rw [← hw7] at hin2 g1 g2 g3 hr ⊢
              have HI3 := Lib.hid hin2
              clear hw7 xr f0 f1 f2 f3 HI1 HI2 k0 k1 k2 k3 c0 c1 hin2
              go_upto_region 17 with (fail)
              cases p2
              · refine wp_region_ext (by kernel_rfl) (by kernel_rfl) ?_
                repeat (go_big_quiet_step ((go_at_call 38; with_reducible exact HI3.out _)))
                refine wpQuiet_nil ?_
                intro _ hw'
                obtain ⟨xr, hw''⟩ := hw'
                subst hw''
                have hr2 := hr.trans (xr.h.mono hr.size)
                obtain ⟨hn1, hn2⟩ := HN.out _ _ (show true = _ by simp) (show q2 = _ by simp)
                go_wp2
                go_roundw
                case rel => exact ⟨k + 1, by omega, by go_num, by rw [hn1.out], by rw [hn2.out], hr2⟩
                case measure => (simp [intOf]; try omega)
              · refine wp_region_ext (by kernel_rfl) (by kernel_rfl) ?_
                repeat (go_big_quiet_step (fail))
                refine wpQuiet_nil ?_
                intro _ hw'
                obtain ⟨xr, hw''⟩ := hw'
                subst hw''
                have hr2 := hr.trans (xr.h.mono hr.size)
                obtain ⟨hn1, hn2⟩ := HN.out _ _ (show true = _ by simp) (show true = _ by simp)
                go_wp2
                go_roundw
                case rel => exact ⟨k + 1, by omega, by go_num, by rw [hn1.out], by rw [hn2.out], hr2⟩
                case measure => (simp [intOf]; try omega)
          · obtain rfl : k = gi.length := by omega
            have d2 : decide (gi.length < gi.length) = false := by simp
            rw [List.take_length]
            have hm := HMI.out
            generalize (gi.any fun x => l.left.contains x) = p1 at *
            generalize (gi.any fun x => l.right.contains x) = p2 at *
            cases p1
            · clear hm
              go_wp2
              go_roundw
              case rel => exact ⟨i + 1, by omega, by go_num, hr⟩
              case measure => (simp [intOf]; try omega)
            · cases p2
              · clear hm
                go_wp2
                go_roundw
                case rel => exact ⟨i + 1, by omega, by go_num, hr⟩
                case measure => (simp [intOf]; try omega)
              · exact absurd ⟨rfl, rfl⟩ hm
      · obtain rfl : i = gs.length := by omega
        have d1 : decide (gs.length < gs.length) = false := by simp
        have hsz := hr.size
        replace hX := hX.call hr
        replace hC1 := hC1.call hr
        replace hE := hEr
        replace hB := hB.trans (hr.mono hB.size)
        clear hG hGr hEr HMEM
        obtain ⟨w7, hw7⟩ : ∃ w7 : World, w7 = wr := ⟨_, rfl⟩
        rw [← hw7] at hX hC1 hE hB ⊢
        clear hw7 hr hsz d1 hi hil
        have hl120 := hgd.few
        have HZ : Hid (dropU da db 0 = []) := rfl
        go_wp2
        go_loopw [19, 20] (fun sv i wr => ∃ (k : Nat) (A : Option Addr) (cap : Nat), k ≤ l.links.length ∧ i = .int .i64 k ∧ sv = .slice A (dropU da db k).length cap ∧ wr.ownsRow w7.heap.size 3 1 (.slice A (dropU da db k).length cap) (dropU da db k).length ((intL (dropU da db k)).map (Value.int .i64)) ∧ Below w7.heap.size w7 wr) (fun _ i _ => l.links.length - (intOf i).toNat)
        case atStart => exact ⟨0, none, 0, Nat.zero_le _, rfl, by rw [HZ.out]; rfl, by rw [HZ.out]; simpa [intL] using World.ownsRow_nil _ _ _ _, Below.refl _ _⟩
        case round =>
          obtain ⟨k, A, cap, hk, rfl, rfl, hown, hbr⟩ := hrel
          have hXr := hX.call hbr
          have hln := dropU_len da db k
          obtain ⟨k0, k1, k2, k3⟩ := (hE.call hbr).blk.c4
          have x0 := hXr.cell 0
          have x1 := hXr.cell 1
          simp at x0 x1
          by_cases hlt : k < l.links.length
          · have d1 : decide (k < l.links.length) = true := decide_eq_true hlt
            have d1' : decide ((k : Int) < (l.links.length : Int)) = true := decide_eq_true (by omega)
            by_cases hk64 : k < 64
            · have q1 : (k : Int).tdiv 64 = 0 := by rw [Int.tdiv_eq_ediv_of_nonneg (by omega)]; omega
              have q2 : (k : Int).tmod 64 = (k : Int) := by rw [Int.tmod_eq_emod_of_nonneg (by omega)]; omega
              have hbt := bit_u64B da k hda
              rw [← dropB_lo (b := db) hk64] at hbt
              cases hbi : dropB da db k
              · rw [hbi] at hbt
                have hst := dropU_no (a := da) (b := db) (k := k) hbi
                rw [← hst] at hown ⊢
                clear hst hbi
                go_wp2
                go_roundw
                case rel => exact ⟨k + 1, _, _, by omega, by go_num, rfl, hown, hbr⟩
                case measure => (simp [intOf]; try omega)
              · rw [hbi] at hbt
                have HST := Lib.hid (dropU_yes (a := da) (b := db) (k := k) hbi)
                have hsz := hbr.size
                clear hbi
                generalize hn0 : (dropU da db k).length = m at *
                have HN0 := Lib.hid hn0
                clear hn0
                obtain ⟨-, hnc, hncm⟩ := own_cap hown
                go_wp2_with (at_builtin; refine wpList_app1 slT_int rfl (.tmp 126) (.tmp 128) rfl (A := A) (cc := cap) rfl ⟨cap, hown, .inl rfl⟩ rfl rfl one_1 hsz ?_ ?_ ?_)
                any_goals omega
                intro v4 w4 hown4 hb4 hkeep4
                have hown5 : w4.ownsRow w7.heap.size 3 1 v4 (dropU da db (k + 1)).length ((intL (dropU da db (k + 1))).map (Value.int .i64)) := by
                  rw [HST.out, intL_append, List.map_append, List.length_append, HN0.out]
                  exact hown4
                have hb5 := hbr.trans hb4
                obtain ⟨A4, c4, rfl⟩ := own_form hown5
                clear hown4 hb4 hkeep4 hown
                go_wp2
                go_roundw
                case rel => exact ⟨k + 1, _, _, by omega, by go_num, rfl, hown5, hb5⟩
                case measure => (simp [intOf]; try omega)
            · have q1 : (k : Int).tdiv 64 = 1 := by rw [Int.tdiv_eq_ediv_of_nonneg (by omega)]; omega
              have q2 : (k : Int).tmod 64 = ((k - 64 : Nat) : Int) := by rw [Int.tmod_eq_emod_of_nonneg (by omega)]; omega
              have hbt := bit_u64B db (k - 64) hdb
              rw [← dropB_hi (a := da) (by omega) (by omega)] at hbt
              have hk6b : k - 64 < 64 := by omega
              generalize hk6 : k - 64 = k6 at *
              clear hk6
              cases hbi : dropB da db k
              · rw [hbi] at hbt
                have hst := dropU_no (a := da) (b := db) (k := k) hbi
                rw [← hst] at hown ⊢
                clear hst hbi
                go_wp2
                go_roundw
                case rel => exact ⟨k + 1, _, _, by omega, by go_num, rfl, hown, hbr⟩
                case measure => (simp [intOf]; try omega)
              · rw [hbi] at hbt
                have HST := Lib.hid (dropU_yes (a := da) (b := db) (k := k) hbi)
                have hsz := hbr.size
                clear hbi
                generalize hn0 : (dropU da db k).length = m at *
                have HN0 := Lib.hid hn0
                clear hn0
                obtain ⟨-, hnc, hncm⟩ := own_cap hown
                go_wp2_with (at_builtin; refine wpList_app1 slT_int rfl (.tmp 126) (.tmp 128) rfl (A := A) (cc := cap) rfl ⟨cap, hown, .inl rfl⟩ rfl rfl one_1 hsz ?_ ?_ ?_)
                any_goals omega
                intro v4 w4 hown4 hb4 hkeep4
                have hown5 : w4.ownsRow w7.heap.size 3 1 v4 (dropU da db (k + 1)).length ((intL (dropU da db (k + 1))).map (Value.int .i64)) := by
                  rw [HST.out, intL_append, List.map_append, List.length_append, HN0.out]
                  exact hown4
                have hb5 := hbr.trans hb4
                obtain ⟨A4, c4, rfl⟩ := own_form hown5
                clear hown4 hb4 hkeep4 hown
                go_wp2
                go_roundw
                case rel => exact ⟨k + 1, _, _, by omega, by go_num, rfl, hown5, hb5⟩
                case measure => (simp [intOf]; try omega)
          · obtain rfl : k = l.links.length := by omega
            have d1 : decide (l.links.length < l.links.length) = false := by simp
            have hdl : (intL (dropU da db l.links.length)).length = (dropU da db l.links.length).length := by simp [intL]
            have harr : Arr wr wr.heap.size 1 (.slice A (dropU da db l.links.length).length cap) (intL (dropU da db l.links.length)) icell := Arr.of_own (base := w7.heap.size) (e := 3) (by
              rw [flat_int, hdl]
              exact hown)
            rw [← hdl] at harr ⊢
            have hdn : ∀ x ∈ intL (dropU da db l.links.length), 0 ≤ x := intL_nonneg _
            have HDN := Lib.hid hdn
            have hop := HDO.out
            obtain ⟨dr, hdr⟩ : ∃ dr, dr = intL (dropU da db l.links.length) := ⟨_, rfl⟩
            rw [← hdr] at harr hop HDN ⊢
            clear hown hXr hln hdl hdn hdr k0 k1 k2 k3 x0 x1
            replace hE := hE.call hbr
            replace hB := hB.trans (hbr.mono hB.size)
            replace hC1 := hC1.call hbr
            obtain ⟨w8, hw8⟩ : ∃ w8 : World, w8 = wr := ⟨_, rfl⟩
            rw [← hw8] at hE hB hC1 harr ⊢
            clear hw8 hbr
            have h1 := chain_ok _ _ l dr w8 hE.v harr
            have hce := chainE_go hop
            by_cases hj : joinedB l (natL dr) = true
            · rw [if_pos hj] at hce
              rw [hce] at h1
              have HNI := Lib.hid (HCC.out dr HDN.out hce hop)
              obtain ⟨k0, k1, k2, k3⟩ := hE.blk.c4
              go_wp2_with fail
              refine (h1).mono ?_
              rintro e w9 hp
              clear k0 k1 k2 k3
              obtain ⟨xv2, xc2, rfl, hxo, hY, hb⟩ := hp
              replace hE := hE.call hb
              replace hB := hB.trans ((hb).mono hB.size)
              replace hC1 := hC1.call hb
              replace harr := harr.call hb
              have hxk := hxo.2 hce
              obtain ⟨yA, yc, rfl, -⟩ := id hY
              clear hb h1 hxo hj hce
              have h1 := rcheckChain_ok _ _ _ l dr xc2 w9 hE.v harr hY
              rw [hxk] at h1
              obtain ⟨k0, k1, k2, k3⟩ := hE.blk.c4
              go_wp2_with fail
              refine (h1).mono ?_
              rintro e w10 hp
              clear k0 k1 k2 k3
              obtain ⟨rfl, hb⟩ := hp
              replace hE := hE.call hb
              replace hB := hB.trans ((hb).mono hB.size)
              replace hC1 := hC1.call hb
              replace harr := harr.call hb
              clear hb h1 hxk hY
              have hcl : (intL cu).length ≤ 9223372036854775807 := by have := hC1.len_; omega
              have HNX : Hid (¬ ((intL cu).drop 0).all (fun x => dr.contains x) = true) := fun h => HNI.out (List.all_eq_true.1 h)
              go_wp2
              go_loopw [23] (fun i wr => ∃ k : Nat, k ≤ (intL cu).length ∧ i = .int .i64 k ∧ Hid (¬ ((intL cu).drop k).all (fun x => dr.contains x) = true) ∧ wr = w10) (fun i _ => (intL cu).length - (intOf i).toNat)
              case atStart => exact ⟨0, Nat.zero_le _, rfl, HNX.out, rfl⟩
              case round =>
                obtain ⟨k, hk, rfl, hq, hw⟩ := hrel
                subst hw
                by_cases hlt : k < (intL cu).length
                · have d3 : decide (k < (intL cu).length) = true := decide_eq_true hlt
                  have d3' : decide ((k : Int) < ((intL cu).length : Int)) = true := decide_eq_true (by omega)
                  have hki : (k : Int) < ((intL cu).length : Int) := by omega
                  obtain ⟨b2, off, x, rfl, hbl, hx, c0⟩ := numx_at hC1 hlt
                  have hst := all_drop (fun x => dr.contains x) hx
                  have hin := rin_ok _ dr x wr harr
                  cases hc : dr.contains x
                  · rw [hc] at hin
                    clear hst hx hc hq
                    go_wp2_with fail
                    refine hin.mono ?_
                    rintro e w11 ⟨rfl, rfl⟩
                    clear hin
                    go_wp2_with fail
                    refine (lworks_ok _).mono ?_
                    rintro e wz ⟨rfl, hbz⟩
                    have hBz := hB.trans (hbz.mono hB.size)
                    go_wp2
                    try rw [Exit.noGoto_ret]
                    go_ret
                    exact ⟨rfl, hBz⟩
                  · rw [hc] at hin hst
                    have HN : Hid (¬ ((intL cu).drop (k + 1)).all (fun x => dr.contains x) = true) := fun h => hq.out (by rw [hst, h]; rfl)
                    clear hst hx hc hq
                    go_wp2_with fail
                    refine hin.mono ?_
                    rintro e w11 ⟨rfl, rfl⟩
                    clear hin
                    go_wp2
                    go_roundw
                    case rel => exact ⟨k + 1, by omega, by go_num, HN, by first | trivial | rfl⟩
                    case measure => (simp [intOf]; try omega)
                · obtain rfl : k = (intL cu).length := by omega
                  exact absurd (by rw [List.drop_length]; rfl) hq.out
            · rw [if_neg hj] at hce
              rw [hce] at h1
              have hjf : joinedB l (natL dr) = false := by simpa using hj
              obtain ⟨k0, k1, k2, k3⟩ := hE.blk.c4
              go_wp2_with fail
              refine (h1).mono ?_
              rintro e w9 hp
              clear k0 k1 k2 k3
              obtain ⟨xv2, xc2, rfl, -, -, hb⟩ := hp
              replace hE := hE.call hb
              replace hB := hB.trans ((hb).mono hB.size)
              replace harr := harr.call hb
              clear hb h1 hj hce
              have h1 := rjoined_ok _ _ l dr w9 hgd HDN.out hE.v harr
              rw [hjf] at h1
              obtain ⟨k0, k1, k2, k3⟩ := hE.blk.c4
              go_wp2_with fail
              refine (h1).mono ?_
              rintro e w10 hp
              clear k0 k1 k2 k3
              obtain ⟨rfl, hb⟩ := hp
              replace hE := hE.call hb
              replace hB := hB.trans ((hb).mono hB.size)
              clear hb h1 hjf
              go_wp2_with fail
              refine (lworks_ok _).mono ?_
              rintro e wz ⟨rfl, hbz⟩
              have hBz := hB.trans (hbz.mono hB.size)
              go_wp2
              try rw [Exit.noGoto_ret]
              go_ret
              exact ⟨rfl, hBz⟩
end Go.Proofs.Ytpkccmohlcndgaa
