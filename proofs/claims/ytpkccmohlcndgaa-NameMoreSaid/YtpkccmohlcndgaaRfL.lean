/- Contract of the reference: CheckFlow. -/
import Derived.Test.YtpkccmohlcndgaaRfK
import Derived.Test.YtpkccmohlcndgaaPcM
namespace Go.Proofs.Ytpkccmohlcndgaa
open Go.RowKit Go.Shelf
set_option linter.unusedVariables false

/-- what flows out of a name by the first links -/
def flowTo (L : List Lk) (f : Nat → Int) (k u : Nat) : Int := -(keptTo L f k u)
theorem flowTo_zero (L : List Lk) (f : Nat → Int) : flowTo L f 0 = fun _ => 0 := by funext u; simp [flowTo, keptTo_zero]
theorem flowTo_step {L : List Lk} {f : Nat → Int} {k : Nat} (hne : (lkAt L k).a ≠ (lkAt L k).b) (u : Nat) :
    flowTo L f (k + 1) u = if u = (lkAt L k).b then flowTo L f k (lkAt L k).b - f k else if u = (lkAt L k).a then flowTo L f k (lkAt L k).a + f k else flowTo L f k u := by
  unfold flowTo
  rw [keptTo_step hne]
  split
  · omega
  · split <;> omega
theorem flowTo_all {l : NL} {f : Nat → Int} : flowTo l.L f l.links.length = fun u => -(keptF l.L f u) := by
  funext u
  unfold flowTo
  rw [← keptTo_all, NL.len]
theorem flowTo_bound {L : List Lk} {f : Nat → Int} {u : Nat} {k : Nat} (h : ∀ i, i < k → -1000000 ≤ f i ∧ f i ≤ 1000000) : -(2000000 * (k : Int)) ≤ flowTo L f k u ∧ flowTo L f k u ≤ 2000000 * (k : Int) := by
  have := keptTo_bound (L := L) (u := u) h
  unfold flowTo
  omega
/-- what flows out of the first names, those of Left -/
def greatTo (l : NL) (f : Nat → Int) (n : Nat) : Int := -isum (fun u => if l.A u = true then keptF l.L f u else 0) (List.range n)
theorem greatTo_yes {l : NL} {f : Nat → Int} {n : Nat} (h : l.A n = true) : greatTo l f (n + 1) = greatTo l f n + -(keptF l.L f n) := by
  unfold greatTo
  rw [List.range_succ, isum_append]
  simp [isum, h]
  omega
theorem greatTo_no {l : NL} {f : Nat → Int} {n : Nat} (h : l.A n = false) : greatTo l f (n + 1) = greatTo l f n := by
  unfold greatTo
  rw [List.range_succ, isum_append]
  simp [isum, h]
theorem greatTo_bound {l : NL} {f : Nat → Int} (hb : ∀ u, -240000000 ≤ keptF l.L f u ∧ keptF l.L f u ≤ 240000000) : ∀ n : Nat, -(240000000 * (n : Int)) ≤ greatTo l f n ∧ greatTo l f n ≤ 240000000 * (n : Int)
  | 0 => by simp [greatTo, isum]
  | n + 1 => by
    have ih := greatTo_bound hb n
    have := hb n
    cases h : l.A n
    · rw [greatTo_no h]; omega
    · rw [greatTo_yes h]; omega
theorem Good.inA {l : NL} (g : Good l) (u : Nat) : l.left.contains (u : Int) = l.A u := contains_nat (fun x hx => by have := (rises_lo g.ra x hx).1; omega) u
theorem Good.inB {l : NL} (g : Good l) (u : Nat) : l.right.contains (u : Int) = l.B u := contains_nat (fun x hx => by have := (rises_lo g.rb x hx).1; omega) u
theorem noKeep_eq (l : NL) (f : Nat → Int) (u : Nat) : noKeepB l f u = (l.A u || l.B u || decide (keptF l.L f u = 0)) := rfl

set_option maxRecDepth 100000 in
set_option maxHeartbeats 3200000 in
theorem rcheckFlow_ok (v fv : Value) (l : NL) (fl : List Int) (w : World) (hv : NLV w w.heap.size v l) (hf : Arr w w.heap.size 1 fv fl icell) :
    Calls Try.prog 27 #[v, fv] w fun r w' => r = .returned (.tuple #[.int .i64 (chkF l fl).1, .int .i64 (chkF l fl).2]) ∧ Below w.heap.size w w' := by
  obtain ⟨ka, kc, aa, ac, ba, bc, rfl, hna⟩ := hv
  obtain ⟨fa, fc, rfl⟩ : ∃ a c, fv = .slice a fl.length c := by
    obtain ⟨a, c, h, -⟩ := hf
    exact ⟨a, c, h⟩
  have hC := NB.new hna
  have hB := (Below.refl w.heap.size w).alloc (Nat.le_refl _) (.cells #[.int .i64 l.n, .slice ka l.links.length kc, .slice aa l.left.length ac, .slice ba l.right.length bc] 25)
  go_enter Try.func27, Try.ntmps27
  go_upto_region 1 with (fail)
  generalize hW : w.alloc (.cells #[.int .i64 l.n, .slice ka l.links.length kc, .slice aa l.left.length ac, .slice ba l.right.length bc] 25) = W at *
  clear hW
  replace hf := (hf.below hB).more hB.size
  obtain ⟨k0, k1, k2, k3⟩ := hC.blk.c4
  have ho := rcheckList_ok _ l W hC.v
  go_wp2_with fail
  refine ho.mono ?_
  rintro e w1 ⟨rfl, hb⟩
  replace hB := hB.trans (hb.mono hB.size)
  replace hC := hC.call hb
  replace hf := hf.call hb
  clear ho k0 k1 k2 k3 hb
  obtain ⟨k0, k1, k2, k3⟩ := hC.blk.c4
  by_cases h0 : checkL l = 0
  · have d0 : (checkL l != 0) = false := by simpa using h0
    have hg := check_good.1 h0
    have H0 := Lib.hid h0
    clear h0
    have h120 := hg.few
    have hnN := hg.nN
    have hN40 : l.N ≤ 40 := by have := hg.forty; omega
    by_cases hlen : fl.length = l.links.length
    · have d1 : ((fl.length : Int) != (l.links.length : Int)) = false := by simp [hlen]
      rw [hlen]
      rw [hlen] at hf d1
      have HLN := Lib.hid hlen
      rw [← hnN] at k0
      have hblk := hC.blk
      rw [← hnN] at hblk
      clear hlen hnN
      have hmk := run_mk slT_i64 l.N (by omega) (by omega)
      go_upto_region 6 with (fail)
      have hb1 := (Below.refl w1.heap.size w1).alloc (Nat.le_refl _) (.cells (madeCells #[.int .i64 0] l.N) 2)
      have hF1 : FlowB (w1.alloc (.cells (madeCells #[.int .i64 0] l.N) 2)) w1.heap.size l.N (flowTo l.L (flF fl) 0) := by
        have hF0 := Blk.new w1 2 (madeCells #[.int .i64 0] l.N)
        rw [flowTo_zero]
        show Blk _ _ _ (rowA l.N fun _ => .int .i64 0)
        rw [← made_one]
        exact hF0
      clear hmk k0 k1 k2 k3
      generalize w1.alloc (.cells (madeCells #[.int .i64 0] l.N) 2) = w2 at *
      have hfw : w.heap.size < w1.heap.size := hblk.lt
      go_wp2
      go_loopw [7] (fun i wr => ∃ k : Nat, k ≤ l.links.length ∧ i = .int .i64 k ∧ Hid (∀ j, j < k → fitB l (flF fl) j = true) ∧ Below w1.heap.size w1 wr ∧ FlowB wr w1.heap.size l.N (flowTo l.L (flF fl) k)) (fun i _ => l.links.length - (intOf i).toNat)
      case atStart => exact ⟨0, Nat.zero_le _, rfl, fun j hj => absurd hj (Nat.not_lt_zero _), hb1, hF1⟩
      case round =>
        clear hF1 hb1
        obtain ⟨k, hk, rfl, hfit, hr, hF⟩ := hrel
        obtain ⟨k0, k1, k2, k3⟩ := (hblk.call hr).c4
        by_cases hlt : k < l.links.length
        · have d2 : decide (k < l.links.length) = true := decide_eq_true hlt
          have d2' : decide ((k : Int) < (l.links.length : Int)) = true := decide_eq_true (by omega)
          have hki : (k : Int) < (l.links.length : Int) := by omega
          obtain ⟨a, b, t, h1, hlk, han, hbn, hab, ht1, ht2⟩ := hg.lk_at hlt
          obtain ⟨kb, ko, x0, rfl, -, kx, c0, c1, c2⟩ := link_at (hC.call hr).na.ks hlt
          rw [h1] at kx
          injection kx with kx
          subst kx
          obtain ⟨fb, fo, x, rfl, -, hx, e0⟩ := numx_at (hf.call hr) (show k < fl.length by rw [HLN.out]; exact hlt)
          have hFx := Lib.hid (show fitB l (flF fl) k = (decide (-t ≤ x) && decide (x ≤ t)) by unfold fitB; rw [hlk, flF_at hx])
          have HS := flowTo_step (L := l.L) (f := flF fl) (k := k) (by rw [hlk]; exact hab)
          rw [hlk] at HS
          simp only [flF_at hx] at HS
          have HBD := Lib.hid (fun u (hz : ∀ j, j < k → fitB l (flF fl) j = true) => flowTo_bound (L := l.L) (f := flF fl) (u := u) (k := k) fun i hi => by
            have h3 := hz i hi
            obtain ⟨a3, b3, t3, -, hl3, -, -, -, ht3, ht4⟩ := hg.lk_at (show i < l.links.length by omega)
            unfold fitB at h3
            rw [hl3] at h3
            simp only [Bool.and_eq_true, decide_eq_true_eq] at h3
            omega)
          have hlt1 := FlowB.lt hF
          go_upto_region 10 with (fail)
          have hX := Blk.new wr 60 #[.int .i64 (a : Int), .int .i64 (b : Int), .int .i64 t]
          have hb1 := (Below.refl wr.heap.size wr).alloc (Nat.le_refl _) (.cells #[.int .i64 (a : Int), .int .i64 (b : Int), .int .i64 t] 60)
          have hr1 := hr.trans (hb1.mono hr.size)
          have hF1 : FlowB _ w1.heap.size l.N (flowTo l.L (flF fl) k) := Blk.call hF hb1
          clear c0 c1 c2 e0 hr hF hb1 k0 k1 k2 k3 h1 hlk
          generalize wr.alloc (.cells #[.int .i64 (a : Int), .int .i64 (b : Int), .int .i64 t] 60) = V at *
          obtain ⟨fb2, fo2, x3, hq3, -, hx3, e1⟩ := numx_at (hf.call hr1) (show k < fl.length by rw [HLN.out]; exact hlt)
          obtain ⟨rfl, rfl⟩ : fb = fb2 ∧ fo = fo2 := by simpa using hq3
          obtain rfl : x3 = x := by rw [hx] at hx3; injection hx3 with h; exact h.symm
          have HXK := Lib.hid hx
          clear hq3 hx hx3
          have y2 := hX.cell 2
          simp at y2
          have wn : IntKind.i64.wrap (-t) = -t := wrap_id _ (by omega) (by omega)
          have f0 := Ext.of y2
          have f1 := Ext.of e1
          have HFI := hfit
          clear hfit
          by_cases q2 : t < x3
          · have d4 : decide (t < x3) = true := decide_eq_true q2
            have HX := Lib.hid (chkF_fit H0.out HLN.out (show fitsB l (flF fl) = false by
              have hz : fitB l (flF fl) k = false := by rw [hFx.out, decide_eq_false (show ¬ x3 ≤ t by omega), Bool.and_false]
              unfold fitsB
              rw [List.all_eq_false]
              exact ⟨k, List.mem_range.2 hlt, by rw [hz]; simp⟩))
            clear q2 hFx HFI HS HBD hF1
            refine wp_region_ext (by kernel_rfl) (by kernel_rfl) ?_
            repeat (go_big_quiet_step (fail))
            refine wpQuiet_nil ?_
            intro _ hw'
            obtain ⟨xr, hw''⟩ := hw'
            subst hw''
            have hr2 := hr1.trans (xr.h.mono hr1.size)
            go_wp2
            go_ret2
            exact ⟨by rw [HX.out]; rfl, hB.trans (hr2.mono hB.size)⟩
          · have d4 : decide (t < x3) = false := decide_eq_false q2
            by_cases q1 : x3 < -t
            · have d3 : decide (x3 < -t) = true := decide_eq_true q1
              have HX := Lib.hid (chkF_fit H0.out HLN.out (show fitsB l (flF fl) = false by
                have hz : fitB l (flF fl) k = false := by rw [hFx.out, decide_eq_false (show ¬ -t ≤ x3 by omega)]; rfl
                unfold fitsB
                rw [List.all_eq_false]
                exact ⟨k, List.mem_range.2 hlt, by rw [hz]; simp⟩))
              clear q1 q2 hFx HFI HS HBD hF1
              refine wp_region_ext (by kernel_rfl) (by kernel_rfl) ?_
              repeat (go_big_quiet_step (fail))
              refine wpQuiet_nil ?_
              intro _ hw'
              obtain ⟨xr, hw''⟩ := hw'
              subst hw''
              have hr2 := hr1.trans (xr.h.mono hr1.size)
              go_wp2
              go_ret2
              exact ⟨by rw [HX.out]; rfl, hB.trans (hr2.mono hB.size)⟩
            · have d3 : decide (x3 < -t) = false := decide_eq_false q1
              have HF2 : Hid (∀ j, j < k + 1 → fitB l (flF fl) j = true) := fun j hj => by
                rcases Nat.lt_or_ge j k with h | h
                · exact HFI.out j h
                · obtain rfl : j = k := by omega
                  rw [hFx.out, decide_eq_true (show -t ≤ x3 by omega), decide_eq_true (show x3 ≤ t by omega)]
                  rfl
              have hxb : -1000000 ≤ x3 ∧ x3 ≤ 1000000 := by omega
              have hba := HBD.out a HFI.out
              have hbb := HBD.out b HFI.out
              have HS2 := Lib.hid HS
              clear q1 q2 hFx HFI HS HBD
              refine wp_region_ext (by kernel_rfl) (by kernel_rfl) ?_
              repeat (go_big_quiet_step (fail))
              refine wpQuiet_nil ?_
              intro _ hw'
              obtain ⟨xr, hw''⟩ := hw'
              subst hw''
              have hr2 := hr1.trans (xr.h.mono hr1.size)
              have hF2 : FlowB xr.w w1.heap.size l.N (flowTo l.L (flF fl) k) := Blk.call hF1 xr.h
              have hX2 := hX.call xr.h
              obtain ⟨Z, hZ⟩ : ∃ Z : World, Z = xr.w := ⟨_, rfl⟩
              rw [← hZ] at hr2 hF2 hX2 ⊢
              clear hZ xr f0 f1 y2 e1 hr1 hF1 hX
              obtain ⟨K, hK⟩ : ∃ K, K = flowTo l.L (flF fl) k := ⟨_, rfl⟩
              obtain ⟨K', hK'⟩ : ∃ K', K' = flowTo l.L (flF fl) (k + 1) := ⟨_, rfl⟩
              rw [← hK] at HS2 hba hbb hF2
              rw [← hK'] at HS2
              have HK := Lib.hid hK'
              clear hK hK'
              have hai : (a : Int) < (l.N : Int) := by omega
              have hbi : (b : Int) < (l.N : Int) := by omega
              have wa : IntKind.i64.wrap (K a + x3) = K a + x3 := wrap_id _ (by omega) (by omega)
              have wb : IntKind.i64.wrap (K b - x3) = K b - x3 := wrap_id _ (by omega) (by omega)
              obtain ⟨fb2, fo2, x4, hq3, -, hx3, e1⟩ := numx_at (hf.call hr2) (show k < fl.length by rw [HLN.out]; exact hlt)
              obtain ⟨rfl, rfl⟩ : fb = fb2 ∧ fo = fo2 := by simpa using hq3
              rw [HXK.out] at hx3
              injection hx3 with hx3
              subst hx3
              clear hq3
              have y0 := hX2.cell 0
              simp at y0
              have f0 := Ext.of y0
              have f1 := Ext.of (FlowB.at_ hF2 han)
              have f3 := Ext.of e1
              go_upto_region 12 with (fail)
              refine wp_region_tail (C := fun w' => ∃ x : Ext Z, w' = x.w) 11 (by kernel_rfl) (by kernel_rfl) ⟨⟨(Z).drew, ⟨rfl, rfl, rfl, Nat.le_refl _, fun _ _ => rfl⟩⟩, rfl⟩ ?_
              simp only [List.take_succ_cons, List.take_zero, List.drop_succ_cons, List.drop_zero]
              repeat (go_big_quiet_step (fail))
              refine wpQuiet_nil ?_
              intro _ hw'
              obtain ⟨xr, hw''⟩ := hw'
              subst hw''
              have z0 := f1 xr
              have z1 := (xr.h.frozen (p := ⟨w1.heap.size, a, none⟩) (FlowB.lt hF2)).trans (FlowB.fz hF2 a)
              have hX3 := hX2.call xr.h
              have hr3 := hr2.trans (xr.h.mono hr2.size)
              have hF3 : FlowB xr.w w1.heap.size l.N K := Blk.call hF2 xr.h
              clear f0 f1 f3 y0 hX2 hF2 e1
              obtain ⟨Y, hY⟩ : ∃ Y : World, Y = xr.w := ⟨_, rfl⟩
              rw [← hY] at z0 z1 hX3 hr3 hF3 ⊢
              clear hY xr
              go_upto_region 13 with (fail)
              have hF4 := FlowB.put hF3 (i := a) (x := K a + x3) (g := fun u => if u = a then K a + x3 else K u) fun j _ => rfl
              have hX4 := hX3.far (p := ⟨w1.heap.size, a, none⟩) (by show wr.heap.size ≠ w1.heap.size; omega) (.int .i64 (K a + x3))
              have hr4 := hr3.setCell (p := ⟨w1.heap.size, a, none⟩) (Nat.le_refl _) (.int .i64 (K a + x3))
              clear z0 z1 hX3 hr3 hF3
              generalize Y.setCell ⟨w1.heap.size, a, none⟩ (.int .i64 (K a + x3)) = V2 at *
              have y1 := hX4.cell 1
              simp at y1
              have g1 := FlowB.at_ hF4 hbn
              rw [show (if b = a then K a + x3 else K b) = K b from if_neg fun e => hab e.symm] at g1
              obtain ⟨fb2, fo2, x4, hq3, -, hx3, e1⟩ := numx_at (hf.call hr4) (show k < fl.length by rw [HLN.out]; exact hlt)
              obtain ⟨rfl, rfl⟩ : fb = fb2 ∧ fo = fo2 := by simpa using hq3
              rw [HXK.out] at hx3
              injection hx3 with hx3
              subst hx3
              clear hq3
              have f0 := Ext.of y1
              have f1 := Ext.of g1
              have f3 := Ext.of e1
              refine wp_region_tail (C := fun w' => ∃ x : Ext V2, w' = x.w) 11 (by kernel_rfl) (by kernel_rfl) ⟨⟨(V2).drew, ⟨rfl, rfl, rfl, Nat.le_refl _, fun _ _ => rfl⟩⟩, rfl⟩ ?_
              simp only [List.take_succ_cons, List.take_zero, List.drop_succ_cons, List.drop_zero]
              repeat (go_big_quiet_step (fail))
              refine wpQuiet_nil ?_
              intro _ hw'
              obtain ⟨xr, hw''⟩ := hw'
              subst hw''
              have z0 := f1 xr
              have z1 := (xr.h.frozen (p := ⟨w1.heap.size, b, none⟩) (FlowB.lt hF4)).trans (FlowB.fz hF4 b)
              have hr5 := hr4.trans (xr.h.mono hr4.size)
              have hF5 : FlowB xr.w w1.heap.size l.N (fun u => if u = a then K a + x3 else K u) := Blk.call hF4 xr.h
              clear f0 f1 f3 y1 hX4 hF4 e1 hr4 g1
              obtain ⟨Y2, hY⟩ : ∃ Y : World, Y = xr.w := ⟨_, rfl⟩
              rw [← hY] at z0 z1 hr5 hF5 ⊢
              clear hY xr
              have hF6 := FlowB.put hF5 (i := b) (x := K b - x3) (g := K') fun j _ => HS2.out j
              have hr6 := hr5.setCell (p := ⟨w1.heap.size, b, none⟩) (Nat.le_refl _) (.int .i64 (K b - x3))
              rw [HK.out] at hF6
              go_wp2
              go_roundw
              case rel => exact ⟨k + 1, by omega, by go_num, HF2, hr6, hF6⟩
              case measure => (simp [intOf]; try omega)
        · obtain rfl : k = l.links.length := by omega
          have d2 : decide (l.links.length < l.links.length) = false := by simp
          have hFit : fitsB l (flF fl) = true := by
            unfold fitsB
            rw [List.all_eq_true]
            exact fun j hj => hfit.out j (List.mem_range.1 hj)
          have hfits := fitsB_iff.1 hFit
          have hkbd := hg.kept_bound hfits
          have hgbd := greatTo_bound hkbd
          rw [flowTo_all] at hF
          have HFIT := Lib.hid hFit
          have HIA := Lib.hid hg.inA
          have HIB := Lib.hid hg.inB
          have HNK := Lib.hid (noKeep_eq l (flF fl))
          have HGY := Lib.hid (fun n (h : l.A n = true) => greatTo_yes (f := flF fl) h)
          have HGN := Lib.hid (fun n (h : l.A n = false) => greatTo_no (f := flF fl) h)
          have HE : Hid (greatTo l (flF fl) l.N = greatF l.N l.L (flF fl) l.A) := rfl
          have HKB := Lib.hid (fun (h : keptB l (flF fl) = false) => chkF_kept H0.out HLN.out HFIT.out h)
          have HGO := Lib.hid (fun (h : keptB l (flF fl) = true) => chkF_go H0.out HLN.out HFIT.out h)
          have HZ : Hid (greatTo l (flF fl) 0 = 0) := by simp [Hid, greatTo, isum]
          obtain ⟨gt, hgt⟩ : ∃ gt, gt = greatTo l (flF fl) := ⟨_, rfl⟩
          rw [← hgt] at HGY HGN HE hgbd HZ
          obtain ⟨kf, hkf⟩ : ∃ kf, kf = keptF l.L (flF fl) := ⟨_, rfl⟩
          rw [← hkf] at hkbd HGY HNK
          have hF2 : FlowB wr w1.heap.size l.N (fun u => -(kf u)) := by rw [hkf]; exact hF
          clear hgt hFit hfits hfit hF hkf
          have hwl := FlowB.lt hF2
          obtain ⟨wo, rfl⟩ : ∃ wo : World, wo = wr := ⟨_, rfl⟩
          go_wp2
          go_loopw [9, 10] (fun gv i wr => ∃ n : Nat, n ≤ l.N ∧ i = .int .i64 n ∧ gv = .int .i64 (gt n) ∧ Hid (∀ u, u < n → noKeepB l (flF fl) u = true) ∧ Below wo.heap.size wo wr) (fun _ i _ => l.N - (intOf i).toNat)
          case atStart => exact ⟨0, Nat.zero_le _, rfl, by rw [HZ.out], fun u hu => absurd hu (Nat.not_lt_zero _), Below.refl _ _⟩
          case round =>
            clear k0 k1 k2 k3
            obtain ⟨n, hn, rfl, rfl, hok, hr2⟩ := hrel
            have hr3 := hr.trans (hr2.mono hr.size)
            obtain ⟨k0, k1, k2, k3⟩ := (hblk.call hr3).c4
            have hCr := hC.call hr3
            have hFr : FlowB wr w1.heap.size l.N (fun u => -(kf u)) := Blk.call hF2 hr2
            by_cases hnl : n < l.N
            · have d3 : decide (n < l.N) = true := decide_eq_true hnl
              have d3' : decide ((n : Int) < (l.N : Int)) = true := decide_eq_true (by omega)
              have hni : (n : Int) < (l.N : Int) := by omega
              have c0 := FlowB.at_ hFr hnl
              have hia := rin_ok _ l.left (n : Int) wr hCr.na.as_
              have hib := rin_ok _ l.right (n : Int) wr hCr.na.bs
              rw [HIA.out] at hia
              rw [HIB.out] at hib
              have hnk := HNK.out n
              have hgy := HGY.out n
              have hgn := HGN.out n
              have hb1 := hgbd n
              have hb2 := hkbd n
              have HOK := fun (h : noKeepB l (flF fl) n = true) => (fun u hu => by
                rcases Nat.lt_or_ge u n with h3 | h3
                · exact hok.out u h3
                · obtain rfl : u = n := by omega
                  exact h : ∀ u, u < n + 1 → noKeepB l (flF fl) u = true)
              clear hFr hCr hok
              cases hA : l.A n
              · rw [hA] at hia hnk
                have hg2 := hgn hA
                clear hgy hgn
                cases hBn : l.B n
                · rw [hBn] at hib hnk
                  by_cases hz : kf n = 0
                  · have HNX := Lib.hid (HOK (by rw [hnk, decide_eq_true hz]; rfl))
                    rw [hz] at c0
                    have c0' : wr.cell? ⟨w1.heap.size, n, none⟩ = some (.int .i64 0) := c0
                    clear hA hBn hnk HOK hz c0 hb2
                    go_wp2_with fail
                    refine hia.mono ?_
                    rintro e w3 ⟨rfl, rfl⟩
                    go_wp2_with fail
                    refine hib.mono ?_
                    rintro e w4 ⟨rfl, rfl⟩
                    clear hia hib
                    go_wp2
                    go_roundw
                    case rel => exact ⟨n + 1, by omega, by go_num, by rw [hg2], HNX, hr2⟩
                    case measure => (simp [intOf]; try omega)
                  · have HX := Lib.hid (HKB.out (by
                      unfold keptB
                      rw [List.all_eq_false]
                      exact ⟨n, List.mem_range.2 hnl, by rw [hnk, decide_eq_false hz]; simp⟩))
                    have e1 : ((-(kf n) : Int) != 0) = true := by
                      rw [bne_iff_ne]
                      omega
                    generalize -(kf n) = y at *
                    clear hA hBn hnk HOK hz hb2 hg2
                    go_wp2_with fail
                    refine hia.mono ?_
                    rintro e w3 ⟨rfl, rfl⟩
                    go_wp2_with fail
                    refine hib.mono ?_
                    rintro e w4 ⟨rfl, rfl⟩
                    clear hia hib
                    go_wp2
                    go_ret2
                    exact ⟨by rw [HX.out]; rfl, hB.trans (hr3.mono hB.size)⟩
                · rw [hBn] at hib hnk
                  have HNX := Lib.hid (HOK (by rw [hnk]; rfl))
                  clear hA hBn hnk HOK hb2 c0
                  go_wp2_with fail
                  refine hia.mono ?_
                  rintro e w3 ⟨rfl, rfl⟩
                  go_wp2_with fail
                  refine hib.mono ?_
                  rintro e w4 ⟨rfl, rfl⟩
                  clear hia hib
                  go_wp2
                  go_roundw
                  case rel => exact ⟨n + 1, by omega, by go_num, by rw [hg2], HNX, hr2⟩
                  case measure => (simp [intOf]; try omega)
              · rw [hA] at hia hnk
                have hg2 := hgy hA
                have HNX := Lib.hid (HOK (by rw [hnk]; rfl))
                have wg : IntKind.i64.wrap (gt n + -(kf n)) = gt (n + 1) := by rw [hg2]; exact wrap_id _ (by omega) (by omega)
                generalize -(kf n) = y at *
                clear hA hnk HOK hgy hgn hg2 hb1 hb2
                go_wp2_with fail
                refine hia.mono ?_
                rintro e w3 ⟨rfl, rfl⟩
                clear hia hib
                go_wp2
                go_roundw
                case rel => exact ⟨n + 1, by omega, by go_num, by rfl, HNX, hr2⟩
                case measure => (simp [intOf]; try omega)
            · obtain rfl : n = l.N := by omega
              have d3 : decide (l.N < l.N) = false := by simp
              have HX := Lib.hid (HGO.out (by
                unfold keptB
                rw [List.all_eq_true]
                exact fun j hj => hok.out j (List.mem_range.1 hj)))
              go_wp2
              go_ret2
              exact ⟨by rw [HX.out, HE.out]; rfl, hB.trans (hr3.mono hB.size)⟩
    · have d1 : ((fl.length : Int) != (l.links.length : Int)) = true := by
        have : ¬ (fl.length : Int) = (l.links.length : Int) := by omega
        simpa using this
      have HN := Lib.hid (chkF_len H0.out hlen)
      clear hlen
      go_wp2
      go_ret2
      exact ⟨by rw [HN.out]; rfl, hB⟩
  · have d0 : (checkL l != 0) = true := by simpa using h0
    have HN := Lib.hid (chkF_err (fl := fl) h0)
    have ho2 := rcheckList_ok _ l w1 hC.v
    clear h0
    go_wp2_with fail
    refine ho2.mono ?_
    rintro e w2 ⟨rfl, hb⟩
    replace hB := hB.trans (hb.mono hB.size)
    clear ho2
    go_wp2
    go_ret2
    exact ⟨by rw [HN.out]; rfl, hB⟩
end Go.Proofs.Ytpkccmohlcndgaa
