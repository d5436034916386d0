/- Contract: join.CheckCylinder. -/
import Derived.Test.YtjjjockfppomdaaSlc
import Derived.Test.YtjjjockfppomdaaWays
namespace Go.Proofs.Ytjjjockfppomdaa
open Go.RowKit Go.Shelf
set_option linter.unusedVariables false

theorem Blk.put3 {w : World} {g : Nat} {t : TypeId} {x0 x1 x2 : Value} (h : Blk w g t #[x0, x1, x2]) (a b c : Value) :
    Blk (((w.setCell ⟨g, 0, none⟩ a).setCell ⟨g, 1, none⟩ b).setCell ⟨g, 2, none⟩ c) g t #[a, b, c] := by
  have := ((h.set_ 0 a).set_ 1 b).set_ 2 c
  simpa using this
theorem Blk.far3 {w : World} {g g' : Nat} {t : TypeId} {cs : Array Value} (h : Blk w g' t cs) (hne : g' ≠ g) (a b c : Value) :
    Blk (((w.setCell ⟨g, 0, none⟩ a).setCell ⟨g, 1, none⟩ b).setCell ⟨g, 2, none⟩ c) g' t cs := ((h.far hne a).far hne b).far hne c
theorem below_put3 {B : Nat} {v w : World} {g : Nat} (h : Below B v w) (hB : B ≤ g) (a b c : Value) :
    Below B v (((w.setCell ⟨g, 0, none⟩ a).setCell ⟨g, 1, none⟩ b).setCell ⟨g, 2, none⟩ c) :=
  ((h.setCell (p := ⟨g, 0, none⟩) hB a).setCell (p := ⟨g, 1, none⟩) hB b).setCell (p := ⟨g, 2, none⟩) hB c
/-- one range, or two, in a block of their own -/
theorem Arr.rg1 {w : World} {g : Nat} {r : Rg} (h : Blk w g 24 #[.int .i64 r.lo, .int .i64 r.hi]) : Arr w w.heap.size 2 (.slice (some ⟨g, 0, none⟩) 1 1) [r] rcell :=
  Arr.lit h h.lt rfl (by simp) (by omega) rfl
theorem Arr.rg2 {w : World} {g : Nat} {r s : Rg} (h : Blk w g 24 #[.int .i64 r.lo, .int .i64 r.hi, .int .i64 s.lo, .int .i64 s.hi]) : Arr w w.heap.size 2 (.slice (some ⟨g, 0, none⟩) 2 2) [r, s] rcell :=
  Arr.lit h h.lt rfl (by simp) (by omega) rfl

set_option maxRecDepth 100000 in
set_option maxHeartbeats 1600000 in
theorem checkCyl_ok (v : Value) (c : Cyl) (w : World) (hv : CylV w w.heap.size v c) :
    Calls Try.prog 16 #[v] w fun r w' => r = .returned (.int .i64 (checkCyl c)) ∧ Below w.heap.size w w' := by
  obtain ⟨pa, pc, rfl, hp⟩ := hv.open_
  have hC := CB.new hp
  have hB := (Below.refl w.heap.size w).alloc (Nat.le_refl _) (.cells #[.slice pa c.pcs.length pc, .int .i64 c.off, .int .i64 c.slo, .int .i64 c.shi] 26)
  go_enter Try.func16, Try.ntmps16
  go_upto_region 1 with (fail)
  have HWS : Hid ((w.alloc (.cells #[.slice pa c.pcs.length pc, .int .i64 c.off, .int .i64 c.slo, .int .i64 c.shi] 26)).heap.size = w.heap.size + 1) := by simp [Hid]
  generalize hW : w.alloc (.cells #[.slice pa c.pcs.length pc, .int .i64 c.off, .int .i64 c.slo, .int .i64 c.shi] 26) = W at *
  clear hW hp
  obtain ⟨k0, k1, k2, k3⟩ := hC.c4
  by_cases h1 : c.pcs.length = 0
  · have d1 : ((c.pcs.length : Int) == 0) = true := by simpa using h1
    have HE : Hid (checkCyl c = 6) := by unfold checkCyl; rw [if_pos (by omega)]; exact rfl
    go_wp2
    go_ret
    exact ⟨by rw [HE.out]; rfl, hB⟩
  · have d1' : ((c.pcs.length : Int) == 0) = false := by simpa using h1
    by_cases h2 : 8 < c.pcs.length
    · have d2' : decide ((8 : Int) < (c.pcs.length : Int)) = true := by simp; omega
      have HE : Hid (checkCyl c = 6) := by unfold checkCyl; rw [if_neg (by omega), if_pos h2]; exact rfl
      go_wp2
      go_ret
      exact ⟨by rw [HE.out]; rfl, hB⟩
    · have d2' : decide ((8 : Int) < (c.pcs.length : Int)) = false := by simp; omega
      have HE : Hid (checkCyl c = if ((okR 0 1000 c.off c.off && okR (-100000) 100000 c.slo c.shi) && c.pcs.all okP) = false then 2 else 0) := by unfold checkCyl; rw [if_neg (by omega), if_neg h2]; exact rfl
      have hn8 : c.pcs.length ≤ 8 := by omega
      obtain ⟨A0, hA0⟩ : ∃ A0, A0 = (okR 0 1000 c.off c.off && okR (-100000) 100000 c.slo c.shi) := ⟨_, rfl⟩
      rw [← hA0] at HE
      have HA0 := Lib.hid hA0
      clear hA0
      go_upto_region 4 with (fail)
      go_cut [4] from 68 (fun g wx => g = .bool A0 ∧ Below W.heap.size W wx)
      case first =>
        go_wp2_with fail
        refine (one_ok c.off _).mono ?_
        rintro e w1 ⟨rfl, hb1⟩
        have hbA := (Below.refl w1.heap.size w1).alloc (Nat.le_refl _) (.cells #[.int .i64 c.off, .int .i64 c.off] 24)
        have hxs := Blk.new w1 24 #[.int .i64 c.off, .int .i64 c.off]
        have hx1 := hb1.trans (hbA.mono hb1.size)
        clear hbA
        go_wp2_with fail
        refine (within_ok 0 1000 _ [⟨c.off, c.off⟩] _ (Arr.rg1 (r := ⟨c.off, c.off⟩) hxs)).mono ?_
        rintro e w2 ⟨rfl, hb2⟩
        have hx2 := hx1.trans (hb2.mono hx1.size)
        have hC2 := hC.call hx2
        have e1 : ([(⟨c.off, c.off⟩ : Rg)].all fun x => okR 0 1000 x.lo x.hi) = okR 0 1000 c.off c.off := by simp
        rw [e1]
        clear k0 k1 k2 k3 hb1 hxs hx1 hb2 e1
        obtain ⟨k0, k1, k2, k3⟩ := hC2.c4
        cases hv1 : okR 0 1000 c.off c.off
        · have HQ : Hid (A0 = false) := by rw [Hid, HA0.out, hv1]; rfl
          go_wp2_with fail
          go_meet
          case rel => exact ⟨by rw [HQ.out], hx2⟩
        · have HQ : Hid (A0 = okR (-100000) 100000 c.slo c.shi) := by rw [Hid, HA0.out, hv1]; rfl
          go_wp2_with fail
          have hbA := (Below.refl w2.heap.size w2).alloc (Nat.le_refl _) (.cells #[.int .i64 c.slo, .int .i64 c.shi] 24)
          have hxs := Blk.new w2 24 #[.int .i64 c.slo, .int .i64 c.shi]
          have hx3 := hx2.trans (hbA.mono hx2.size)
          clear hbA
          refine (within_ok (-100000) 100000 _ [⟨c.slo, c.shi⟩] _ (Arr.rg1 (r := ⟨c.slo, c.shi⟩) hxs)).mono ?_
          rintro e w3 ⟨rfl, hb3⟩
          have hx4 := hx3.trans (hb3.mono hx3.size)
          have e1 : ([(⟨c.slo, c.shi⟩ : Rg)].all fun x => okR (-100000) 100000 x.lo x.hi) = okR (-100000) 100000 c.slo c.shi := by simp
          rw [e1, ← HQ.out]
          clear e1
          go_wp2_with fail
          go_meet
          case rel => exact ⟨rfl, hx4⟩
      case rest =>
        obtain ⟨rfl, hb1⟩ := hcut
        obtain ⟨wd, hwd⟩ : ∃ wd : World, wd = wc := ⟨_, rfl⟩
        rw [← hwd] at hb1 ⊢
        clear hwd wc
        replace hC := hC.call hb1
        replace hB := hB.trans (hb1.mono hB.size)
        clear k0 k1 k2 k3 hb1
        obtain ⟨k0, k1, k2, k3⟩ := hC.c4
        go_wp2_with fail
        go_loopw [4, 34] (fun g i wr => ∃ n : Nat, n ≤ c.pcs.length ∧ i = .int .i64 n ∧ g = .bool (A0 && (c.pcs.take n).all okP) ∧ Below wd.heap.size wd wr) (fun _ i _ => c.pcs.length - (intOf i).toNat)
        case atStart => exact ⟨0, Nat.zero_le _, rfl, by simp, Below.refl _ _⟩
        case round =>
          obtain ⟨n, hn, rfl, rfl, hb⟩ := hrel
          have hCr := hC.call hb
          clear k0 k1 k2 k3
          obtain ⟨k0, k1, k2, k3⟩ := hCr.c4
          by_cases hn1 : n < c.pcs.length
          · have d3 : decide (n < c.pcs.length) = true := by simpa using hn1
            have d3' : decide ((n : Int) < (c.pcs.length : Int)) = true := by simp; omega
            obtain ⟨b, off, p, hpa, hpb, hp1, c0, c1, c2, c3, c4, c5, c6⟩ := piece_at hCr.ps hn1
            subst hpa
            have HTK : Hid ((A0 && (c.pcs.take (n + 1)).all okP) = ((A0 && (c.pcs.take n).all okP) && okP p)) := by
              rw [Hid, List.take_add_one, hp1]
              simp [List.all_append, Bool.and_assoc]
            obtain ⟨G, hG⟩ : ∃ G, G = (A0 && (c.pcs.take n).all okP) := ⟨_, rfl⟩
            rw [← hG] at HTK ⊢
            clear hG hp1
            go_upto_region 8 with (fail)
            have hbA := (Below.refl wr.heap.size wr).alloc (Nat.le_refl _) (.cells #[.int .i64 p.a.lo, .int .i64 p.a.hi, .int .i64 p.a.pl, .int .i64 p.b.lo, .int .i64 p.b.hi, .int .i64 p.b.pl, .bool p.loose] 62)
            have hxs := Blk.new wr 62 #[.int .i64 p.a.lo, .int .i64 p.a.hi, .int .i64 p.a.pl, .int .i64 p.b.lo, .int .i64 p.b.hi, .int .i64 p.b.pl, .bool p.loose]
            have hbv := hb.trans (hbA.mono hb.size)
            clear c0 c1 c2 c3 c4 c5 c6 k0 k1 k2 k3 hbA hCr
            generalize wr.alloc (.cells #[.int .i64 p.a.lo, .int .i64 p.a.hi, .int .i64 p.a.pl, .int .i64 p.b.lo, .int .i64 p.b.hi, .int .i64 p.b.pl, .bool p.loose] 62) = wv at *
            generalize wr.heap.size = pb at *
            have s0 := hxs.cell 0
            have s1 := hxs.cell 1
            have s2 := hxs.cell 2
            have s3 := hxs.cell 3
            have s4 := hxs.cell 4
            have s5 := hxs.cell 5
            simp at s0 s1 s2 s3 s4 s5
            go_cut [7, 8] from 68 (fun x y wx => ∃ ga gb, x = .pointer (some ⟨ga, 0, none⟩) ∧ y = .pointer (some ⟨gb, 0, none⟩) ∧ Blk wx ga 59 #[.int .i64 p.a.lo, .int .i64 p.a.hi, .int .i64 p.a.pl] ∧ Blk wx gb 59 #[.int .i64 p.b.lo, .int .i64 p.b.hi, .int .i64 p.b.pl] ∧ Below wv.heap.size wv wx)
            case first =>
              have f0 := Ext.of s0
              have f1 := Ext.of s1
              have f2 := Ext.of s2
              have f3 := Ext.of s3
              have f4 := Ext.of s4
              have f5 := Ext.of s5
              clear s0 s1 s2 s3 s4 s5
              refine ways_start 10 (fun w' => ∃ x : Ext wv, w' = x.w) (by rfl) (by kernel_rfl) ?_
              have hxd : Below wv.heap.size wv wv.drew := (Below.refl wv.heap.size wv).drew
              generalize wv.drew = w0 at *
              refine ways_q 0 (by rfl) (by rfl) (by kernel_rfl) (by kernel_rfl) (by kernel_rfl) (by rfl) ⟨⟨w0, hxd⟩, rfl⟩ ?_
              intro K hK
              go_big_quiet_op
              go_big_quiet_on
              refine ways_q 1 (by rfl) (by rfl) (by kernel_rfl) (by kernel_rfl) (by kernel_rfl) (by rfl) ⟨⟨w0, hxd⟩, rfl⟩ ?_
              intro K hK
              go_big_quiet_op
              go_big_quiet_on
              refine ways_q 2 (by rfl) (by rfl) (by kernel_rfl) (by kernel_rfl) (by kernel_rfl) (by rfl) ⟨⟨w0, hxd⟩, rfl⟩ ?_
              intro K hK
              go_big_quiet_op
              go_big_quiet_on
              refine ways_q 3 (by rfl) (by rfl) (by kernel_rfl) (by kernel_rfl) (by kernel_rfl) (by rfl) ⟨⟨w0, hxd⟩, rfl⟩ ?_
              intro K hK
              go_big_quiet_op
              go_big_quiet_on
              refine ways_q 4 (by rfl) (by rfl) (by kernel_rfl) (by kernel_rfl) (by kernel_rfl) (by rfl) ⟨⟨w0, hxd⟩, rfl⟩ ?_
              intro K hK
              go_big_quiet_op
              go_big_quiet_on
              refine ways_q 5 (by rfl) (by rfl) (by kernel_rfl) (by kernel_rfl) (by kernel_rfl) (by rfl) ⟨⟨w0, hxd⟩, rfl⟩ ?_
              intro K hK
              go_big_quiet_op
              go_big_quiet_on
              have sz := hxd.size
              refine ways_2 6 7 (by kernel_rfl) ?_ ?_
              · refine ⟨_, _, (by rfl), (by rfl), ?_⟩
                intro K' hK'
                go_wp2
                have b1 := Blk.new w0 59 #[.int .i64 0, .int .i64 0, .int .i64 0]
                have hbb := (Below.refl (w0).heap.size w0).alloc (Nat.le_refl _) (.cells #[.int .i64 0, .int .i64 0, .int .i64 0] 59)
                have hx1 := (hxd).trans (hbb.mono (hxd).size)
                have l_b1 := (b1).lt
                skip
                generalize (w0).alloc (.cells #[.int .i64 0, .int .i64 0, .int .i64 0] 59) = w1 at *
                refine hK' _ _ ⟨⟨⟨w1, hx1⟩, rfl⟩, ?_⟩
                clear hK' K' hbb
                refine ways_1 7 (by kernel_rfl) ?_
                refine ⟨_, _, (by rfl), (by rfl), ?_⟩
                intro K' hK'
                go_wp2
                have b2 := Blk.new w1 59 #[.int .i64 0, .int .i64 0, .int .i64 0]
                have hbb := (Below.refl (w1).heap.size w1).alloc (Nat.le_refl _) (.cells #[.int .i64 0, .int .i64 0, .int .i64 0] 59)
                have hx2 := (hx1).trans (hbb.mono (hx1).size)
                have l_b2 := (b2).lt
                replace b1 := b1.call hbb
                generalize (w1).alloc (.cells #[.int .i64 0, .int .i64 0, .int .i64 0] 59) = w2 at *
                refine hK' _ _ ⟨⟨⟨w2, hx2⟩, rfl⟩, ?_⟩
                clear hK' K' hbb
                refine ways_1 8 (by kernel_rfl) ?_
                have z0 := (b1).cell 0
                have z1 := (b1).cell 1
                have z2 := (b1).cell 2
                simp at z0 z1 z2
                have hfz := fun i => (b1).frozen i
                refine ⟨_, _, (by rfl), (by rfl), ?_⟩
                intro K' hK'
                go_wp2
                replace b2 := (b2).far3 (g := w0.heap.size) (by omega) (.int .i64 p.a.lo) (.int .i64 p.a.hi) (.int .i64 p.a.pl)
                replace b1 := (b1).put3 (.int .i64 p.a.lo) (.int .i64 p.a.hi) (.int .i64 p.a.pl)
                have hx3 := below_put3 (g := w0.heap.size) hx2 (by omega) (.int .i64 p.a.lo) (.int .i64 p.a.hi) (.int .i64 p.a.pl)
                clear z0 z1 z2 hfz
                generalize ((((w2).setCell ⟨w0.heap.size, 0, none⟩ (.int .i64 p.a.lo)).setCell ⟨w0.heap.size, 1, none⟩ (.int .i64 p.a.hi)).setCell ⟨w0.heap.size, 2, none⟩ (.int .i64 p.a.pl)) = w3 at *
                refine hK' _ _ ⟨⟨⟨w3, hx3⟩, rfl⟩, ?_⟩
                clear hK' K'
                refine ways_1 9 (by kernel_rfl) ?_
                have z0 := (b2).cell 0
                have z1 := (b2).cell 1
                have z2 := (b2).cell 2
                simp at z0 z1 z2
                have hfz := fun i => (b2).frozen i
                refine ⟨_, _, (by rfl), (by rfl), ?_⟩
                intro K' hK'
                go_wp2
                replace b1 := (b1).far3 (g := w1.heap.size) (by omega) (.int .i64 p.b.lo) (.int .i64 p.b.hi) (.int .i64 p.b.pl)
                replace b2 := (b2).put3 (.int .i64 p.b.lo) (.int .i64 p.b.hi) (.int .i64 p.b.pl)
                have hx4 := below_put3 (g := w1.heap.size) hx3 (by omega) (.int .i64 p.b.lo) (.int .i64 p.b.hi) (.int .i64 p.b.pl)
                clear z0 z1 z2 hfz
                generalize ((((w3).setCell ⟨w1.heap.size, 0, none⟩ (.int .i64 p.b.lo)).setCell ⟨w1.heap.size, 1, none⟩ (.int .i64 p.b.hi)).setCell ⟨w1.heap.size, 2, none⟩ (.int .i64 p.b.pl)) = w4 at *
                refine hK' _ _ ⟨⟨⟨w4, hx4⟩, rfl⟩, ?_⟩
                clear hK' K'
                refine ways_end (by kernel_rfl) ?_
                go_wp2
                go_meet
                case rel => exact ⟨_, _, rfl, rfl, b1, b2, hx4⟩
              · refine ⟨_, _, (by rfl), (by rfl), ?_⟩
                intro K' hK'
                go_wp2
                have b1 := Blk.new w0 59 #[.int .i64 0, .int .i64 0, .int .i64 0]
                have hbb := (Below.refl (w0).heap.size w0).alloc (Nat.le_refl _) (.cells #[.int .i64 0, .int .i64 0, .int .i64 0] 59)
                have hx1 := (hxd).trans (hbb.mono (hxd).size)
                have l_b1 := (b1).lt
                skip
                generalize (w0).alloc (.cells #[.int .i64 0, .int .i64 0, .int .i64 0] 59) = w1 at *
                refine hK' _ _ ⟨⟨⟨w1, hx1⟩, rfl⟩, ?_⟩
                clear hK' K' hbb
                refine ways_1 6 (by kernel_rfl) ?_
                refine ⟨_, _, (by rfl), (by rfl), ?_⟩
                intro K' hK'
                go_wp2
                have b2 := Blk.new w1 59 #[.int .i64 0, .int .i64 0, .int .i64 0]
                have hbb := (Below.refl (w1).heap.size w1).alloc (Nat.le_refl _) (.cells #[.int .i64 0, .int .i64 0, .int .i64 0] 59)
                have hx2 := (hx1).trans (hbb.mono (hx1).size)
                have l_b2 := (b2).lt
                replace b1 := b1.call hbb
                generalize (w1).alloc (.cells #[.int .i64 0, .int .i64 0, .int .i64 0] 59) = w2 at *
                refine hK' _ _ ⟨⟨⟨w2, hx2⟩, rfl⟩, ?_⟩
                clear hK' K' hbb
                refine ways_1 8 (by kernel_rfl) ?_
                have z0 := (b2).cell 0
                have z1 := (b2).cell 1
                have z2 := (b2).cell 2
                simp at z0 z1 z2
                have hfz := fun i => (b2).frozen i
                refine ⟨_, _, (by rfl), (by rfl), ?_⟩
                intro K' hK'
                go_wp2
                replace b1 := (b1).far3 (g := w1.heap.size) (by omega) (.int .i64 p.a.lo) (.int .i64 p.a.hi) (.int .i64 p.a.pl)
                replace b2 := (b2).put3 (.int .i64 p.a.lo) (.int .i64 p.a.hi) (.int .i64 p.a.pl)
                have hx3 := below_put3 (g := w1.heap.size) hx2 (by omega) (.int .i64 p.a.lo) (.int .i64 p.a.hi) (.int .i64 p.a.pl)
                clear z0 z1 z2 hfz
                generalize ((((w2).setCell ⟨w1.heap.size, 0, none⟩ (.int .i64 p.a.lo)).setCell ⟨w1.heap.size, 1, none⟩ (.int .i64 p.a.hi)).setCell ⟨w1.heap.size, 2, none⟩ (.int .i64 p.a.pl)) = w3 at *
                refine hK' _ _ ⟨⟨⟨w3, hx3⟩, rfl⟩, ?_⟩
                clear hK' K'
                refine ways_1 9 (by kernel_rfl) ?_
                have z0 := (b1).cell 0
                have z1 := (b1).cell 1
                have z2 := (b1).cell 2
                simp at z0 z1 z2
                have hfz := fun i => (b1).frozen i
                refine ⟨_, _, (by rfl), (by rfl), ?_⟩
                intro K' hK'
                go_wp2
                replace b2 := (b2).far3 (g := w0.heap.size) (by omega) (.int .i64 p.b.lo) (.int .i64 p.b.hi) (.int .i64 p.b.pl)
                replace b1 := (b1).put3 (.int .i64 p.b.lo) (.int .i64 p.b.hi) (.int .i64 p.b.pl)
                have hx4 := below_put3 (g := w0.heap.size) hx3 (by omega) (.int .i64 p.b.lo) (.int .i64 p.b.hi) (.int .i64 p.b.pl)
                clear z0 z1 z2 hfz
                generalize ((((w3).setCell ⟨w0.heap.size, 0, none⟩ (.int .i64 p.b.lo)).setCell ⟨w0.heap.size, 1, none⟩ (.int .i64 p.b.hi)).setCell ⟨w0.heap.size, 2, none⟩ (.int .i64 p.b.pl)) = w4 at *
                refine hK' _ _ ⟨⟨⟨w4, hx4⟩, rfl⟩, ?_⟩
                clear hK' K'
                refine ways_end (by kernel_rfl) ?_
                go_wp2
                go_meet
                case rel => exact ⟨_, _, rfl, rfl, b2, b1, hx4⟩
            case rest =>
              obtain ⟨ga, gb, rfl, rfl, B1, B2, hbc⟩ := hcut
              have hbx := hbv.trans (hbc.mono hbv.size)
              clear s0 s1 s2 s3 s4 s5 hxs hbv
              have a0 := B1.cell 0
              have a1 := B1.cell 1
              have a2 := B1.cell 2
              have b0 := B2.cell 0
              have b1 := B2.cell 1
              have b2 := B2.cell 2
              simp at a0 a1 a2 b0 b1 b2
              go_upto_region 9 with (fail)
              have f0 := Ext.of a0
              have f1 := Ext.of a1
              have f2 := Ext.of a2
              have f3 := Ext.of b0
              have f4 := Ext.of b1
              have f5 := Ext.of b2
              clear a0 a1 a2 b0 b1 b2 B1 B2 hbc
              have hxd : Below wc.heap.size wc wc.drew := (Below.refl wc.heap.size wc).drew
              cases G
              · have HR : Hid ((A0 && (c.pcs.take (n + 1)).all okP) = false) := by rw [Hid, HTK.out]; rfl
                refine wp_region_ext (by kernel_rfl) (by kernel_rfl) ?_
                repeat (go_big_quiet_step (fail))
                refine wpQuiet_nil ?_
                intro _ hw'
                obtain ⟨xr, hw''⟩ := hw'
                subst hw''
                have hbe := hbx.trans (xr.h.mono hbx.size)
                go_wp2
                go_roundw
                case rel =>
                  first
                  | exact ⟨n + 1, by omega, by go_num, by rw [HR.out], hbe⟩
                  | ((repeat apply Exists.intro); exact ⟨⟨n + 1, by omega, by go_num, by rw [HR.out], hbe⟩, rfl⟩)
                case measure => (simp [intOf]; try omega)
              · cases hv1 : (okR 0 1000 p.a.lo p.a.hi && okR 0 1000 p.b.lo p.b.hi)
                · have HR : Hid ((A0 && (c.pcs.take (n + 1)).all okP) = false) := by rw [Hid, HTK.out, okP, hv1]; rfl
                  refine wp_region_schedH (C := fun w' => ∃ x : Ext wc, w' = x.w) [(0, true), (1, true), (2, true), (3, true), (4, true), (5, true), (6, false), (7, false), (8, true), (9, true), (10, true), (11, true), (12, true), (14, true), (15, true), (16, true), (13, false), (17, false), (18, false), (19, false), (20, true), (21, true)] (by kernel_rfl) (by kernel_rfl) ⟨⟨wc.drew, (Below.refl _ wc).drew⟩, rfl⟩ ?_
                  generalize wc.drew = v0 at *
                  refine schedH_q (by rfl) (by rfl) ?_
                  intro K hK
                  go_big_quiet_op
                  go_big_quiet_on
                  refine schedH_q (by rfl) (by rfl) ?_
                  intro K hK
                  go_big_quiet_op
                  go_big_quiet_on
                  refine schedH_q (by rfl) (by rfl) ?_
                  intro K hK
                  go_big_quiet_op
                  go_big_quiet_on
                  refine schedH_q (by rfl) (by rfl) ?_
                  intro K hK
                  go_big_quiet_op
                  go_big_quiet_on
                  refine schedH_q (by rfl) (by rfl) ?_
                  intro K hK
                  go_big_quiet_op
                  go_big_quiet_on
                  refine schedH_q (by rfl) (by rfl) ?_
                  intro K hK
                  go_big_quiet_op
                  go_big_quiet_on
                  refine schedH_c (by rfl) (by rfl) ?_
                  intro K' hK'
                  go_wp2
                  have hz1 : Below wc.heap.size wc (v0.alloc (.cells #[.int .i64 p.a.lo, .int .i64 p.a.hi, .int .i64 p.b.lo, .int .i64 p.b.hi] 24)) := hxd.alloc hxd.size _
                  have hs1 := Blk.new v0 24 #[.int .i64 p.a.lo, .int .i64 p.a.hi, .int .i64 p.b.lo, .int .i64 p.b.hi]
                  generalize v0.alloc (.cells #[.int .i64 p.a.lo, .int .i64 p.a.hi, .int .i64 p.b.lo, .int .i64 p.b.hi] 24) = v1 at *
                  refine hK' _ _ ⟨⟨⟨v1, hz1⟩, rfl⟩, ?_⟩
                  clear hK' K'
                  refine schedH_c (by rfl) (by rfl) ?_
                  intro K' hK'
                  go_wp2_with fail
                  refine (within_ok 0 1000 _ [⟨p.a.lo, p.a.hi⟩, ⟨p.b.lo, p.b.hi⟩] _ (Arr.rg2 (r := ⟨p.a.lo, p.a.hi⟩) (s := ⟨p.b.lo, p.b.hi⟩) hs1)).mono ?_
                  rintro e v2 ⟨rfl, hbv2⟩
                  have hz2 := hz1.trans (hbv2.mono hz1.size)
                  rw [show ([(⟨p.a.lo, p.a.hi⟩ : Rg), ⟨p.b.lo, p.b.hi⟩].all fun x => okR 0 1000 x.lo x.hi) = (okR 0 1000 p.a.lo p.a.hi && okR 0 1000 p.b.lo p.b.hi) from by simp, hv1]
                  go_wp2
                  refine hK' _ _ ⟨⟨⟨v2, hz2⟩, rfl⟩, ?_⟩
                  clear hK' K' hs1 hbv2
                  refine schedH_q (by rfl) (by rfl) ?_
                  intro K hK
                  go_big_quiet_op
                  go_big_quiet_on
                  refine schedH_q (by rfl) (by rfl) ?_
                  intro K hK
                  go_big_quiet_op
                  go_big_quiet_on
                  refine schedH_s2 (by rfl) (by rfl) ⟨⟨v2, hz2⟩, rfl⟩ ?_
                  intro K hK
                  go_big_quiet_op
                  go_big_quiet_on
                  refine schedH_s2 (by rfl) (by rfl) ⟨⟨v2, hz2⟩, rfl⟩ ?_
                  intro K hK
                  go_big_quiet_op
                  go_big_quiet_on
                  refine schedH_s2 (by rfl) (by rfl) ⟨⟨v2, hz2⟩, rfl⟩ ?_
                  intro K hK
                  go_big_quiet_op
                  go_big_quiet_on
                  refine schedH_s2 (by rfl) (by rfl) ⟨⟨v2, hz2⟩, rfl⟩ ?_
                  intro K hK
                  go_big_quiet_op
                  go_big_quiet_on
                  refine schedH_s2 (by rfl) (by rfl) ⟨⟨v2, hz2⟩, rfl⟩ ?_
                  intro K hK
                  go_big_quiet_op
                  go_big_quiet_on
                  refine schedH_s2 (by rfl) (by rfl) ⟨⟨v2, hz2⟩, rfl⟩ ?_
                  intro K hK
                  go_big_quiet_op
                  go_big_quiet_on
                  refine schedH_s2 (by rfl) (by rfl) ⟨⟨v2, hz2⟩, rfl⟩ ?_
                  intro K hK
                  go_big_quiet_op
                  go_big_quiet_on
                  refine schedH_s2 (by rfl) (by rfl) ⟨⟨v2, hz2⟩, rfl⟩ ?_
                  intro K hK
                  go_big_quiet_op
                  go_big_quiet_on
                  refine schedH_s2 (by rfl) (by rfl) ⟨⟨v2, hz2⟩, rfl⟩ ?_
                  intro K hK
                  go_big_quiet_op
                  go_big_quiet_on
                  refine schedH_s2 (by rfl) (by rfl) ⟨⟨v2, hz2⟩, rfl⟩ ?_
                  intro K hK
                  go_big_quiet_op
                  go_big_quiet_on
                  refine schedH_q (by rfl) (by rfl) ?_
                  intro K hK
                  go_big_quiet_op
                  go_big_quiet_on
                  refine schedH_q (by rfl) (by rfl) ?_
                  intro K hK
                  go_big_quiet_op
                  go_big_quiet_on
                  refine schedH_nil ?_
                  have hbe := hbx.trans (hz2.mono hbx.size)
                  go_wp2
                  go_roundw
                  case rel =>
                    first
                    | exact ⟨n + 1, by omega, by go_num, by rw [HR.out], hbe⟩
                    | ((repeat apply Exists.intro); exact ⟨⟨n + 1, by omega, by go_num, by rw [HR.out], hbe⟩, rfl⟩)
                  case measure => (simp [intOf]; try omega)
                · have HR : Hid ((A0 && (c.pcs.take (n + 1)).all okP) = (okR 0 100000 p.a.pl p.a.pl && okR 0 100000 p.b.pl p.b.pl)) := by rw [Hid, HTK.out, okP, hv1]; simp
                  refine wp_region_schedH (C := fun w' => ∃ x : Ext wc, w' = x.w) [(0, true), (1, true), (2, true), (3, true), (4, true), (5, true), (6, false), (7, false), (8, true), (9, true), (10, true), (11, true), (12, true), (14, true), (15, true), (16, true), (13, false), (17, false), (18, false), (19, false), (20, true), (21, true)] (by kernel_rfl) (by kernel_rfl) ⟨⟨wc.drew, (Below.refl _ wc).drew⟩, rfl⟩ ?_
                  generalize wc.drew = v0 at *
                  refine schedH_q (by rfl) (by rfl) ?_
                  intro K hK
                  go_big_quiet_op
                  go_big_quiet_on
                  refine schedH_q (by rfl) (by rfl) ?_
                  intro K hK
                  go_big_quiet_op
                  go_big_quiet_on
                  refine schedH_q (by rfl) (by rfl) ?_
                  intro K hK
                  go_big_quiet_op
                  go_big_quiet_on
                  refine schedH_q (by rfl) (by rfl) ?_
                  intro K hK
                  go_big_quiet_op
                  go_big_quiet_on
                  refine schedH_q (by rfl) (by rfl) ?_
                  intro K hK
                  go_big_quiet_op
                  go_big_quiet_on
                  refine schedH_q (by rfl) (by rfl) ?_
                  intro K hK
                  go_big_quiet_op
                  go_big_quiet_on
                  refine schedH_c (by rfl) (by rfl) ?_
                  intro K' hK'
                  go_wp2
                  have hz1 : Below wc.heap.size wc (v0.alloc (.cells #[.int .i64 p.a.lo, .int .i64 p.a.hi, .int .i64 p.b.lo, .int .i64 p.b.hi] 24)) := hxd.alloc hxd.size _
                  have hs1 := Blk.new v0 24 #[.int .i64 p.a.lo, .int .i64 p.a.hi, .int .i64 p.b.lo, .int .i64 p.b.hi]
                  generalize v0.alloc (.cells #[.int .i64 p.a.lo, .int .i64 p.a.hi, .int .i64 p.b.lo, .int .i64 p.b.hi] 24) = v1 at *
                  refine hK' _ _ ⟨⟨⟨v1, hz1⟩, rfl⟩, ?_⟩
                  clear hK' K'
                  refine schedH_c (by rfl) (by rfl) ?_
                  intro K' hK'
                  go_wp2_with fail
                  refine (within_ok 0 1000 _ [⟨p.a.lo, p.a.hi⟩, ⟨p.b.lo, p.b.hi⟩] _ (Arr.rg2 (r := ⟨p.a.lo, p.a.hi⟩) (s := ⟨p.b.lo, p.b.hi⟩) hs1)).mono ?_
                  rintro e v2 ⟨rfl, hbv2⟩
                  have hz2 := hz1.trans (hbv2.mono hz1.size)
                  rw [show ([(⟨p.a.lo, p.a.hi⟩ : Rg), ⟨p.b.lo, p.b.hi⟩].all fun x => okR 0 1000 x.lo x.hi) = (okR 0 1000 p.a.lo p.a.hi && okR 0 1000 p.b.lo p.b.hi) from by simp, hv1]
                  go_wp2
                  refine hK' _ _ ⟨⟨⟨v2, hz2⟩, rfl⟩, ?_⟩
                  clear hK' K' hs1 hbv2
                  refine schedH_q (by rfl) (by rfl) ?_
                  intro K hK
                  go_big_quiet_op
                  go_big_quiet_on
                  refine schedH_q (by rfl) (by rfl) ?_
                  intro K hK
                  go_big_quiet_op
                  go_big_quiet_on
                  refine schedH_q (by rfl) (by rfl) ?_
                  intro K hK
                  go_big_quiet_op
                  go_big_quiet_on
                  refine schedH_q (by rfl) (by rfl) ?_
                  intro K hK
                  go_big_quiet_op
                  go_big_quiet_on
                  refine schedH_q (by rfl) (by rfl) ?_
                  intro K hK
                  go_big_quiet_op
                  go_big_quiet_on
                  refine schedH_q (by rfl) (by rfl) ?_
                  intro K hK
                  go_big_quiet_op
                  go_big_quiet_on
                  refine schedH_q (by rfl) (by rfl) ?_
                  intro K hK
                  go_big_quiet_op
                  go_big_quiet_on
                  refine schedH_q (by rfl) (by rfl) ?_
                  intro K hK
                  go_big_quiet_op
                  go_big_quiet_on
                  refine schedH_c (by rfl) (by rfl) ?_
                  intro K' hK'
                  go_wp2_with fail
                  refine (one_ok p.a.pl _).mono ?_
                  rintro e v3 ⟨rfl, hbo⟩
                  have hz3 := hz2.trans (hbo.mono hz2.size)
                  go_wp2
                  refine hK' _ _ ⟨⟨⟨v3, hz3⟩, rfl⟩, ?_⟩
                  clear hK' K' hbo
                  refine schedH_c (by rfl) (by rfl) ?_
                  intro K' hK'
                  go_wp2_with fail
                  refine (one_ok p.b.pl _).mono ?_
                  rintro e v4 ⟨rfl, hbo⟩
                  have hz4 := hz3.trans (hbo.mono hz3.size)
                  go_wp2
                  refine hK' _ _ ⟨⟨⟨v4, hz4⟩, rfl⟩, ?_⟩
                  clear hK' K' hbo
                  refine schedH_c (by rfl) (by rfl) ?_
                  intro K' hK'
                  go_wp2
                  have hz5 : Below wc.heap.size wc (v4.alloc (.cells #[.int .i64 p.a.pl, .int .i64 p.a.pl, .int .i64 p.b.pl, .int .i64 p.b.pl] 24)) := hz4.alloc hz4.size _
                  have hs1 := Blk.new v4 24 #[.int .i64 p.a.pl, .int .i64 p.a.pl, .int .i64 p.b.pl, .int .i64 p.b.pl]
                  generalize v4.alloc (.cells #[.int .i64 p.a.pl, .int .i64 p.a.pl, .int .i64 p.b.pl, .int .i64 p.b.pl] 24) = v5 at *
                  refine hK' _ _ ⟨⟨⟨v5, hz5⟩, rfl⟩, ?_⟩
                  clear hK' K'
                  refine schedH_c (by rfl) (by rfl) ?_
                  intro K' hK'
                  go_wp2_with fail
                  refine (within_ok 0 100000 _ [⟨p.a.pl, p.a.pl⟩, ⟨p.b.pl, p.b.pl⟩] _ (Arr.rg2 (r := ⟨p.a.pl, p.a.pl⟩) (s := ⟨p.b.pl, p.b.pl⟩) hs1)).mono ?_
                  rintro e v6 ⟨rfl, hbv6⟩
                  have hz6 := hz5.trans (hbv6.mono hz5.size)
                  rw [show ([(⟨p.a.pl, p.a.pl⟩ : Rg), ⟨p.b.pl, p.b.pl⟩].all fun x => okR 0 100000 x.lo x.hi) = (okR 0 100000 p.a.pl p.a.pl && okR 0 100000 p.b.pl p.b.pl) from by simp]
                  go_wp2
                  refine hK' _ _ ⟨⟨⟨v6, hz6⟩, rfl⟩, ?_⟩
                  clear hK' K' hs1 hbv6
                  refine schedH_q (by rfl) (by rfl) ?_
                  intro K hK
                  go_big_quiet_op
                  go_big_quiet_on
                  refine schedH_q (by rfl) (by rfl) ?_
                  intro K hK
                  go_big_quiet_op
                  go_big_quiet_on
                  refine schedH_nil ?_
                  have hbe := hbx.trans (hz6.mono hbx.size)
                  go_wp2
                  go_roundw
                  case rel =>
                    first
                    | exact ⟨n + 1, by omega, by go_num, by rw [HR.out], hbe⟩
                    | ((repeat apply Exists.intro); exact ⟨⟨n + 1, by omega, by go_num, by rw [HR.out], hbe⟩, rfl⟩)
                  case measure => (simp [intOf]; try omega)
          · obtain rfl : n = c.pcs.length := by omega
            have d3 : decide (c.pcs.length < c.pcs.length) = false := by simp
            rw [List.take_length]
            have HF : Hid (checkCyl c = if (A0 && c.pcs.all okP) = false then 2 else 0) := HE.out
            have hBr := hB.trans (hb.mono hB.size)
            cases hg : (A0 && c.pcs.all okP)
            · have HZ : Hid (checkCyl c = 2) := by rw [Hid, HF.out, if_pos hg]
              go_wp2
              go_ret
              exact ⟨by rw [HZ.out]; rfl, hBr⟩
            · have HZ : Hid (checkCyl c = 0) := by rw [Hid, HF.out, if_neg (by rw [hg]; simp)]
              go_wp2
              go_ret
              exact ⟨by rw [HZ.out]; rfl, hBr⟩
end Go.Proofs.Ytjjjockfppomdaa
