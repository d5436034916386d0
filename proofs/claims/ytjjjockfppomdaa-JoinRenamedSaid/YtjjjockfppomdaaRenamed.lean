/- Contract of the law JoinRenamed: true. -/
import Derived.Test.YtjjjockfppomdaaGrw
import Derived.Test.YtjjjockfppomdaaRen
namespace Go.Proofs.Ytjjjockfppomdaa
open Go.RowKit Go.Shelf
set_option linter.unusedVariables false

theorem u16_nat {x : Int} (h : (Lit.int .u16 x).wf = true) : ∃ k : Nat, x = (k : Int) ∧ k < 65536 := by
  have e1 : IntKind.u16.min = 0 := rfl
  have e2 : IntKind.u16.max = 65535 := rfl
  simp only [Lit.wf, e1, e2, Bool.and_eq_true, decide_eq_true_eq] at h
  exact ⟨x.toNat, by omega, by omega⟩
theorem take_map_step2 {α β : Type} (f : α → β) {l : List α} {k : Nat} {x : α} (h : l[k]? = some x) : (l.take (k + 1)).map f = (l.take k).map f ++ [f x] := by
  rw [take_snoc h, List.map_append]; rfl
/-- a piece's seven cells, stored whole -/
theorem Blk.put7 {w : World} {g : Nat} {t : TypeId} {x0 x1 x2 x3 x4 x5 x6 : Value} (h : Blk w g t #[x0, x1, x2, x3, x4, x5, x6]) (a b c d e f i : Value) :
    Blk (((((((w.setCell ⟨g, 0, none⟩ a).setCell ⟨g, 1, none⟩ b).setCell ⟨g, 2, none⟩ c).setCell ⟨g, 3, none⟩ d).setCell ⟨g, 4, none⟩ e).setCell ⟨g, 5, none⟩ f).setCell ⟨g, 6, none⟩ i) g t #[a, b, c, d, e, f, i] := by
  simpa using ((((((h.set_ 0 a).set_ 1 b).set_ 2 c).set_ 3 d).set_ 4 e).set_ 5 f).set_ 6 i
theorem below_put7 {B : Nat} {v w : World} {g : Nat} (h : Below B v w) (hB : B ≤ g) (a b c d e f i : Value) :
    Below B v (((((((w.setCell ⟨g, 0, none⟩ a).setCell ⟨g, 1, none⟩ b).setCell ⟨g, 2, none⟩ c).setCell ⟨g, 3, none⟩ d).setCell ⟨g, 4, none⟩ e).setCell ⟨g, 5, none⟩ f).setCell ⟨g, 6, none⟩ i) :=
  ((((((h.setCell (p := ⟨g, 0, none⟩) hB a).setCell (p := ⟨g, 1, none⟩) hB b).setCell (p := ⟨g, 2, none⟩) hB c).setCell (p := ⟨g, 3, none⟩) hB d).setCell (p := ⟨g, 4, none⟩) hB e).setCell (p := ⟨g, 5, none⟩) hB f).setCell (p := ⟨g, 6, none⟩) hB i
abbrev pcW (p : Pc) : Array Value := #[.int .i64 p.a.lo, .int .i64 p.a.hi, .int .i64 p.a.pl, .int .i64 p.b.lo, .int .i64 p.b.hi, .int .i64 p.b.pl, .bool p.loose]
theorem pl_bounds {c : Cyl} (h : checkCyl c = 0) {p : Pc} (hp : p ∈ c.pcs) : (0 ≤ p.a.pl ∧ p.a.pl ≤ 100000) ∧ (0 ≤ p.b.pl ∧ p.b.pl ≤ 100000) := by
  obtain ⟨h1, h2⟩ := (cyl_bounds h).2.2.2 p hp
  unfold okE at h1 h2
  simp only [Bool.and_eq_true, decide_eq_true_eq] at h1 h2
  exact ⟨⟨h1.1.2, h1.2⟩, ⟨h2.1.2, h2.2⟩⟩

set_option maxRecDepth 100000 in
set_option maxHeartbeats 6400000 in
theorem renamed_ok (v : Value) (c : Cyl) (bby add number : Int) (w : World) (hv : CylV w w.heap.size v c) (g1 : (Lit.int .u8 bby).wf = true) (g2 : (Lit.int .u16 add).wf = true) (g3 : (Lit.int .u32 number).wf = true) :
    Calls Try.prog 11 #[v, .int .u8 bby, .int .u16 add, .int .u32 number] w fun r w' => r = .returned (.bool true) ∧ Below w.heap.size w w' := by
  obtain ⟨num, rfl, ho⟩ := u32_nat g3
  obtain ⟨by', rfl, hb8⟩ := u8_nat g1
  obtain ⟨ad, rfl, ha16⟩ := u16_nat g2
  have HO := Lib.hid ho
  have HB8 := Lib.hid hb8
  have HA16 := Lib.hid ha16
  clear g1 g2 g3 ho hb8 ha16
  obtain ⟨pa, pc, rfl, hp⟩ := hv.open_
  have hC := CB.new hp
  have hB := (Below.refl w.heap.size w).alloc (Nat.le_refl _) (.cells #[.slice pa c.pcs.length pc, .int .i64 c.off, .int .i64 c.slo, .int .i64 c.shi] 26)
  go_enter Try.func11, Try.ntmps11
  go_upto_region 1 with (fail)
  have HWS : Hid ((w.alloc (.cells #[.slice pa c.pcs.length pc, .int .i64 c.off, .int .i64 c.slo, .int .i64 c.shi] 26)).heap.size = w.heap.size + 1) := by simp [Hid]
  generalize hW : w.alloc (.cells #[.slice pa c.pcs.length pc, .int .i64 c.off, .int .i64 c.slo, .int .i64 c.shi] 26) = W at *
  clear hW hp
  clear hv HWS
  obtain ⟨k0, k1, k2, k3⟩ := hC.c4
  go_wp2_with fail
  refine (fine_ok _ c W hC.cyl).mono ?_
  rintro e w1 hp
  clear k0 k1 k2 k3
  obtain ⟨rfl, hb⟩ := hp
  replace hC := hC.call hb
  replace hB := hB.trans ((hb).mono hB.size)
  clear hb
  by_cases h0 : checkCyl c = 0
  · have d1 : decide (checkCyl c = 0) = true := by simpa using h0
    have HG := Lib.hid (good_len h0)
    have HK : Hid (((c.pcs.length : Int) == 0) = false) := beq_false_of_ne (by have := HG.out; omega)
    obtain ⟨k0, k1, k2, k3⟩ := hC.c4
    go_upto_region 5 with (fail)
    have hI : WI (w1.alloc (.cells #[.slice none 0 0, .int .i64 c.off, .int .i64 c.slo, .int .i64 c.shi] 26)) w.heap.size w1.heap.size c pa pc c.off c.slo c.shi [] none 0 (w1.alloc (.cells #[.slice none 0 0, .int .i64 c.off, .int .i64 c.slo, .int .i64 c.shi] 26)) :=
      ⟨hC.alloc _, Blk.new _ _ _, by simpa using World.ownsRow_nil _ _ _ _, World.grownBy.refl _ _, hC.blk.lt, (Blk.new _ _ _).lt⟩
    have hb5 := (Below.refl w1.heap.size w1).alloc (Nat.le_refl _) (.cells #[.slice none 0 0, .int .i64 c.off, .int .i64 c.slo, .int .i64 c.shi] 26)
    replace hB := hB.trans (hb5.mono hB.size)
    have hg1 : w.heap.size < w1.heap.size := hC.blk.lt
    clear hC k0 k1 k2 k3 hb5
    generalize w1.alloc (.cells #[.slice none 0 0, .int .i64 c.off, .int .i64 c.slo, .int .i64 c.shi] 26) = wc at *
    generalize w1.heap.size = g1 at *
    go_wp2
    go_loopw [11] (fun i wr => ∃ (k : Nat) (A : Option Addr) (cap : Nat), k ≤ c.pcs.length ∧ i = .int .i64 k ∧ WI wc w.heap.size g1 c pa pc c.off c.slo c.shi (((List.range c.pcs.length).take k).map (renAt c by' ad)) A cap wr) (fun i _ => c.pcs.length - (intOf i).toNat)
    case atStart => exact ⟨0, none, 0, Nat.zero_le _, rfl, hI⟩
    case round =>
      obtain ⟨k, A, cap, hk, rfl, hIr⟩ := hrel
      by_cases hk1 : k < c.pcs.length
      · have d3 : decide (k < c.pcs.length) = true := by simpa using hk1
        have d3' : decide ((k : Int) < (c.pcs.length : Int)) = true := by simp; omega
        have ek : IntKind.i64.wrap ((k : Int) + 1) = ((k + 1 : Nat) : Int) := by have := HG.out; rw [IntKind.wrap_i64]; omega
        obtain ⟨q, hq⟩ : ∃ q, q = (k + by') % c.pcs.length := ⟨_, rfl⟩
        have hql : q < c.pcs.length := by rw [hq]; exact Nat.mod_lt _ (by omega)
        have hqi : (q : Int) < (c.pcs.length : Int) := by omega
        have c1 : IntKind.i64.wrap (by' : Int) = by' := wrap_id _ (by omega) (by have := HB8.out; omega)
        have c2 : IntKind.i64.wrap ((k : Int) + (by' : Int)) = (k : Int) + (by' : Int) := wrap_id _ (by omega) (by have := HB8.out; have := HG.out; omega)
        have m1 : ((k : Int) + (by' : Int)).tmod (c.pcs.length : Int) = (q : Int) := by rw [hq]; rfl
        have c3 : IntKind.i64.wrap (q : Int) = q := wrap_id _ (by omega) (by have := HG.out; omega)
        have nz := HK.out
        obtain ⟨b, off, p, hpa, hpb, hp1, p0, p1, p2, p3, p4, p5, p6⟩ := piece_at hIr.cb.ps hql
        subst hpa
        have hpq : pcAt c (((k + by') % c.pcs.length : Nat) : Int) = p := by
          rw [← hq]
          unfold pcAt
          rw [Int.toNat_natCast, hp1]; rfl
        have hbnd := pl_bounds h0 (List.mem_of_getElem? hp1)
        have HTK : Hid (((List.range c.pcs.length).take (k + 1)).map (renAt c by' ad) = ((List.range c.pcs.length).take k).map (renAt c by' ad) ++ [shP ad p]) := by
          rw [Hid, take_map_step2 (renAt c by' ad) (List.getElem?_range hk1)]
          unfold renAt
          rw [hpq]
        have hL8 : Hid ((((List.range c.pcs.length).take k).map (renAt c by' ad)).length ≤ 8) := by
          have := HG.out
          rw [Hid, List.length_map, List.length_take, List.length_range]
          omega
        obtain ⟨wo, hwo⟩ : ∃ wo : World, wo = wr := ⟨_, rfl⟩
        rw [← hwo] at hIr p0 p1 p2 p3 p4 p5 p6 ⊢
        clear hwo wr
        obtain ⟨k0, k1, k2, k3⟩ := hIr.cb.c4
        have f0 := Ext.of k0
        have f1 := Ext.of p0
        have f2 := Ext.of p1
        have f3 := Ext.of p2
        have f4 := Ext.of p3
        have f5 := Ext.of p4
        have f6 := Ext.of p5
        have f7 := Ext.of p6
        generalize ((List.range c.pcs.length).take k).map (renAt c by' ad) = L at *
        clear hp1 hpq hq k0 k1 k2 k3 p0 p1 p2 p3 p4 p5 p6 hpb
        go_upto_region 8 with (fail)
        refine wp_region_schedH (C := fun w' => ∃ x : Ext wo, w' = x.w) [(0, true), (1, true), (2, true), (3, true), (4, true), (5, true), (6, true), (7, true), (8, true), (9, true), (10, false), (11, false)] (by kernel_rfl) (by kernel_rfl) ⟨⟨wo.drew, (Below.refl _ wo).drew⟩, rfl⟩ ?_
        refine schedH_q (by rfl) (by rfl) ?_
        intro K hK
        go_big_quiet_op
        go_big_quiet_on
        refine schedH_q (by rfl) (by rfl) ?_
        intro K hK
        go_big_quiet_op
        go_big_quiet_on
        refine schedH_q (by rfl) (by rfl) ?_
        intro K hK
        go_big_quiet_op
        go_big_quiet_on
        refine schedH_q (by rfl) (by rfl) ?_
        intro K hK
        go_big_quiet_op
        go_big_quiet_on
        refine schedH_q (by rfl) (by rfl) ?_
        intro K hK
        go_big_quiet_op
        go_big_quiet_on
        refine schedH_q (by rfl) (by rfl) ?_
        intro K hK
        go_big_quiet_op
        go_big_quiet_on
        refine schedH_q (by rfl) (by rfl) ?_
        intro K hK
        go_big_quiet_op
        go_big_quiet_on
        refine schedH_q (by rfl) (by rfl) ?_
        intro K hK
        go_big_quiet_op
        go_big_quiet_on
        refine schedH_q (by rfl) (by rfl) ?_
        intro K hK
        go_big_quiet_op
        go_big_quiet_on
        refine schedH_q (by rfl) (by rfl) ?_
        intro K hK
        go_big_quiet_op
        go_big_quiet_on
        refine schedH_c (by rfl) (by rfl) ?_
        intro K' hK'
        have hX := (Blk.new wo 62 #[.int .i64 0, .int .i64 0, .int .i64 0, .int .i64 0, .int .i64 0, .int .i64 0, .bool false]).drew
        have hx := ((Below.refl wo.heap.size wo).alloc (Nat.le_refl _) (.cells #[.int .i64 0, .int .i64 0, .int .i64 0, .int .i64 0, .int .i64 0, .int .i64 0, .bool false] 62)).drew
        go_wp2
        generalize (wo.alloc (.cells #[.int .i64 0, .int .i64 0, .int .i64 0, .int .i64 0, .int .i64 0, .int .i64 0, .bool false] 62)).drew = v1 at *
        refine hK' _ _ ⟨⟨⟨v1, hx⟩, rfl⟩, ?_⟩
        clear hK' K'
        have z0 := hX.cell 0
        have z1 := hX.cell 1
        have z2 := hX.cell 2
        have z3 := hX.cell 3
        have z4 := hX.cell 4
        have z5 := hX.cell 5
        have z6 := hX.cell 6
        have zf := fun i => hX.frozen i
        simp at z0 z1 z2 z3 z4 z5 z6
        have hX7 := hX.put7 (.int .i64 p.a.lo) (.int .i64 p.a.hi) (.int .i64 p.a.pl) (.int .i64 p.b.lo) (.int .i64 p.b.hi) (.int .i64 p.b.pl) (.bool p.loose)
        have hx7 := below_put7 hx (Nat.le_refl _) (.int .i64 p.a.lo) (.int .i64 p.a.hi) (.int .i64 p.a.pl) (.int .i64 p.b.lo) (.int .i64 p.b.hi) (.int .i64 p.b.pl) (.bool p.loose)
        refine schedH_c (by rfl) (by rfl) ?_
        intro K' hK'
        go_wp2
        refine hK' _ _ ⟨⟨⟨_, hx7⟩, rfl⟩, ?_⟩
        clear hK' K'
        refine schedH_nil ?_
        clear f0 f1 f2 f3 f4 f5 f6 f7 z0 z1 z2 z3 z4 z5 z6 zf hX hx c1 c2 c3 m1 nz
        generalize (((((((v1.setCell ⟨wo.heap.size, 0, none⟩ (.int .i64 p.a.lo)).setCell ⟨wo.heap.size, 1, none⟩ (.int .i64 p.a.hi)).setCell ⟨wo.heap.size, 2, none⟩ (.int .i64 p.a.pl)).setCell ⟨wo.heap.size, 3, none⟩ (.int .i64 p.b.lo)).setCell ⟨wo.heap.size, 4, none⟩ (.int .i64 p.b.hi)).setCell ⟨wo.heap.size, 5, none⟩ (.int .i64 p.b.pl)).setCell ⟨wo.heap.size, 6, none⟩ (.bool p.loose)) = v2 at *
        clear v1
        have ca : IntKind.i64.wrap (ad : Int) = ad := wrap_id _ (by omega) (by have := HA16.out; omega)
        have cx : IntKind.i64.wrap (p.a.pl + (ad : Int)) = p.a.pl + ad := wrap_id _ (by omega) (by have := HA16.out; omega)
        have cy : IntKind.i64.wrap (p.b.pl + (ad : Int)) = p.b.pl + ad := wrap_id _ (by omega) (by have := HA16.out; omega)
        have hcap := own_cap hIr.own
        clear hbnd
        go_wp2
        go_loopw [13] (fun m wr => ((m = .int .i64 0 ∧ Blk wr wo.heap.size 62 #[.int .i64 p.a.lo, .int .i64 p.a.hi, .int .i64 p.a.pl, .int .i64 p.b.lo, .int .i64 p.b.hi, .int .i64 p.b.pl, .bool p.loose]) ∨ (m = .int .i64 1 ∧ Blk wr wo.heap.size 62 #[.int .i64 p.a.lo, .int .i64 p.a.hi, .int .i64 (p.a.pl + ad), .int .i64 p.b.lo, .int .i64 p.b.hi, .int .i64 p.b.pl, .bool p.loose]) ∨ (m = .int .i64 2 ∧ Blk wr wo.heap.size 62 #[.int .i64 p.a.lo, .int .i64 p.a.hi, .int .i64 (p.a.pl + ad), .int .i64 p.b.lo, .int .i64 p.b.hi, .int .i64 (p.b.pl + ad), .bool p.loose])) ∧ Below wo.heap.size wo wr) (fun m _ => (2 - intOf m).toNat)
        case atStart => exact ⟨.inl ⟨rfl, hX7⟩, hx7⟩
        case round =>
          obtain ⟨⟨rfl, hXr⟩ | ⟨rfl, hXr⟩ | ⟨rfl, hXr⟩, hbr⟩ := hrel
          · have hset := hXr.set_ 2 (.int .i64 (p.a.pl + ad))
            have hbs := hbr.setCell (p := ⟨wo.heap.size, 2, none⟩) (Nat.le_refl _) (.int .i64 (p.a.pl + ad))
            have s0 := hXr.cell 0
            have s1 := hXr.cell 1
            have s2 := hXr.cell 2
            have s3 := hXr.cell 3
            have s4 := hXr.cell 4
            have s5 := hXr.cell 5
            have s6 := hXr.cell 6
            have sf := fun i => hXr.frozen i
            simp at s0 s1 s2 s3 s4 s5 s6
            go_wp2
            go_roundw
            case rel => exact ⟨.inr (.inl ⟨by go_num, by simpa using hset⟩), hbs⟩
            case measure => (simp [intOf]; try omega)
          · have hset := hXr.set_ 5 (.int .i64 (p.b.pl + ad))
            have hbs := hbr.setCell (p := ⟨wo.heap.size, 5, none⟩) (Nat.le_refl _) (.int .i64 (p.b.pl + ad))
            have s0 := hXr.cell 0
            have s1 := hXr.cell 1
            have s2 := hXr.cell 2
            have s3 := hXr.cell 3
            have s4 := hXr.cell 4
            have s5 := hXr.cell 5
            have s6 := hXr.cell 6
            have sf := fun i => hXr.frozen i
            simp at s0 s1 s2 s3 s4 s5 s6
            go_wp2
            go_roundw
            case rel => exact ⟨.inr (.inr ⟨by go_num, by simpa using hset⟩), hbs⟩
            case measure => (simp [intOf]; try omega)
          · have hI7 := hIr.call hbr
            have s0 := hXr.cell 0
            have s1 := hXr.cell 1
            have s2 := hXr.cell 2
            have s3 := hXr.cell 3
            have s4 := hXr.cell 4
            have s5 := hXr.cell 5
            have s6 := hXr.cell 6
            have sf := fun i => hXr.frozen i
            simp at s0 s1 s2 s3 s4 s5 s6
            have fx := hI7.fx
            clear hIr hbr ca cx cy
            go_wp2_with (at_builtin; refine wpList_app1 slT_pc rfl (.tmp 65) (.tmp 67) rfl (A := A) (cc := cap) rfl ⟨cap, hI7.own, .inl rfl⟩ rfl rfl one_pc hI7.gr.size ?_ ?_ ?_)
            any_goals (have := hL8.out; omega)
            intro v4 w4 hown4 hb4 hkeep
            obtain ⟨A4, cap4, rfl, fx4, fz4, hI4⟩ := hI7.app (y := shP ad p) hb4 hown4
            rw [← HTK.out] at hI4
            clear hkeep hown4 hb4 fx s0 s1 s2 s3 s4 s5 s6 sf hXr hI7 hcap
            go_wp2
            go_roundw
            case rel => exact ⟨k + 1, A4, cap4, by omega, by go_num, hI4⟩
            case measure => (simp [intOf]; try omega)
      · obtain rfl : k = c.pcs.length := by omega
        have d3 : decide (c.pcs.length < c.pcs.length) = false := by simp
        rw [List.take_of_length_le (by simp)] at hIr
        obtain ⟨wd, hwd⟩ : ∃ wd : World, wd = wr := ⟨_, rfl⟩
        rw [← hwd] at hIr ⊢
        clear hwd hk hk1 wr
        have hC := hIr.cb
        have hW : WB wd g1 (.slice A ((List.range c.pcs.length).map (renAt c by' ad)).length cap) (ren c by' ad) := hIr.wb
        replace hB := hB.grown hIr.gr hB.size (fun k hk => by injection hk; omega)
        generalize (Value.slice A ((List.range c.pcs.length).map (renAt c by' ad)).length cap) = pv at *
        clear hI hIr
        obtain ⟨m0, m1, m2, m3⟩ := hW.c4
        go_wp2_with fail
        refine (fine_ok _ (ren c by' ad) wd hW.cv).mono ?_
        rintro e w2 ⟨rfl, hb⟩
        clear m0 m1 m2 m3
        replace hC := hC.call hb
        replace hW := hW.call hb
        replace hB := hB.trans ((hb).mono hB.size)
        clear hb d3
        by_cases h0r : checkCyl (ren c by' ad) = 0
        · have d2 : decide (checkCyl (ren c by' ad) = 0) = true := by simpa using h0r
          obtain ⟨n, hn⟩ : ∃ n, n = (joinsS c).length := ⟨_, rfl⟩
          have HNN := Lib.hid hn
          have HN32 : Hid (n ≤ 4294967296) := by rw [Hid, hn]; exact joins_i64 (good_len h0).2
          have hcnt : countM c = ((n : Int), 0) := by rw [countM_good h0, hn]
          have hcnt2 : countM (ren c by' ad) = ((n : Int), 0) := by rw [countM_good h0r, joins_ren_len _ _ _ HG.out.1, hn]
          have hn0 : ¬ ((n : Int) < 0) := by omega
          clear hn
          obtain ⟨k0, k1, k2, k3⟩ := hC.c4
          obtain ⟨m0, m1, m2, m3⟩ := hW.c4
          go_wp2_with fail
          refine (count_ok _ c w2 hC.cyl).mono ?_
          rintro e w3 hp
          clear k0 k1 k2 k3 m0 m1 m2 m3
          rw [hcnt] at hp
          obtain ⟨rfl, hb⟩ := hp
          replace hC := hC.call hb
          replace hW := hW.call hb
          replace hB := hB.trans ((hb).mono hB.size)
          clear hb hcnt
          obtain ⟨k0, k1, k2, k3⟩ := hC.c4
          obtain ⟨m0, m1, m2, m3⟩ := hW.c4
          go_wp2_with fail
          refine (count_ok _ (ren c by' ad) w3 hW.cv).mono ?_
          rintro e w4 hp
          clear k0 k1 k2 k3 m0 m1 m2 m3
          rw [hcnt2] at hp
          obtain ⟨rfl, hb⟩ := hp
          replace hC := hC.call hb
          replace hW := hW.call hb
          replace hB := hB.trans ((hb).mono hB.size)
          clear hb hcnt2
          have n1 : ((n : Int) != n) = false := by simp
          by_cases hz : n = 0
          · have d4 : ((n : Int) == 0) = true := by simp; omega
            clear hz
            go_wp2_with fail
            refine (works_ok w4).mono ?_
            rintro e wy ⟨rfl, hb⟩
            replace hB := hB.trans (hb.mono hB.size)
            clear hb
            go_wp2
            go_ret
            exact ⟨rfl, hB⟩
          · have d4 : ((n : Int) == 0) = false := beq_false_of_ne (by omega)
            have HZ := Lib.hid hz
            clear hz
            obtain ⟨A2, hA⟩ : ∃ A2, A2 = num % n := ⟨_, rfl⟩
            have hA1 : A2 < n := by rw [hA]; exact Nat.mod_lt _ (by have := HZ.out; omega)
            obtain ⟨l, hl⟩ : ∃ l, (joinsS (ren c by' ad))[A2]? = some l := ⟨_, List.getElem?_eq_getElem (by rw [joins_ren_len _ _ _ HG.out.1]; have := HNN.out; omega)⟩
            have c1 : IntKind.i64.wrap (num : Int) = num := wrap_id _ (by omega) (by have := HO.out; omega)
            have m1 : (num : Int).tmod (n : Int) = (A2 : Int) := by rw [hA]; rfl
            have c3 : IntKind.i64.wrap (A2 : Int) = A2 := wrap_id _ (by omega) (by have := HN32.out; omega)
            clear hA
            obtain ⟨k0, k1, k2, k3⟩ := hW.c4
            have f0 := Ext.of k0
            have f1 := Ext.of k1
            have f2 := Ext.of k2
            have f3 := Ext.of k3
            clear k0 k1 k2 k3
            go_upto_region 22 with (fail)
            refine wp_region_schedH (C := fun w' => ∃ x : Ext w4, w' = x.w) [(0, true), (1, true), (2, true), (3, true), (4, false), (5, false), (6, true), (7, true), (8, true), (9, true), (10, true)] (by kernel_rfl) (by kernel_rfl) ⟨⟨w4.drew, (Below.refl _ w4).drew⟩, rfl⟩ ?_
            refine schedH_q (by rfl) (by rfl) ?_
            intro K hK
            go_big_quiet_op
            go_big_quiet_on
            refine schedH_q (by rfl) (by rfl) ?_
            intro K hK
            go_big_quiet_op
            go_big_quiet_on
            refine schedH_q (by rfl) (by rfl) ?_
            intro K hK
            go_big_quiet_op
            go_big_quiet_on
            refine schedH_q (by rfl) (by rfl) ?_
            intro K hK
            go_big_quiet_op
            go_big_quiet_on
            refine schedH_c (by rfl) (by rfl) ?_
            intro K' hK'
            have hx : Below w4.heap.size w4 w4.drew := (Below.refl _ w4).drew
            go_wp2
            refine hK' _ _ ⟨⟨⟨w4.drew, hx⟩, rfl⟩, ?_⟩
            clear hK' K'
            refine schedH_c (by rfl) (by rfl) ?_
            intro K' hK'
            have hWx := hW.call hx
            go_wp2_with fail
            refine (nthP_ok _ (ren c by' ad) A2 w4.drew hWx.cv).mono ?_
            rintro e w5 hp
            obtain ⟨lA, lc, rfl, hL, hb⟩ := hp.at_ (nthM_good h0r hl)
            replace hx := hx.trans (hb.mono hx.size)
            go_wp2
            refine hK' _ _ ⟨⟨⟨w5, hx⟩, rfl⟩, ?_⟩
            clear hK' K'
            clear hb hp hWx
            refine schedH_q (by rfl) (by rfl) ?_
            intro K hK
            go_big_quiet_op
            go_big_quiet_on
            refine schedH_q (by rfl) (by rfl) ?_
            intro K hK
            go_big_quiet_op
            go_big_quiet_on
            refine schedH_q (by rfl) (by rfl) ?_
            intro K hK
            go_big_quiet_op
            go_big_quiet_on
            refine schedH_q (by rfl) (by rfl) ?_
            intro K hK
            go_big_quiet_op
            go_big_quiet_on
            refine schedH_q (by rfl) (by rfl) ?_
            intro K hK
            go_big_quiet_op
            go_big_quiet_on
            refine schedH_nil ?_
            clear f0 f1 f2 f3 c1 m1 c3 n1
            replace hC := hC.call hx
            replace hW := hW.call hx
            replace hB := hB.trans ((hx).mono hB.size)
            clear hx
            have hlJ := List.mem_of_getElem? hl
            have hgr := checkJoin_iff.2 ⟨h0r, mem_joinsS.1 hlJ⟩
            have hl8 : Hid (l.length ≤ 8) := by
              have := HG.out
              have := (mem_joinsS.1 hlJ).1
              rw [ren_len] at this
              rw [Hid]
              omega
            obtain ⟨rk, hrk⟩ : ∃ rk : Nat, (joinsS c)[rk]? = some (l.map (sg c.pcs.length by')) := by
              have := joins_ren_mem hlJ
              obtain ⟨i, hi, he⟩ := List.getElem_of_mem this
              exact ⟨i, by rw [List.getElem?_eq_getElem hi, he]⟩
            have hst : Hid (∀ s ∈ l, ∃ q : Nat, s.p = (q : Int) ∧ q < c.pcs.length) := fun s hs => by
              obtain ⟨q, g1, g2, -⟩ := isStep_nat.1 (joinsS_step hlJ hs)
              rw [ren_len] at g2
              exact ⟨q, g1, g2⟩
            have HRK := Lib.hid hrk
            have hcj := rcheckJoin_ok _ _ (ren c by' ad) l w5 hW.cv hL
            rw [hgr] at hcj
            clear hl hgr hrk
            obtain ⟨m0, m1, m2, m3⟩ := hW.c4
            go_wp2_with fail
            refine hcj.mono ?_
            rintro e w6 ⟨rfl, hb⟩
            replace hC := hC.call hb
            replace hL := (hL.below hb).more hb.size
            replace hB := hB.trans (hb.mono hB.size)
            clear hb hcj m0 m1 m2 m3 hW
            go_wp2
            go_loopw [19, 20] (fun x i wr => ∃ (m : Nat) (L : List St) (A2 : Option Addr) (cap2 : Nat), m ≤ l.length ∧ i = .int .i64 m ∧ Hid (L = (l.take m).map (sg c.pcs.length by')) ∧ x = .slice A2 L.length cap2 ∧
              wr.ownsRow w6.heap.size 28 2 (.slice A2 L.length cap2) L.length (L.flatMap (cellsOf 2 stcell)) ∧ Below w6.heap.size w6 wr) (fun _ i _ => l.length - (intOf i).toNat)
            case atStart => exact ⟨0, [], none, 0, Nat.zero_le _, rfl, rfl, rfl, by simpa using World.ownsRow_nil _ _ _ _, Below.refl _ _⟩
            case round =>
              obtain ⟨m, L, A3, cap3, hm, rfl, hLd, rfl, hown, hbr⟩ := hrel
              have hcap := own_cap hown
              by_cases hm1 : m < l.length
              · have d5 : decide (m < l.length) = true := by simpa using hm1
                have d5' : decide ((m : Int) < (l.length : Int)) = true := by simp; omega
                have hmi : (m : Int) < (l.length : Int) := by omega
                have em : IntKind.i64.wrap ((m : Int) + 1) = ((m + 1 : Nat) : Int) := by have := hl8.out; rw [IntKind.wrap_i64]; omega
                obtain ⟨xb, xo, x, hxa, hxb, hx1, hx2⟩ := hL.at_ hm1
                subst hxa
                obtain ⟨q, hxq, hql⟩ := hst.out x (List.mem_of_getElem? hx1)
                obtain ⟨r, hr⟩ : ∃ r, r = (q + by') % c.pcs.length := ⟨_, rfl⟩
                have hLn : Hid (L ++ [⟨(r : Int), x.t⟩] = (l.take (m + 1)).map (sg c.pcs.length by')) := by
                  rw [Hid, hLd.out, take_map_step2 _ hx1, sg_nat hxq, hr]
                have hLl : Hid (L.length ≤ 8) := by
                  rw [Hid, hLd.out, List.length_map, List.length_take]
                  have := hl8.out
                  omega
                have hrl : r < c.pcs.length := by rw [hr]; exact Nat.mod_lt _ (by omega)
                have f0 := Ext.of (hx2 0 (by omega))
                have f1 := Ext.of (hx2 1 (by omega))
                simp only [Nat.add_zero, stcell] at f0 f1
                obtain ⟨xp, xt⟩ := x
                simp only at hxq hLn f0 f1
                subst hxq
                have c1 : IntKind.i64.wrap (by' : Int) = by' := wrap_id _ (by omega) (by have := HB8.out; omega)
                have c2 : IntKind.i64.wrap ((q : Int) + (by' : Int)) = (q : Int) + (by' : Int) := wrap_id _ (by omega) (by have := HB8.out; have := HG.out; omega)
                have m1 : ((q : Int) + (by' : Int)).tmod (c.pcs.length : Int) = (r : Int) := by rw [hr]; rfl
                have c3 : IntKind.i64.wrap (r : Int) = r := wrap_id _ (by omega) (by have := HG.out; omega)
                have nz : ¬ c.pcs = [] := fun e => by rw [e] at hrl; simp at hrl
                clear hx1 hx2 hLd hr hrl hql
                go_upto_region 29 with (fail)
                refine wp_region_schedH (C := fun w' => ∃ x : Ext w6, w' = x.w) [(0, true), (1, true), (2, true), (3, true), (4, true), (5, true), (6, true), (7, true), (8, true), (9, true), (10, true), (11, true), (12, true), (13, true), (14, true), (15, true), (16, true), (17, false), (18, false), (19, true)] (by kernel_rfl) (by kernel_rfl) ⟨⟨wr.drew, hbr.drew⟩, rfl⟩ ?_
                refine schedH_q (by rfl) (by rfl) ?_
                intro K hK
                go_big_quiet_op
                go_big_quiet_on
                refine schedH_q (by rfl) (by rfl) ?_
                intro K hK
                go_big_quiet_op
                go_big_quiet_on
                refine schedH_q (by rfl) (by rfl) ?_
                intro K hK
                go_big_quiet_op
                go_big_quiet_on
                refine schedH_q (by rfl) (by rfl) ?_
                intro K hK
                go_big_quiet_op
                go_big_quiet_on
                refine schedH_q (by rfl) (by rfl) ?_
                intro K hK
                go_big_quiet_op
                go_big_quiet_on
                refine schedH_q (by rfl) (by rfl) ?_
                intro K hK
                go_big_quiet_op
                go_big_quiet_on
                refine schedH_q (by rfl) (by rfl) ?_
                intro K hK
                go_big_quiet_op
                go_big_quiet_on
                refine schedH_q (by rfl) (by rfl) ?_
                intro K hK
                go_big_quiet_op
                go_big_quiet_on
                refine schedH_q (by rfl) (by rfl) ?_
                intro K hK
                go_big_quiet_op
                go_big_quiet_on
                refine schedH_q (by rfl) (by rfl) ?_
                intro K hK
                go_big_quiet_op
                go_big_quiet_on
                refine schedH_q (by rfl) (by rfl) ?_
                intro K hK
                go_big_quiet_op
                go_big_quiet_on
                refine schedH_q (by rfl) (by rfl) ?_
                intro K hK
                go_big_quiet_op
                go_big_quiet_on
                refine schedH_q (by rfl) (by rfl) ?_
                intro K hK
                go_big_quiet_op
                go_big_quiet_on
                refine schedH_q (by rfl) (by rfl) ?_
                intro K hK
                go_big_quiet_op
                go_big_quiet_on
                refine schedH_q (by rfl) (by rfl) ?_
                intro K hK
                go_big_quiet_op
                go_big_quiet_on
                refine schedH_q (by rfl) (by rfl) ?_
                intro K hK
                go_big_quiet_op
                go_big_quiet_on
                refine schedH_q (by rfl) (by rfl) ?_
                intro K hK
                go_big_quiet_op
                go_big_quiet_on
                have hbg : Below w6.heap.size w6 wr.drew := hbr.drew
                have hown3 := own_call hown (Below.refl _ wr).drew
                clear hbr hown
                generalize wr.drew = wg at *
                refine schedH_c (by rfl) (by rfl) ?_
                intro K' hK'
                go_wp2
                refine hK' _ _ ⟨⟨⟨_, hbg.alloc hbg.size _⟩, rfl⟩, ?_⟩
                clear hK' K'
                refine schedH_c (by rfl) (by rfl) ?_
                intro K' hK'
                refine wpList_app1 slT_st rfl (.tmp 125) (.tmp 142) rfl (A := A3) (cc := cap3) rfl ⟨cap3, hown3, .inl rfl⟩ rfl rfl one_st hbg.size ?_ ?_ ?_
                any_goals (have := hLl.out; omega)
                intro v' w7 hown7 hb7 hkeep
                have hown5 := own_snoc (cell := stcell) (x := ⟨(r : Int), xt⟩) (vals := #[.int .i64 r, .bool xt]) rfl (by simp [cellsOf, List.range_succ, stcell]) hown7
                obtain ⟨A4, cap4, rfl⟩ := own_form hown5
                have hb5 := hbg.trans hb7
                clear hkeep hown7 hown3 hb7 hcap
                go_wp2
                refine hK' _ _ ⟨⟨⟨w7, hb5⟩, rfl⟩, ?_⟩
                clear hK' K'
                refine schedH_q (by rfl) (by rfl) ?_
                intro K hK
                go_big_quiet_op
                go_big_quiet_on
                refine schedH_nil ?_
                clear f0 f1 c1 c2 c3 m1 nz
                go_wp2
                go_roundw
                case rel => exact ⟨m + 1, _, A4, cap4, by omega, by go_num, hLn, by simp, hown5, hb5⟩
                case measure => (simp [intOf]; try omega)
              · obtain rfl : m = l.length := by omega
                have d5 : decide (l.length < l.length) = false := by simp
                have hLe : L = l.map (sg c.pcs.length by') := by rw [hLd.out, List.take_length]
                have hX := Arr.of_own hown
                have hrk := rankM_good h0 HRK.out
                rw [← hLe] at hrk
                have hrn : (rk : Int) < (n : Int) := by
                  have := (List.getElem?_eq_some_iff.1 HRK.out).1
                  have := HNN.out
                  omega
                obtain ⟨wk, hwk⟩ : ∃ wk : World, wk = wr := ⟨wr, rfl⟩
                rw [← hwk] at hX hbr ⊢
                replace hC := hC.call hbr
                replace hB := hB.trans (hbr.mono hB.size)
                clear hwk hbr hown hL hLd hcap hLe wr
                have hcj := rank_ok _ _ c L wk hC.cyl hX
                rw [hrk] at hcj
                have r1 : decide ((0 : Int) ≤ (rk : Int)) = true := by simp
                have r2 : decide ((rk : Int) < (n : Int)) = true := by simpa using hrn
                obtain ⟨k0, k1, k2, k3⟩ := hC.c4
                go_wp2_with fail
                refine hcj.mono ?_
                rintro e w7 ⟨rfl, hb⟩
                replace hB := hB.trans (hb.mono hB.size)
                clear hb hcj k0 k1 k2 k3 hC hX hrk
                go_wp2_with fail
                refine (works_ok w7).mono ?_
                rintro e w9 ⟨rfl, hb⟩
                replace hB := hB.trans (hb.mono hB.size)
                clear hb
                go_wp2
                go_ret
                exact ⟨rfl, hB⟩
        · have d2 : decide (checkCyl (ren c by' ad) = 0) = false := by simpa using h0r
          go_wp2_with fail
          refine (works_ok w2).mono ?_
          rintro e wy ⟨rfl, hb⟩
          replace hB := hB.trans (hb.mono hB.size)
          clear hb
          go_wp2
          go_ret
          exact ⟨rfl, hB⟩
  · have d1 : decide (checkCyl c = 0) = false := by simpa using h0
    go_wp2_with fail
    refine (works_ok w1).mono ?_
    rintro e w2 ⟨rfl, hb⟩
    replace hB := hB.trans (hb.mono hB.size)
    clear hb
    go_wp2
    go_ret
    exact ⟨rfl, hB⟩
end Go.Proofs.Ytjjjockfppomdaa
