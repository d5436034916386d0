/- Contract of the law JoinReversed: true. -/
import Derived.Test.YtjjjockfppomdaaGrw
import Derived.Test.YtjjjockfppomdaaRev
namespace Go.Proofs.Ytjjjockfppomdaa
open Go.RowKit Go.Shelf
set_option linter.unusedVariables false

theorem take_map_step {α β : Type} (f : α → β) {l : List α} {k : Nat} {x : α} (h : l[k]? = some x) : (l.take (k + 1)).map f = (l.take k).map f ++ [f x] := by
  rw [take_snoc h, List.map_append]; rfl

set_option maxRecDepth 100000 in
set_option maxHeartbeats 6400000 in
theorem reversed_ok (v : Value) (c : Cyl) (number : Int) (w : World) (hv : CylV w w.heap.size v c) (h1 : (Lit.int .u32 number).wf = true) :
    Calls Try.prog 10 #[v, .int .u32 number] w fun r w' => r = .returned (.bool true) ∧ Below w.heap.size w w' := by
  obtain ⟨num, rfl, ho⟩ := u32_nat h1
  have HO := Lib.hid ho
  clear h1 ho
  obtain ⟨pa, pc, rfl, hp⟩ := hv.open_
  have hC := CB.new hp
  have hB := (Below.refl w.heap.size w).alloc (Nat.le_refl _) (.cells #[.slice pa c.pcs.length pc, .int .i64 c.off, .int .i64 c.slo, .int .i64 c.shi] 26)
  go_enter Try.func10, Try.ntmps10
  go_upto_region 1 with (fail)
  have HWS : Hid ((w.alloc (.cells #[.slice pa c.pcs.length pc, .int .i64 c.off, .int .i64 c.slo, .int .i64 c.shi] 26)).heap.size = w.heap.size + 1) := by simp [Hid]
  generalize hW : w.alloc (.cells #[.slice pa c.pcs.length pc, .int .i64 c.off, .int .i64 c.slo, .int .i64 c.shi] 26) = W at *
  clear hW hp
  clear hv HWS
  obtain ⟨k0, k1, k2, k3⟩ := hC.c4
  go_wp2_with fail
  refine (fine_ok _ c W hC.cyl).mono ?_
  rintro e w1 hp
  clear k0 k1 k2 k3
  obtain ⟨rfl, hb⟩ := hp
  replace hC := hC.call hb
  replace hB := hB.trans ((hb).mono hB.size)
  clear hb
  by_cases h0 : checkCyl c = 0
  · have d1 : decide (checkCyl c = 0) = true := by simpa using h0
    have HG := Lib.hid (good_len h0)
    have hbd := cyl_bounds h0
    have e1 : IntKind.i64.wrap (-c.shi) = -c.shi := wrap_id _ (by omega) (by omega)
    have e2 : IntKind.i64.wrap (-c.slo) = -c.slo := wrap_id _ (by omega) (by omega)
    clear hbd
    obtain ⟨k0, k1, k2, k3⟩ := hC.c4
    go_upto_region 4 with (fail)
    have hI : WI (w1.alloc (.cells #[.slice none 0 0, .int .i64 c.off, .int .i64 (-c.shi), .int .i64 (-c.slo)] 26)) w.heap.size w1.heap.size c pa pc c.off (-c.shi) (-c.slo) [] none 0 (w1.alloc (.cells #[.slice none 0 0, .int .i64 c.off, .int .i64 (-c.shi), .int .i64 (-c.slo)] 26)) :=
      ⟨hC.alloc _, Blk.new _ _ _, by simpa using World.ownsRow_nil _ _ _ _, World.grownBy.refl _ _, hC.blk.lt, (Blk.new _ _ _).lt⟩
    have hb5 := (Below.refl w1.heap.size w1).alloc (Nat.le_refl _) (.cells #[.slice none 0 0, .int .i64 c.off, .int .i64 (-c.shi), .int .i64 (-c.slo)] 26)
    replace hB := hB.trans (hb5.mono hB.size)
    have hg1 : w.heap.size < w1.heap.size := hC.blk.lt
    clear hC k0 k1 k2 k3 hb5 e1 e2
    generalize w1.alloc (.cells #[.slice none 0 0, .int .i64 c.off, .int .i64 (-c.shi), .int .i64 (-c.slo)] 26) = wc at *
    generalize w1.heap.size = g1 at *
    obtain ⟨k0, k1, k2, k3⟩ := hI.cb.c4
    go_wp2
    go_loopw [6] (fun i wr => ∃ (k : Nat) (A : Option Addr) (cap : Nat), k ≤ c.pcs.length ∧ i = .int .i64 k ∧ WI wc w.heap.size g1 c pa pc c.off (-c.shi) (-c.slo) ((c.pcs.take k).map revP) A cap wr) (fun i _ => c.pcs.length - (intOf i).toNat)
    case atStart => exact ⟨0, none, 0, Nat.zero_le _, rfl, hI⟩
    case round =>
      obtain ⟨k, A, cap, hk, rfl, hIr⟩ := hrel
      clear k0 k1 k2 k3
      by_cases hk1 : k < c.pcs.length
      · have d3 : decide (k < c.pcs.length) = true := by simpa using hk1
        have d3' : decide ((k : Int) < (c.pcs.length : Int)) = true := by simp; omega
        have hki : (k : Int) < (c.pcs.length : Int) := by omega
        have ek : IntKind.i64.wrap ((k : Int) + 1) = ((k + 1 : Nat) : Int) := by have := HG.out; rw [IntKind.wrap_i64]; omega
        obtain ⟨b, off, p, hpa, hpb, hp1, c0, c1, c2, c3, c4, c5, c6⟩ := piece_at hIr.cb.ps hk1
        subst hpa
        have HTK := Lib.hid (take_map_step revP hp1)
        have hL8 : Hid (((c.pcs.take k).map revP).length ≤ 8) := by
          have := HG.out
          rw [Hid, List.length_map, List.length_take]
          omega
        obtain ⟨k0, k1, k2, k3⟩ := hIr.cb.c4
        generalize (c.pcs.take k).map revP = L at *
        have hcap := own_cap hIr.own
        clear hp1
        go_upto_region 8 with (fail)
        have hbA := (Below.refl wr.heap.size wr).alloc (Nat.le_refl _) (.cells #[.int .i64 p.a.lo, .int .i64 p.a.hi, .int .i64 p.a.pl, .int .i64 p.b.lo, .int .i64 p.b.hi, .int .i64 p.b.pl, .bool p.loose] 62)
        have hxs := Blk.new wr 62 #[.int .i64 p.a.lo, .int .i64 p.a.hi, .int .i64 p.a.pl, .int .i64 p.b.lo, .int .i64 p.b.hi, .int .i64 p.b.pl, .bool p.loose]
        have hI7 := hIr.call hbA
        clear k0 k1 k2 k3 c0 c1 c2 c3 c4 c5 c6 hbA hIr
        generalize wr.alloc (.cells #[.int .i64 p.a.lo, .int .i64 p.a.hi, .int .i64 p.a.pl, .int .i64 p.b.lo, .int .i64 p.b.hi, .int .i64 p.b.pl, .bool p.loose] 62) = wv at *
        generalize wr.heap.size = pb at *
        have s0 := hxs.cell 0
        have s1 := hxs.cell 1
        have s2 := hxs.cell 2
        have s3 := hxs.cell 3
        have s4 := hxs.cell 4
        have s5 := hxs.cell 5
        have s6 := hxs.cell 6
        simp at s0 s1 s2 s3 s4 s5 s6
        have fx := hI7.fx
        go_wp2_with (at_builtin; refine wpList_app1 slT_pc rfl (.tmp 51) (.tmp 62) rfl (A := A) (cc := cap) rfl ⟨cap, hI7.own, .inl rfl⟩ rfl rfl one_pc hI7.gr.size ?_ ?_ ?_)
        any_goals (have := hL8.out; omega)
        intro v4 w4 hown4 hb4 hkeep
        obtain ⟨A4, cap4, rfl, fx4, fz4, hI4⟩ := hI7.app (y := revP p) hb4 hown4
        rw [← HTK.out] at hI4
        clear hkeep hown4 hb4 fx s0 s1 s2 s3 s4 s5 s6 hxs hI7 hcap
        go_wp2
        go_roundw
        case rel => exact ⟨k + 1, A4, cap4, by omega, by go_num, hI4⟩
        case measure => (simp [intOf]; try omega)
      · obtain rfl : k = c.pcs.length := by omega
        have d3 : decide (c.pcs.length < c.pcs.length) = false := by simp
        rw [List.take_length] at hIr
        obtain ⟨wd, hwd⟩ : ∃ wd : World, wd = wr := ⟨_, rfl⟩
        rw [← hwd] at hIr ⊢
        clear hwd hk hk1 wr
        have hC := hIr.cb
        have hW : WB wd g1 (.slice A (c.pcs.map revP).length cap) (rev c) := hIr.wb
        replace hB := hB.grown hIr.gr hB.size (fun k hk => by injection hk; omega)
        generalize (Value.slice A (c.pcs.map revP).length cap) = pv at *
        clear hI hIr
        obtain ⟨n, hn⟩ : ∃ n, n = (joinsS c).length := ⟨_, rfl⟩
        have HNN := Lib.hid hn
        have HN32 : Hid (n ≤ 4294967296) := by rw [Hid, hn]; exact joins_i64 (good_len h0).2
        have hcnt : countM c = ((n : Int), 0) := by rw [countM_good h0, hn]
        have h0r : checkCyl (rev c) = 0 := by rw [checkCyl_rev]; exact h0
        have hcnt2 : countM (rev c) = ((n : Int), 0) := by rw [countM_good h0r, joins_rev_len, hn]
        have hn0 : ¬ ((n : Int) < 0) := by omega
        obtain ⟨P, Q, E, hp1, hp2, hpq, hp8, hpm⟩ := pass_rev h0
        have HPQ := Lib.hid hpq
        have HP8 := Lib.hid hp8
        have HPM := Lib.hid hpm
        have epq : (P.length : Int) = (Q.length : Int) := by omega
        clear hn hpq hp8 hpm
        obtain ⟨k0, k1, k2, k3⟩ := hC.c4
        obtain ⟨m0, m1, m2, m3⟩ := hW.c4
        go_wp2_with fail
        refine (count_ok _ c wd hC.cyl).mono ?_
        rintro e w2 hp
        clear k0 k1 k2 k3 m0 m1 m2 m3
        rw [hcnt] at hp
        obtain ⟨rfl, hb⟩ := hp
        replace hC := hC.call hb
        replace hW := hW.call hb
        replace hB := hB.trans ((hb).mono hB.size)
        clear hb hcnt
        obtain ⟨k0, k1, k2, k3⟩ := hC.c4
        obtain ⟨m0, m1, m2, m3⟩ := hW.c4
        go_wp2_with fail
        refine (count_ok _ (rev c) w2 hW.cv).mono ?_
        rintro e w3 hp
        clear k0 k1 k2 k3 m0 m1 m2 m3
        rw [hcnt2] at hp
        obtain ⟨rfl, hb⟩ := hp
        replace hC := hC.call hb
        replace hW := hW.call hb
        replace hB := hB.trans ((hb).mono hB.size)
        clear hb hcnt2
        obtain ⟨k0, k1, k2, k3⟩ := hC.c4
        obtain ⟨m0, m1, m2, m3⟩ := hW.c4
        go_wp2_with fail
        refine (passages_ok _ c w3 hC.cyl).mono ?_
        rintro e w4 hp
        clear k0 k1 k2 k3 m0 m1 m2 m3
        obtain ⟨pA, pq, rfl, hPA, hb⟩ := hp.at_ hp1
        replace hC := hC.call hb
        replace hW := hW.call hb
        replace hB := hB.trans ((hb).mono hB.size)
        clear hb hp hp1
        obtain ⟨k0, k1, k2, k3⟩ := hC.c4
        obtain ⟨m0, m1, m2, m3⟩ := hW.c4
        go_wp2_with fail
        refine (passages_ok _ (rev c) w4 hW.cv).mono ?_
        rintro e w5 hp
        clear k0 k1 k2 k3 m0 m1 m2 m3
        obtain ⟨qA, qq, rfl, hQA, hb⟩ := hp.at_ hp2
        replace hC := hC.call hb
        replace hW := hW.call hb
        replace hB := hB.trans ((hb).mono hB.size)
        replace hPA := (hPA.below hb).more hb.size
        clear hb hp hp2 d3
        have n1 : ((n : Int) != n) = false := by simp
        have n2 : ((E : Int) != E) = false := by simp
        have n3 : ((P.length : Int) != (Q.length : Int)) = false := by rw [epq]; simp
        clear epq
        go_wp2
        go_loopw [16] (fun i wr => ∃ k : Nat, k ≤ P.length ∧ i = .int .i64 k ∧ Below w5.heap.size w5 wr) (fun i _ => P.length - (intOf i).toNat)
        case atStart => exact ⟨0, Nat.zero_le _, rfl, Below.refl _ _⟩
        case round =>
          obtain ⟨k, hk, rfl, hbr⟩ := hrel
          by_cases hk1 : k < P.length
          · have d3 : decide (k < P.length) = true := by simpa using hk1
            have d3' : decide ((k : Int) < (P.length : Int)) = true := by simp; omega
            have hki : (k : Int) < (P.length : Int) := by omega
            have ek : IntKind.i64.wrap ((k : Int) + 1) = ((k + 1 : Nat) : Int) := by have := HP8.out; rw [IntKind.wrap_i64]; omega
            obtain ⟨pb, po, p, hpa, hpb, hp1, hp2⟩ := hPA.at_ hk1
            subst hpa
            have hmem := HPM.out p (List.mem_of_getElem? hp1)
            have c0 : wr.cell? ⟨pb, po + k * 4, none⟩ = some (.int .i64 p.1.p) := (hbr.cell (p := ⟨pb, po + k * 4, none⟩) hpb).trans (hp2 0 (by omega))
            have c1 : wr.cell? ⟨pb, po + k * 4 + 1, none⟩ = some (.bool p.1.t) := (hbr.cell (p := ⟨pb, po + k * 4 + 1, none⟩) hpb).trans (hp2 1 (by omega))
            have c2 : wr.cell? ⟨pb, po + k * 4 + 2, none⟩ = some (.int .i64 p.2.p) := (hbr.cell (p := ⟨pb, po + k * 4 + 2, none⟩) hpb).trans (hp2 2 (by omega))
            have c3 : wr.cell? ⟨pb, po + k * 4 + 3, none⟩ = some (.bool p.2.t) := (hbr.cell (p := ⟨pb, po + k * 4 + 3, none⟩) hpb).trans (hp2 3 (by omega))
            have HC := Lib.hid (And.intro c0 (And.intro c1 (And.intro c2 c3)))
            obtain ⟨⟨a, ta⟩, ⟨b, tb⟩⟩ := p
            have hfin : Hid ((Q.any fun x => decide (x = (⟨b, tb⟩, ⟨a, ta⟩))) = true) := by
              rw [Hid, List.any_eq_true]
              exact ⟨_, hmem, by simp⟩
            clear hmem hp1 hp2 c0 c1 c2 c3
            obtain ⟨wo, hwo⟩ : ∃ wo : World, wo = wr := ⟨_, rfl⟩
            rw [← hwo] at hbr HC ⊢
            clear hwo wr
            go_wp2
            go_loopw [17, 18] (fun f i wr => ∃ m : Nat, m ≤ Q.length ∧ i = .int .i64 m ∧ f = .bool ((Q.take m).any fun x => decide (x = (⟨b, tb⟩, ⟨a, ta⟩))) ∧ Below wo.heap.size wo wr) (fun _ i _ => Q.length - (intOf i).toNat)
            case atStart => exact ⟨0, Nat.zero_le _, rfl, rfl, Below.refl _ _⟩
            case round =>
              obtain ⟨m, hm, rfl, rfl, hbi⟩ := hrel
              by_cases hm1 : m < Q.length
              · have d4 : decide (m < Q.length) = true := by simpa using hm1
                have d4' : decide ((m : Int) < (Q.length : Int)) = true := by simp; omega
                have hmi : (m : Int) < (Q.length : Int) := by omega
                have em : IntKind.i64.wrap ((m : Int) + 1) = ((m + 1 : Nat) : Int) := by have := HP8.out; have := HPQ.out; rw [IntKind.wrap_i64]; omega
                obtain ⟨qb, qo, q, hqa, hqb, hq1, hq2⟩ := hQA.at_ hm1
                subst hqa
                have HNX : Hid (((Q.take (m + 1)).any fun x => decide (x = (⟨b, tb⟩, ⟨a, ta⟩))) = (((Q.take m).any fun x => decide (x = (⟨b, tb⟩, ⟨a, ta⟩))) || decide (q = (⟨b, tb⟩, ⟨a, ta⟩)))) := by
                  rw [Hid, take_snoc hq1, List.any_append]
                  simp
                have hbo := hbr.trans (hbi.mono hbr.size)
                have hs5 := hbr.size
                have f0 := Ext.of ((hbi.cell (p := ⟨pb, po + k * 4, none⟩) (by show pb < _; omega)).trans HC.out.1)
                have f1 := Ext.of ((hbi.cell (p := ⟨pb, po + k * 4 + 1, none⟩) (by show pb < _; omega)).trans HC.out.2.1)
                have f2 := Ext.of ((hbi.cell (p := ⟨pb, po + k * 4 + 2, none⟩) (by show pb < _; omega)).trans HC.out.2.2.1)
                have f3 := Ext.of ((hbi.cell (p := ⟨pb, po + k * 4 + 3, none⟩) (by show pb < _; omega)).trans HC.out.2.2.2)
                have f4 := Ext.of ((hbo.cell (p := ⟨qb, qo + m * 4, none⟩) hqb).trans (hq2 0 (by omega)))
                have f5 := Ext.of ((hbo.cell (p := ⟨qb, qo + m * 4 + 1, none⟩) hqb).trans (hq2 1 (by omega)))
                have f6 := Ext.of ((hbo.cell (p := ⟨qb, qo + m * 4 + 2, none⟩) hqb).trans (hq2 2 (by omega)))
                have f7 := Ext.of ((hbo.cell (p := ⟨qb, qo + m * 4 + 3, none⟩) hqb).trans (hq2 3 (by omega)))
                simp only [pcell] at f0 f1 f2 f3 f4 f5 f6 f7
                obtain ⟨⟨a', ta'⟩, ⟨b', tb'⟩⟩ := q
                have hq : ∀ w', (Op.equalIn 10000 57 (.agg #[.int .i64 a', .bool ta', .int .i64 b', .bool tb']) (.agg #[.int .i64 b, .bool tb, .int .i64 a, .bool ta])).run Try.prog w' = .ok (decide (((⟨a', ta'⟩, ⟨b', tb'⟩) : St × St) = (⟨b, tb⟩, ⟨a, ta⟩))) w' := fun w' => by
                  have := eq_jp (⟨a', ta'⟩, ⟨b', tb'⟩) (⟨b, tb⟩, ⟨a, ta⟩) w'
                  rw [eq_jp_iff] at this
                  exact this
                clear hq1 hq2 hbo hs5
                generalize decide (((⟨a', ta'⟩, ⟨b', tb'⟩) : St × St) = (⟨b, tb⟩, ⟨a, ta⟩)) = D at *
                generalize ((Q.take m).any fun x => decide (x = (⟨b, tb⟩, ⟨a, ta⟩))) = F at *
                cases F
                · go_upto_region 22 with (fail)
                  refine wp_region_ext (by kernel_rfl) (by kernel_rfl) ?_
                  repeat (go_big_quiet_step (fail))
                  refine wpQuiet_nil ?_
                  intro _ hw'
                  obtain ⟨xr, hw''⟩ := hw'
                  subst hw''
                  have hbz := hbi.trans (xr.h.mono hbi.size)
                  go_wp2
                  go_roundw
                  case rel => exact ⟨m + 1, by omega, by go_num, by rw [HNX.out]; rfl, hbz⟩
                  case measure => (simp [intOf]; try omega)
                · go_upto_region 22 with (fail)
                  refine wp_region_ext (by kernel_rfl) (by kernel_rfl) ?_
                  repeat (go_big_quiet_step (fail))
                  refine wpQuiet_nil ?_
                  intro _ hw'
                  obtain ⟨xr, hw''⟩ := hw'
                  subst hw''
                  have hbz := hbi.trans (xr.h.mono hbi.size)
                  go_wp2
                  go_roundw
                  case rel => exact ⟨m + 1, by omega, by go_num, by rw [HNX.out]; rfl, hbz⟩
                  case measure => (simp [intOf]; try omega)
              · obtain rfl : m = Q.length := by omega
                have d4 : decide (Q.length < Q.length) = false := by simp
                have hF1 : ((Q.take Q.length).any fun x => decide (x = (⟨b, tb⟩, ⟨a, ta⟩))) = true := by rw [List.take_length]; exact hfin.out
                rw [hF1]
                have hbz := hbr.trans (hbi.mono hbr.size)
                clear hF1 hbi
                go_wp2
                go_roundw
                case rel => exact ⟨k + 1, by omega, by go_num, hbz⟩
                case measure => (simp [intOf]; try omega)
          · obtain rfl : k = P.length := by omega
            have d3 : decide (P.length < P.length) = false := by simp
            obtain ⟨wv, hwv⟩ : ∃ wv : World, wv = wr := ⟨wr, rfl⟩
            rw [← hwv] at hbr ⊢
            replace hC := hC.call hbr
            replace hW := hW.call hbr
            replace hB := hB.trans (hbr.mono hB.size)
            clear hwv hbr hPA hQA hk hk1 HPQ HP8 HPM n1 n2 n3 wr
            by_cases hz : n = 0
            · have d4 : ((n : Int) == 0) = true := by simp; omega
              clear hz
              go_wp2_with fail
              refine (works_ok wv).mono ?_
              rintro e wy ⟨rfl, hb⟩
              replace hB := hB.trans (hb.mono hB.size)
              clear hb
              go_wp2
              go_ret
              exact ⟨rfl, hB⟩
            · have d4 : ((n : Int) == 0) = false := beq_false_of_ne (by omega)
              have HZ := Lib.hid hz
              clear hz
              obtain ⟨A, hA⟩ : ∃ A, A = num % n := ⟨_, rfl⟩
              have hA1 : A < n := by rw [hA]; exact Nat.mod_lt _ (by have := HZ.out; omega)
              obtain ⟨l, hl⟩ : ∃ l, (joinsS c)[A]? = some l := ⟨_, List.getElem?_eq_getElem (by have := HNN.out; omega)⟩
              have c1 : IntKind.i64.wrap (num : Int) = num := wrap_id _ (by omega) (by have := HO.out; omega)
              have m1 : (num : Int).tmod (n : Int) = (A : Int) := by rw [hA]; rfl
              have c3 : IntKind.i64.wrap (A : Int) = A := wrap_id _ (by omega) (by have := HN32.out; omega)
              clear hA
              obtain ⟨k0, k1, k2, k3⟩ := hC.c4
              have f0 := Ext.of k0
              have f1 := Ext.of k1
              have f2 := Ext.of k2
              have f3 := Ext.of k3
              clear k0 k1 k2 k3
              go_upto_region 27 with (fail)
              refine wp_region_schedH (C := fun w' => ∃ x : Ext wv, w' = x.w) [(0, true), (1, true), (2, true), (3, true), (4, false), (5, false), (6, true), (7, true), (8, true), (9, true), (10, true)] (by kernel_rfl) (by kernel_rfl) ⟨⟨wv.drew, (Below.refl _ wv).drew⟩, rfl⟩ ?_
              refine schedH_q (by rfl) (by rfl) ?_
              intro K hK
              go_big_quiet_op
              go_big_quiet_on
              refine schedH_q (by rfl) (by rfl) ?_
              intro K hK
              go_big_quiet_op
              go_big_quiet_on
              refine schedH_q (by rfl) (by rfl) ?_
              intro K hK
              go_big_quiet_op
              go_big_quiet_on
              refine schedH_q (by rfl) (by rfl) ?_
              intro K hK
              go_big_quiet_op
              go_big_quiet_on
              refine schedH_c (by rfl) (by rfl) ?_
              intro K' hK'
              have hx : Below wv.heap.size wv wv.drew := (Below.refl _ wv).drew
              go_wp2
              refine hK' _ _ ⟨⟨⟨wv.drew, hx⟩, rfl⟩, ?_⟩
              clear hK' K'
              refine schedH_c (by rfl) (by rfl) ?_
              intro K' hK'
              have hCx := hC.call hx
              go_wp2_with fail
              refine (nthP_ok _ c A wv.drew hCx.cyl).mono ?_
              rintro e w6 hp
              obtain ⟨lA, lc, rfl, hL, hb⟩ := hp.at_ (nthM_good h0 hl)
              replace hx := hx.trans (hb.mono hx.size)
              go_wp2
              refine hK' _ _ ⟨⟨⟨w6, hx⟩, rfl⟩, ?_⟩
              clear hK' K'
              clear hb hp hCx
              refine schedH_q (by rfl) (by rfl) ?_
              intro K hK
              go_big_quiet_op
              go_big_quiet_on
              refine schedH_q (by rfl) (by rfl) ?_
              intro K hK
              go_big_quiet_op
              go_big_quiet_on
              refine schedH_q (by rfl) (by rfl) ?_
              intro K hK
              go_big_quiet_op
              go_big_quiet_on
              refine schedH_q (by rfl) (by rfl) ?_
              intro K hK
              go_big_quiet_op
              go_big_quiet_on
              refine schedH_q (by rfl) (by rfl) ?_
              intro K hK
              go_big_quiet_op
              go_big_quiet_on
              refine schedH_nil ?_
              clear f0 f1 f2 f3 c1 m1 c3
              replace hW := hW.call hx
              replace hB := hB.trans (hx.mono hB.size)
              clear hx hC
              have hlr := joins_rev_mem (List.mem_of_getElem? hl)
              have hgr := checkJoin_iff.2 ⟨h0r, mem_joinsS.1 hlr⟩
              have hl8 : Hid (1 ≤ l.length ∧ l.length ≤ 8) := by
                have := HG.out
                have := (mem_joinsS.1 (List.mem_of_getElem? hl)).1
                rw [Hid]
                omega
              have el : IntKind.i64.wrap ((l.length : Int) - 1) = (l.length : Int) - 1 := wrap_id _ (by omega) (by have := hl8.out; omega)
              clear hl hlr
              go_wp2
              go_loopw [20, 21] (fun x i wr => ∃ (j : Int) (L : List St) (A2 : Option Addr) (cap2 : Nat), i = .int .i64 j ∧ -1 ≤ j ∧ j < l.length ∧ Hid (L = (l.drop (j + 1).toNat).reverse) ∧ x = .slice A2 L.length cap2 ∧
                wr.ownsRow w6.heap.size 28 2 (.slice A2 L.length cap2) L.length (L.flatMap (cellsOf 2 stcell)) ∧ Below w6.heap.size w6 wr) (fun _ i _ => (intOf i + 1).toNat)
              case atStart =>
                refine ⟨(l.length : Int) - 1, [], none, 0, rfl, by omega, by omega, ?_, rfl, by simpa using World.ownsRow_nil _ _ _ _, Below.refl _ _⟩
                rw [Hid, show ((l.length : Int) - 1 + 1).toNat = l.length by omega, List.drop_length]; rfl
              case round =>
                obtain ⟨j, L, A2, cap2, rfl, hj1, hj2, hLd, rfl, hown, hbr⟩ := hrel
                have hcap := own_cap hown
                by_cases hj : 0 ≤ j
                · obtain ⟨m, rfl⟩ := Int.eq_ofNat_of_zero_le hj
                  have d5 : decide ((0 : Int) ≤ (m : Int)) = true := by simp
                  have hml : m < l.length := by omega
                  have hmi : (m : Int) < (l.length : Int) := by omega
                  have em : IntKind.i64.wrap ((m : Int) - 1) = (m : Int) - 1 := wrap_id _ (by omega) (by have := hl8.out; omega)
                  obtain ⟨xb, xo, x, hxa, hxb, hx1, hx2⟩ := hL.at_ hml
                  subst hxa
                  have c0 := (hbr.cell (p := ⟨xb, xo + m * 2 + 0, none⟩) hxb).trans (hx2 0 (by omega))
                  have c1 := (hbr.cell (p := ⟨xb, xo + m * 2 + 1, none⟩) hxb).trans (hx2 1 (by omega))
                  simp only [Nat.add_zero, stcell] at c0 c1
                  have hLn : Hid (L ++ [x] = (l.drop ((m : Int) - 1 + 1).toNat).reverse) := by
                    have h1 := (List.getElem?_eq_some_iff.1 hx1).1
                    have h2 := (List.getElem?_eq_some_iff.1 hx1).2
                    rw [Hid, hLd.out, show ((m : Int) - 1 + 1).toNat = m by omega, show ((m : Int) + 1).toNat = m + 1 by omega, List.drop_eq_getElem_cons h1, List.reverse_cons, h2]
                  have hLl : Hid (L.length ≤ 8) := by
                    rw [Hid, hLd.out, List.length_reverse, List.length_drop]
                    have := hl8.out
                    omega
                  obtain ⟨xp, xt⟩ := x
                  clear hx1 hx2 hLd
                  go_wp2_with (at_builtin; refine wpList_app1 slT_st rfl (.tmp 164) (.tmp 169) rfl (A := A2) (cc := cap2) rfl ⟨cap2, hown, .inl rfl⟩ rfl rfl one_st hbr.size ?_ ?_ ?_)
                  any_goals (have := hLl.out; omega)
                  intro v' w4 hown4 hb4 hkeep
                  have hown5 := own_snoc (cell := stcell) (x := ⟨xp, xt⟩) (vals := #[.int .i64 xp, .bool xt]) rfl (by simp [cellsOf, List.range_succ, stcell]) hown4
                  obtain ⟨A4, cap4, rfl⟩ := own_form hown5
                  have hb5 := hbr.trans hb4
                  clear hkeep hown4 hown hb4 hcap c0 c1
                  go_wp2
                  go_roundw
                  case rel => exact ⟨(m : Int) - 1, _, A4, cap4, by go_num, by omega, by omega, hLn, rfl, hown5, hb5⟩
                  case measure => (simp [intOf]; try omega)
                · obtain rfl : j = -1 := by omega
                  have hLe : L = l.reverse := by rw [hLd.out]; rfl
                  have hX := Arr.of_own hown
                  subst hLe
                  obtain ⟨wk, hwk⟩ : ∃ wk : World, wk = wr := ⟨wr, rfl⟩
                  rw [← hwk] at hX hbr ⊢
                  replace hW := hW.call hbr
                  replace hB := hB.trans (hbr.mono hB.size)
                  clear hwk hbr hown hL hLd hcap wr
                  generalize l.reverse = lr at *
                  have hcj := checkJoin_ok _ _ (rev c) lr wk hW.cv hX
                  rw [hgr] at hcj
                  obtain ⟨m0, m1, m2, m3⟩ := hW.c4
                  go_wp2_with fail
                  refine hcj.mono ?_
                  rintro e w7 ⟨rfl, hb⟩
                  replace hW := hW.call hb
                  replace hX := (hX.below hb).more hb.size
                  replace hB := hB.trans (hb.mono hB.size)
                  clear hb hcj m0 m1 m2 m3
                  have hcj := rcheckJoin_ok _ _ (rev c) lr w7 hW.cv hX
                  rw [hgr] at hcj
                  obtain ⟨m0, m1, m2, m3⟩ := hW.c4
                  go_wp2_with fail
                  refine hcj.mono ?_
                  rintro e w8 ⟨rfl, hb⟩
                  replace hB := hB.trans (hb.mono hB.size)
                  clear hb hcj m0 m1 m2 m3 hW hX
                  go_wp2_with fail
                  refine (works_ok w8).mono ?_
                  rintro e w9 ⟨rfl, hb⟩
                  replace hB := hB.trans (hb.mono hB.size)
                  clear hb
                  go_wp2
                  go_ret
                  exact ⟨rfl, hB⟩
  · have d1 : decide (checkCyl c = 0) = false := by simpa using h0
    go_wp2_with fail
    refine (works_ok w1).mono ?_
    rintro e w2 ⟨rfl, hb⟩
    replace hB := hB.trans (hb.mono hB.size)
    clear hb
    go_wp2
    go_ret
    exact ⟨rfl, hB⟩
end Go.Proofs.Ytjjjockfppomdaa
