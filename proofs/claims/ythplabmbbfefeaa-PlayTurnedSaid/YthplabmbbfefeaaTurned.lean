/- The law PlayTurned: the walk. -/
import Derived.Test.YthplabmbbfefeaaGrow
import Derived.Test.YthplabmbbfefeaaLawC
import Derived.Test.YthplabmbbfefeaaBy
import Derived.Test.YthplabmbbfefeaaOpen
namespace Go.Proofs.Ythplabmbbfefeaa
open Go.RowKit Go.Shelf
set_option linter.unusedVariables false

set_option maxRecDepth 100000 in
set_option maxHeartbeats 3200000 in
theorem lturned_ok (v bv : Value) (c : Cyl) (bl : List (Fin 256 × Fin 256)) (w : World) (hv : CylV w w.heap.size v c) (hbl : Arr w w.heap.size 2 bv bl bycell) :
    Calls Try.prog 7 #[v, bv] w fun r w' => r = .returned (.bool true) ∧ Below w.heap.size w w' := by
  obtain ⟨ba, bc, rfl, hs'⟩ := id hbl
  clear hs'
  obtain ⟨fa, fc, pa, pc, rfl, hf, hp⟩ := hv.open_
  have hC := CB.new hf hp
  have hB := (Below.refl w.heap.size w).alloc (Nat.le_refl _) (.cells #[.int .i64 c.turns, .int .i64 c.long, .int .i64 c.plays, .slice fa c.frag.length fc, .slice pa c.pas.length pc] 25)
  go_enter Try.func7, Try.ntmps7
  go_upto_region 1 with (fail)
  generalize hW : w.alloc (.cells #[.int .i64 c.turns, .int .i64 c.long, .int .i64 c.plays, .slice fa c.frag.length fc, .slice pa c.pas.length pc] 25) = W at *
  clear hW hf hp
  obtain ⟨k0, k1, k2, k3, k4⟩ := hC.c5
  go_wp2_with fail
  refine (fine_ok _ c _ hC.cyl).mono ?_
  rintro e w1 ⟨rfl, hb1⟩
  replace hC := hC.call hb1
  replace hB := hB.trans ((hb1).mono hB.size)
  clear k0 k1 k2 k3 k4 hb1
  cases hg : fineB c
  · go_wp2_with fail
    refine (works_ok w1).mono ?_
    rintro e wz ⟨rfl, hbz⟩
    go_wp2
    go_ret
    exact ⟨rfl, hB.trans (hbz.mono hB.size)⟩
  · have h0 : checkCyl c = 0 := by
      unfold fineB at hg
      simp at hg
      exact hg.2
    have H0 := Lib.hid h0
    clear h0
    by_cases hl1 : 20 < bl.length
    · have d1 : decide (20 < bl.length) = true := by simpa using hl1
      have d1' : decide ((20 : Int) < (bl.length : Int)) = true := by simp; omega
      go_wp2_with fail
      refine (works_ok w1).mono ?_
      rintro e wz ⟨rfl, hbz⟩
      go_wp2
      go_ret
      exact ⟨rfl, hB.trans (hbz.mono hB.size)⟩
    · have d1 : decide (20 < bl.length) = false := by simpa using hl1
      have d1' : decide ((20 : Int) < (bl.length : Int)) = false := by simp; omega
      have hT30 : 1 ≤ c.turns ∧ c.turns ≤ 30 := by have := cyl_nat H0.out; omega
      have hfl : c.frag.length ≤ 40 := by
        unfold fineB greatB at hg
        simp at hg
        omega
      have hn12 : c.pas.length ≤ 12 := ((valid_iff c).1 H0.out).2.2.1
      have HFR : Hid (∀ x ∈ c.frag, -1 < x ∧ x < c.turns) := fragOk_after ((valid_iff c).1 H0.out).2.1
      have HPF := Lib.hid (pas_fit (pasOk_of H0.out))
      obtain ⟨lt, hlt⟩ : ∃ lt : Int, lt = c.turns - 1 := ⟨_, rfl⟩
      have HLT := Lib.hid hlt
      have hlt0 : 0 ≤ lt ∧ lt ≤ 29 := by omega
      have hlt1 : IntKind.i64.wrap (c.turns - 1) = lt := by rw [IntKind.wrap_i64]; omega
      have hfl1 : IntKind.i64.wrap ((c.frag.length : Int) - 1) = (c.frag.length : Int) - 1 := by rw [IntKind.wrap_i64]; omega
      clear hlt
      obtain ⟨k0, k1, k2, k3, k4⟩ := hC.c5
      go_upto_region 4 with (fail)
      have hI : TInv (w1.alloc (.cells #[.int .i64 c.turns, .int .i64 c.long, .int .i64 c.plays, .slice none 0 0, .slice none 0 0] 25)) w.heap.size w1.heap.size c fa fc pa pc c.turns c.long c.plays (.slice none 0 0) (.slice none 0 0) (w1.alloc (.cells #[.int .i64 c.turns, .int .i64 c.long, .int .i64 c.plays, .slice none 0 0, .slice none 0 0] 25)) :=
        ⟨hC.alloc _, Blk.new _ _ _, World.grownBy.refl _ _, hC.blk.lt, (Blk.new _ _ _).lt⟩
      have hb5 := (Below.refl w1.heap.size w1).alloc (Nat.le_refl _) (.cells #[.int .i64 c.turns, .int .i64 c.long, .int .i64 c.plays, .slice none 0 0, .slice none 0 0] 25)
      replace hB := hB.trans (hb5.mono hB.size)
      have hg1 : w.heap.size < w1.heap.size := hC.blk.lt
      clear hC k0 k1 k2 k3 k4 hb5
      generalize w1.alloc (.cells #[.int .i64 c.turns, .int .i64 c.long, .int .i64 c.plays, .slice none 0 0, .slice none 0 0] 25) = wc at *
      generalize w1.heap.size = g1 at *
      obtain ⟨k0, k1, k2, k3, k4⟩ := hI.cb.c5
      go_wp2_with fail
      go_loopw [7] (fun i wr => ∃ (k : Nat) (A : Option Addr) (cap : Nat), k ≤ c.frag.length ∧ i = .int .i64 ((k : Int) - 1) ∧ TInv wc w.heap.size g1 c fa fc pa pc c.turns c.long c.plays (.slice A (c.frag.length - k) cap) (.slice none 0 0) wr ∧
        wr.ownsRow wc.heap.size 3 1 (.slice A (c.frag.length - k) cap) (c.frag.length - k) ((backTo (fun x => lt - x) c.frag k).flatMap (cellsOf 1 icell))) (fun i _ => (intOf i + 1).toNat)
      case atStart => exact ⟨c.frag.length, none, 0, Nat.le_refl _, rfl, by rw [Nat.sub_self]; exact hI, by rw [Nat.sub_self, backTo_end]; simpa using World.ownsRow_nil _ _ _ _⟩
      case round =>
        obtain ⟨k, A, cap, hk, rfl, hIr, hown⟩ := hrel
        cases k with
        | zero =>
          have HLF := mirC_frag c HLT.out
          rw [Nat.sub_zero] at hIr hown
          rw [HLF] at hown
          obtain ⟨wd, hwd⟩ : ∃ wd : World, wd = wr := ⟨_, rfl⟩
          rw [← hwd]
          rw [← hwd] at hIr hown
          clear hwd HLF hk k0 k1 k2 k3 k4 wr
          replace hB := hB.grown hIr.gr hB.size (fun k hk => by injection hk; omega)
          have hxw := hIr.x
          have hId : TInv wd w.heap.size g1 c fa fc pa pc c.turns c.long c.plays (.slice A c.frag.length cap) (.slice none 0 0) wd := ⟨hIr.cb, hIr.x, World.grownBy.refl _ _, hIr.lo, hIr.x.lt⟩
          clear hIr
          obtain ⟨k0, k1, k2, k3, k4⟩ := hId.cb.c5
          go_wp2_with fail
          go_loopw [8] (fun i wr => ∃ (k : Nat) (A2 : Option Addr) (cap2 : Nat), k ≤ c.pas.length ∧ i = .int .i64 (k : Int) ∧ TInv wd w.heap.size g1 c fa fc pa pc c.turns c.long c.plays (.slice A c.frag.length cap) (.slice A2 k cap2) wr ∧
            wr.ownsRow wd.heap.size 49 3 (.slice A2 k cap2) k (((c.pas.take k).map (mirP lt)).flatMap (cellsOf 3 pcell))) (fun i _ => c.pas.length - (intOf i).toNat)
          case atStart => exact ⟨0, none, 0, Nat.zero_le _, rfl, hId, by simpa using World.ownsRow_nil _ _ _ _⟩
          case round =>
            obtain ⟨k, A2, cap2, hk, rfl, hIr, hown2⟩ := hrel
            by_cases hk1 : k < c.pas.length
            · have d3 : decide (k < c.pas.length) = true := by simpa using hk1
              have d3' : decide ((k : Int) < (c.pas.length : Int)) = true := by simp; omega
              have ek : IntKind.i64.wrap (k : Int) = k := by rw [IntKind.wrap_i64]; omega
              have ek1 : IntKind.i64.wrap ((k : Int) + 1) = ((k + 1 : Nat) : Int) := by rw [IntKind.wrap_i64]; omega
              obtain ⟨b, off, p, hpa, hpb, hp1, hp2⟩ := hIr.cb.ps.at_ hk1
              subst hpa
              have c0 := hp2 0 (by omega)
              have c1 := hp2 1 (by omega)
              have c2 := hp2 2 (by omega)
              simp only [Nat.add_zero, pcell] at c0 c1 c2
              have hpf := HPF.out p (List.mem_of_getElem? hp1)
              have HTK : Hid ((c.pas.take (k + 1)).map (mirP lt) = (c.pas.take k).map (mirP lt) ++ [mirP lt p]) := take_step _ hp1
              have x1 : IntKind.i64.wrap (lt - p.a) = lt - p.a := by rw [IntKind.wrap_i64]; omega
              have x2 : IntKind.i64.wrap (lt - p.b) = lt - p.b := by rw [IntKind.wrap_i64]; omega
              clear k0 k1 k2 k3 k4 hp1 hp2
              obtain ⟨k0, k1, k2, k3, k4⟩ := hIr.cb.c5
              have hcap := own_cap hown2
              go_upto_region 13 with (fail)
              have hbA := (Below.refl wr.heap.size wr).alloc (Nat.le_refl _) (.cells #[.int .i64 p.a, .int .i64 p.b, .int .i64 p.w] 49)
              have hxs := Blk.new wr 49 #[.int .i64 p.a, .int .i64 p.b, .int .i64 p.w]
              have hI7 := hIr.call hbA
              have hown7 := own_call hown2 hbA
              have hne := own_ne hown2 (Nat.le_refl _)
              clear k0 k1 k2 k3 k4 c0 c1 c2 hbA
              generalize wr.alloc (.cells #[.int .i64 p.a, .int .i64 p.b, .int .i64 p.w] 49) = wv at *
              generalize wr.heap.size = pb at *
              have s0 := hxs.cell 0
              have s1 := hxs.cell 1
              have s2 := hxs.cell 2
              simp at s0 s1 s2
              have fx := hI7.f4
              obtain ⟨F, hF⟩ : ∃ F : World → Prop, (∀ w', F w' ↔ (w'.cell? ⟨g1, 4, none⟩ = some (.slice A2 k cap2) ∧ w'.cell? ⟨pb, 0, none⟩ = some (.int .i64 p.a) ∧ w'.cell? ⟨pb, 1, none⟩ = some (.int .i64 p.b) ∧ w'.cell? ⟨pb, 2, none⟩ = some (.int .i64 p.w))) := ⟨_, fun _ => Iff.rfl⟩
              have hF0 : F wv := (hF wv).2 ⟨fx, s0, s1, s2⟩
              haveI : Nonempty (SubW F) := ⟨⟨wv, hF0⟩⟩
              have f0 : ∀ y : SubW F, y.w.cell? ⟨g1, 4, none⟩ = some (.slice A2 k cap2) := fun y => ((hF y.w).1 y.h).1
              have f1 : ∀ y : SubW F, y.w.cell? ⟨pb, 0, none⟩ = some (.int .i64 p.a) := fun y => ((hF y.w).1 y.h).2.1
              have f2 : ∀ y : SubW F, y.w.cell? ⟨pb, 1, none⟩ = some (.int .i64 p.b) := fun y => ((hF y.w).1 y.h).2.2.1
              have f3 : ∀ y : SubW F, y.w.cell? ⟨pb, 2, none⟩ = some (.int .i64 p.w) := fun y => ((hF y.w).1 y.h).2.2.2
              have hg1v := hI7.x.lt
              have hpbv := hxs.lt
              have hFB : Hid (∀ {w' : World}, Below wv.heap.size wv w' → F w') := fun {w'} hb => (hF w').2 ⟨(hb.cell (p := ⟨g1, 4, none⟩) hg1v).trans fx, (hb.cell (p := ⟨pb, 0, none⟩) hpbv).trans s0, (hb.cell (p := ⟨pb, 1, none⟩) hpbv).trans s1, (hb.cell (p := ⟨pb, 2, none⟩) hpbv).trans s2⟩
              have HF := Lib.hid hF
              clear hF fx s0 s1 s2
              have hxd : Below wv.heap.size wv wv.drew := (Below.refl wv.heap.size wv).drew
              refine wp_region_sched (C := fun w' => ∃ y : SubW F, w' = y.w) [(0, true), (1, true), (2, true), (3, true), (4, true), (5, true), (6, true), (7, true), (8, true), (9, true), (10, true), (11, true), (12, false), (13, false), (14, false), (15, true), (16, false)] (by kernel_rfl) (by kernel_rfl) ⟨⟨wv.drew, hFB.out hxd⟩, rfl⟩ ?_
              refine sched_q (by rfl) (by rfl) ?_
              intro K hK
              go_big_quiet_op
              go_big_quiet_on
              refine sched_q (by rfl) (by rfl) ?_
              intro K hK
              go_big_quiet_op
              go_big_quiet_on
              refine sched_q (by rfl) (by rfl) ?_
              intro K hK
              go_big_quiet_op
              go_big_quiet_on
              refine sched_q (by rfl) (by rfl) ?_
              intro K hK
              go_big_quiet_op
              go_big_quiet_on
              refine sched_q (by rfl) (by rfl) ?_
              intro K hK
              go_big_quiet_op
              go_big_quiet_on
              refine sched_q (by rfl) (by rfl) ?_
              intro K hK
              go_big_quiet_op
              go_big_quiet_on
              refine sched_q (by rfl) (by rfl) ?_
              intro K hK
              go_big_quiet_op
              go_big_quiet_on
              refine sched_q (by rfl) (by rfl) ?_
              intro K hK
              go_big_quiet_op
              go_big_quiet_on
              refine sched_q (by rfl) (by rfl) ?_
              intro K hK
              go_big_quiet_op
              go_big_quiet_on
              refine sched_q (by rfl) (by rfl) ?_
              intro K hK
              go_big_quiet_op
              go_big_quiet_on
              refine sched_q (by rfl) (by rfl) ?_
              intro K hK
              go_big_quiet_op
              go_big_quiet_on
              refine sched_q (by rfl) (by rfl) ?_
              intro K hK
              go_big_quiet_op
              go_big_quiet_on
              refine sched_c (by rfl) (by rfl) ?_
              intro K' hK'
              go_wp2_with fail
              refine (passage_ok (lt - p.b) (lt - p.a) p.w wv.drew).mono ?_
              rintro e w5 ⟨rfl, hb5⟩
              have hx5 : Below wv.heap.size wv w5 := hxd.trans (hb5.mono hxd.size)
              go_wp2
              refine hK' _ _ ⟨.inr ⟨⟨w5, hFB.out hx5⟩, rfl⟩, ?_⟩
              clear hK' K'
              refine sched_c (by rfl) (by rfl) ?_
              intro K' hK'
              go_wp2
              have hx6 : Below wv.heap.size wv (w5.alloc (.cells #[.int .i64 (lt - p.b), .int .i64 (lt - p.a), .int .i64 p.w] 49)) := hx5.alloc hx5.size _
              refine hK' _ _ ⟨.inr ⟨⟨_, hFB.out hx6⟩, rfl⟩, ?_⟩
              clear hK' K'
              refine sched_c (by rfl) (by rfl) ?_
              intro K' hK'
              have hown5 := own_call hown7 hx5
              have hI5 := hI7.call hx5
              refine wpList_app1 slT_pas rfl (.tmp 79) (.tmp 91) rfl (A := A2) (cc := cap2) rfl ⟨cap2, hown5, .inl rfl⟩ rfl rfl one_3 hI5.gr.size ?_ ?_ ?_
              · omega
              · omega
              intro v4 w4 hown4 hb4 hkeep
              have hI4 := hI5.below hb4
              have hpb4 : w4.heap[pb]? = w5.heap[pb]? := hkeep pb (Nat.lt_of_lt_of_le hpbv hx5.size) hne
              have h5 := (HF.out w5).1 (hFB.out hx5)
              have hF4 : F w4 := (HF.out w4).2 ⟨hI4.f4, (World.cell?_of_block (a := ⟨pb, 0, none⟩) hpb4).trans h5.2.1, (World.cell?_of_block (a := ⟨pb, 1, none⟩) hpb4).trans h5.2.2.1, (World.cell?_of_block (a := ⟨pb, 2, none⟩) hpb4).trans h5.2.2.2⟩
              rw [show (#[Value.int .i64 (lt - p.b), Value.int .i64 (lt - p.a), Value.int .i64 p.w] : Array Value).toList = [mirP lt p].flatMap (cellsOf 3 pcell) from rfl, ← List.flatMap_append, ← HTK.out] at hown4
              obtain ⟨A4, cap4, rfl⟩ := own_form hown4
              have fx4 := hI4.f4
              have fz4 := fun i => hI4.x.frozen i
              clear hkeep hpb4 h5
              go_wp2
              refine hK' _ _ ⟨.inr ⟨⟨_, hF4⟩, rfl⟩, ?_⟩
              clear hK' K'
              refine sched_q (by rfl) (by rfl) ?_
              intro K hK
              go_big_quiet_op
              go_big_quiet_on
              refine sched_c (by rfl) (by rfl) ?_
              intro K' hK'
              go_wp2
              refine hK' _ _ ⟨(by first | exact .inl rfl | exact .inl trivial), ?_⟩
              clear hK' K'
              refine sched_nil ?_
              clear f0 f1 f2 f3 hF0 this hFB HF hF4 F fx4 fz4
              go_wp2
              go_roundw
              case rel =>
                (repeat apply Exists.intro)
                exact ⟨⟨k + 1, A4, cap4, by omega, by go_num, hI4.set4 _, hI4.row hown4 (by decide)⟩, rfl⟩
              case measure => (simp [intOf]; try omega)
            · obtain rfl : k = c.pas.length := by omega
              have d3 : decide (c.pas.length < c.pas.length) = false := by simp
              rw [mirC_pas c HLT.out] at hown2
              have hownF := hown.kept hIr.gr (.inr fun e => own_blk_ne hown hxw (by decide) e.symm)
              have hB2 := hB.grown hIr.gr hB.size (fun k hk => by injection hk; omega)
              have hby := (hbl.below hB2).more hB2.size
              have hC := hIr.cb
              have hX := hIr.x
              clear k0 k1 k2 k3 k4 hId hxw hB hown hk hk1
              have V2 := cyl_mirC hownF hown2
              clear hownF hown2 hIr
              obtain ⟨k0, k1, k2, k3, k4⟩ := hC.c5
              go_wp2_with fail
              refine (by_ok _ _ c bl _ hC.cyl hby H0.out).mono ?_
              rintro e we ⟨ya, yc, yl, rfl, hY, hyp, hbe⟩
              replace hC := hC.call hbe
              replace hX := hX.call hbe
              replace V2 := (V2.below hbe).more hbe.size
              replace hB2 := hB2.trans (hbe.mono hB2.size)
              have hyl6 : yl.length ≤ 6 := by have := hyp.2; have := (cyl_nat H0.out).2.2.2.2.1; omega
              have HYP := Lib.hid hyp
              have HYS := Lib.hid (fun s hs => (seqP_after hyp.1 s hs).2)
              clear k0 k1 k2 k3 k4 hbe hby hyp
              have hy1 : IntKind.i64.wrap ((yl.length : Int) - 1) = (yl.length : Int) - 1 := by rw [IntKind.wrap_i64]; omega
              go_wp2_with fail
              go_loopw [11, 12] (fun o i wr => ∃ (k : Nat) (A3 : Option Addr) (cap3 : Nat), k ≤ yl.length ∧ i = .int .i64 ((k : Int) - 1) ∧ o = .slice A3 (yl.length - k) cap3 ∧ Below we.heap.size we wr ∧
                wr.ownsRow we.heap.size 55 2 (.slice A3 (yl.length - k) cap3) (yl.length - k) ((backTo (mirS lt) yl k).flatMap (cellsOf 2 scell))) (fun _ i _ => (intOf i + 1).toNat)
              case atStart => exact ⟨yl.length, none, 0, Nat.le_refl _, rfl, by rw [Nat.sub_self], Below.refl _ _, by rw [Nat.sub_self, backTo_end]; simpa using World.ownsRow_nil _ _ _ _⟩
              case round =>
                obtain ⟨k, A3, cap3, hk, rfl, rfl, hb, hown⟩ := hrel
                cases k with
                | zero =>
                  rw [Nat.sub_zero, mirQ_eq] at hown
                  rw [Nat.sub_zero]
                  replace hC := hC.call hb
                  replace hX := hX.call hb
                  replace V2 := (V2.below hb).more hb.size
                  replace hB2 := hB2.trans (hb.mono hB2.size)
                  replace hY := (hY.below hb).more hb.size
                  have hlq : (mirQ lt yl).length = yl.length := by simp [mirQ]
                  have hQ : Arr wr wr.heap.size 2 (.slice A3 yl.length cap3) (mirQ lt yl) scell := by
                    rw [← hlq]
                    exact Arr.of_own (by rw [hlq]; exact hown)
                  have HSM : Hid (saves (mirC c) (mirQ lt yl) = saves c yl) := by rw [HLT.out]; exact saves_mir H0.out HYP.out
                  have HS0 : Hid ((saves c yl).2.2 = 0) := by rw [saves_plan ((checkPlan_iff H0.out yl).2 HYP.out)]; exact rfl
                  have M0 : Hid (checkCyl (mirC c) = 0) := mirC_valid H0.out
                  have HWM : Hid (worthsOf (mirC c) = worthsOf c) := worths_mir H0.out
                  have HKM : Hid (kindsOf (mirC c) 24000 = kindsOf c 24000) := kinds_mir H0.out 24000
                  clear hlq hown hb
                  obtain ⟨k0, k1, k2, k3, k4⟩ := hC.c5
                  go_wp2_with fail
                  refine (worths_ok _ c _ hC.cyl).mono ?_
                  rintro e v1 ⟨ov, rfl, hO1, hb1⟩
                  rw [H0.out]
                  replace hC := hC.call hb1
                  replace hX := hX.call hb1
                  replace V2 := (V2.below hb1).more (hb1).size
                  replace hB2 := hB2.trans ((hb1).mono hB2.size)
                  replace hY := (hY.below hb1).more (hb1).size
                  replace hQ := (hQ.below hb1).more (hb1).size
                  try clear k0 k1 k2 k3 k4
                  clear hb1
                  obtain ⟨x0, x1, x2, x3, x4⟩ := hX.c5
                  go_wp2_with fail
                  refine (worths_ok _ (mirC c) _ V2).mono ?_
                  rintro e v2 ⟨ou, rfl, hO2, hb2⟩
                  rw [HWM.out] at hO2
                  rw [M0.out]
                  clear x0 x1 x2 x3 x4
                  replace hO1 := (hO1.below hb2).more hb2.size
                  replace hC := hC.call hb2
                  replace hX := hX.call hb2
                  replace V2 := (V2.below hb2).more (hb2).size
                  replace hB2 := hB2.trans ((hb2).mono hB2.size)
                  replace hY := (hY.below hb2).more (hb2).size
                  replace hQ := (hQ.below hb2).more (hb2).size
                  try clear k0 k1 k2 k3 k4
                  clear hb2
                  obtain ⟨k0, k1, k2, k3, k4⟩ := hC.c5
                  go_wp2_with fail
                  refine (kinds_ok _ c _ hC.cyl).mono ?_
                  rintro e v3 ⟨ot, rfl, hO3, hb3⟩
                  rw [H0.out]
                  replace hO1 := (hO1.below hb3).more hb3.size
                  replace hO2 := (hO2.below hb3).more hb3.size
                  replace hC := hC.call hb3
                  replace hX := hX.call hb3
                  replace V2 := (V2.below hb3).more (hb3).size
                  replace hB2 := hB2.trans ((hb3).mono hB2.size)
                  replace hY := (hY.below hb3).more (hb3).size
                  replace hQ := (hQ.below hb3).more (hb3).size
                  try clear k0 k1 k2 k3 k4
                  clear hb3
                  obtain ⟨x0, x1, x2, x3, x4⟩ := hX.c5
                  go_wp2_with fail
                  refine (kinds_ok _ (mirC c) _ V2).mono ?_
                  rintro e v4 ⟨os, rfl, hO4, hb4⟩
                  rw [HKM.out] at hO4
                  rw [M0.out]
                  clear x0 x1 x2 x3 x4
                  replace hO1 := (hO1.below hb4).more hb4.size
                  replace hO2 := (hO2.below hb4).more hb4.size
                  replace hO3 := (hO3.below hb4).more hb4.size
                  replace hC := hC.call hb4
                  replace hX := hX.call hb4
                  replace V2 := (V2.below hb4).more (hb4).size
                  replace hB2 := hB2.trans ((hb4).mono hB2.size)
                  replace hY := (hY.below hb4).more (hb4).size
                  replace hQ := (hQ.below hb4).more (hb4).size
                  try clear k0 k1 k2 k3 k4
                  clear hb4
                  obtain ⟨k0, k1, k2, k3, k4⟩ := hC.c5
                  go_wp2_with fail
                  refine (saves_ok _ _ c yl _ hC.cyl hY).mono ?_
                  rintro e v5 ⟨or, rfl, hO5, hb5⟩
                  rw [HS0.out]
                  replace hO1 := (hO1.below hb5).more hb5.size
                  replace hO2 := (hO2.below hb5).more hb5.size
                  replace hO3 := (hO3.below hb5).more hb5.size
                  replace hO4 := (hO4.below hb5).more hb5.size
                  replace hC := hC.call hb5
                  replace hX := hX.call hb5
                  replace V2 := (V2.below hb5).more (hb5).size
                  replace hB2 := hB2.trans ((hb5).mono hB2.size)
                  replace hY := (hY.below hb5).more (hb5).size
                  replace hQ := (hQ.below hb5).more (hb5).size
                  try clear k0 k1 k2 k3 k4
                  clear hb5
                  obtain ⟨x0, x1, x2, x3, x4⟩ := hX.c5
                  go_wp2_with fail
                  refine (saves_ok _ _ (mirC c) (mirQ lt yl) _ V2 hQ).mono ?_
                  rintro e v6 ⟨oq, rfl, hO6, hb6⟩
                  rw [HSM.out] at hO6
                  rw [HSM.out, HS0.out]
                  clear x0 x1 x2 x3 x4
                  replace hO1 := (hO1.below hb6).more hb6.size
                  replace hO2 := (hO2.below hb6).more hb6.size
                  replace hO3 := (hO3.below hb6).more hb6.size
                  replace hO4 := (hO4.below hb6).more hb6.size
                  replace hO5 := (hO5.below hb6).more hb6.size
                  replace hC := hC.call hb6
                  replace hX := hX.call hb6
                  replace V2 := (V2.below hb6).more (hb6).size
                  replace hB2 := hB2.trans ((hb6).mono hB2.size)
                  replace hY := (hY.below hb6).more (hb6).size
                  replace hQ := (hQ.below hb6).more (hb6).size
                  try clear k0 k1 k2 k3 k4
                  clear hb6
                  clear hY hQ V2 hX hC
                  generalize (saves c yl).2.1 = z1 at *
                  go_wp2_with fail
                  refine (longsT _ _ _ _ hO1 hO2).mono ?_
                  rintro e v7 ⟨rfl, hb7⟩
                  replace hO3 := (hO3.below hb7).more hb7.size
                  replace hO4 := (hO4.below hb7).more hb7.size
                  replace hO5 := (hO5.below hb7).more hb7.size
                  replace hO6 := (hO6.below hb7).more hb7.size
                  replace hB2 := hB2.trans (hb7.mono hB2.size)
                  go_wp2_with fail
                  refine (intsT _ _ _ _ hO3 hO4).mono ?_
                  rintro e v8 ⟨rfl, hb8⟩
                  replace hO5 := (hO5.below hb8).more hb8.size
                  replace hO6 := (hO6.below hb8).more hb8.size
                  replace hB2 := hB2.trans (hb8.mono hB2.size)
                  go_wp2_with fail
                  refine (intsT _ _ _ _ hO5 hO6).mono ?_
                  rintro e v9 ⟨rfl, hb9⟩
                  replace hB2 := hB2.trans (hb9.mono hB2.size)
                  have hB := hB2
                  go_wp2_with fail
                  refine (works_ok v9).mono ?_
                  rintro e wz ⟨rfl, hbz⟩
                  go_wp2
                  go_ret
                  exact ⟨rfl, hB.trans (hbz.mono hB.size)⟩
                | succ k =>
                  have ej : ((k + 1 : Nat) : Int) - 1 = k := by omega
                  have hk1 : k < yl.length := hk
                  have ek : IntKind.i64.wrap (k : Int) = k := by rw [IntKind.wrap_i64]; omega
                  have ek1 : IntKind.i64.wrap ((k : Int) - 1) = (k : Int) - 1 := by rw [IntKind.wrap_i64]; omega
                  have d3 : decide (0 ≤ (k : Int)) = true := by simp
                  have hYr := (hY.below hb).more hb.size
                  obtain ⟨yb, yo, x, hya, hyb, hx1, hx2⟩ := hY.at_ hk1
                  subst hya
                  have hbo := HYS.out x (List.mem_of_getElem? hx1)
                  obtain ⟨o1, o2, o3, -⟩ := hbo
                  have c0 := (hb.cell (p := ⟨yb, yo + k * 2 + 0, none⟩) hyb).trans (hx2 0 (by omega))
                  have c1 := (hb.cell (p := ⟨yb, yo + k * 2 + 1, none⟩) hyb).trans (hx2 1 (by omega))
                  simp only [Nat.add_zero, scell] at c0 c1
                  have e5 : IntKind.i64.wrap (lt - x.a) = lt - x.a := by rw [IntKind.wrap_i64]; omega
                  have e6 : IntKind.i64.wrap (lt - x.b) = lt - x.b := by rw [IntKind.wrap_i64]; omega
                  have HBK : Hid (backTo (mirS lt) yl k = backTo (mirS lt) yl (k + 1) ++ [mirS lt x]) := backTo_step _ hx1
                  have HLN : Hid (yl.length - (k + 1) + 1 = yl.length - k) := by show _ = _; omega
                  have hcap := own_cap hown
                  clear hx1 hx2
                  obtain ⟨n, hn⟩ : ∃ n, n = yl.length - (k + 1) := ⟨_, rfl⟩
                  rw [← hn] at hown hcap HLN
                  rw [← hn]
                  have hn40 : n ≤ 40 := by omega
                  clear hn
                  obtain ⟨F, hF⟩ : ∃ F : World → Prop, (∀ w', F w' ↔ (w'.cell? ⟨yb, yo + k * 2, none⟩ = some (.int .i64 x.a) ∧ w'.cell? ⟨yb, yo + k * 2 + 1, none⟩ = some (.int .i64 x.b))) := ⟨_, fun _ => Iff.rfl⟩
                  have hF0 : F wr := (hF wr).2 ⟨c0, c1⟩
                  haveI : Nonempty (SubW F) := ⟨⟨wr, hF0⟩⟩
                  have f0 : ∀ y : SubW F, y.w.cell? ⟨yb, yo + k * 2, none⟩ = some (.int .i64 x.a) := fun y => ((hF y.w).1 y.h).1
                  have f1 : ∀ y : SubW F, y.w.cell? ⟨yb, yo + k * 2 + 1, none⟩ = some (.int .i64 x.b) := fun y => ((hF y.w).1 y.h).2
                  have hFB : Hid (∀ {w' : World}, Below we.heap.size wr w' → F w') := fun {w'} hb' => (hF w').2 ⟨(hb'.cell (p := ⟨yb, yo + k * 2, none⟩) hyb).trans c0, (hb'.cell (p := ⟨yb, yo + k * 2 + 1, none⟩) hyb).trans c1⟩
                  clear hF c0 c1
                  have hxd : Below we.heap.size wr wr.drew := (Below.refl we.heap.size wr).drew
                  go_upto_region 19 with (fail)
                  refine wp_region_sched (C := fun w' => ∃ y : SubW F, w' = y.w) [(0, true), (1, true), (2, true), (3, true), (4, true), (5, true), (6, true), (7, true), (8, true), (9, true), (10, true), (11, true), (12, true), (13, true), (14, true), (15, false), (16, false), (17, false), (18, false)] (by kernel_rfl) (by kernel_rfl) ⟨⟨wr.drew, hFB.out hxd⟩, rfl⟩ ?_
                  refine sched_q (by rfl) (by rfl) ?_
                  intro K hK
                  go_big_quiet_op
                  go_big_quiet_on
                  refine sched_q (by rfl) (by rfl) ?_
                  intro K hK
                  go_big_quiet_op
                  go_big_quiet_on
                  refine sched_q (by rfl) (by rfl) ?_
                  intro K hK
                  go_big_quiet_op
                  go_big_quiet_on
                  refine sched_q (by rfl) (by rfl) ?_
                  intro K hK
                  go_big_quiet_op
                  go_big_quiet_on
                  refine sched_q (by rfl) (by rfl) ?_
                  intro K hK
                  go_big_quiet_op
                  go_big_quiet_on
                  refine sched_q (by rfl) (by rfl) ?_
                  intro K hK
                  go_big_quiet_op
                  go_big_quiet_on
                  refine sched_q (by rfl) (by rfl) ?_
                  intro K hK
                  go_big_quiet_op
                  go_big_quiet_on
                  refine sched_q (by rfl) (by rfl) ?_
                  intro K hK
                  go_big_quiet_op
                  go_big_quiet_on
                  refine sched_q (by rfl) (by rfl) ?_
                  intro K hK
                  go_big_quiet_op
                  go_big_quiet_on
                  refine sched_q (by rfl) (by rfl) ?_
                  intro K hK
                  go_big_quiet_op
                  go_big_quiet_on
                  refine sched_q (by rfl) (by rfl) ?_
                  intro K hK
                  go_big_quiet_op
                  go_big_quiet_on
                  refine sched_q (by rfl) (by rfl) ?_
                  intro K hK
                  go_big_quiet_op
                  go_big_quiet_on
                  refine sched_q (by rfl) (by rfl) ?_
                  intro K hK
                  go_big_quiet_op
                  go_big_quiet_on
                  refine sched_q (by rfl) (by rfl) ?_
                  intro K hK
                  go_big_quiet_op
                  go_big_quiet_on
                  refine sched_q (by rfl) (by rfl) ?_
                  intro K hK
                  go_big_quiet_op
                  go_big_quiet_on
                  refine sched_c (by rfl) (by rfl) ?_
                  intro K' hK'
                  go_wp2_with fail
                  refine (stretch_ok (lt - x.b) (lt - x.a) wr.drew).mono ?_
                  rintro e w5 ⟨rfl, hb5⟩
                  have hx5 : Below wr.heap.size wr w5 := ((Below.refl wr.heap.size wr).drew).trans hb5
                  have hy5 := hx5.mono hb.size
                  go_wp2
                  refine hK' _ _ ⟨.inr ⟨⟨w5, hFB.out hy5⟩, rfl⟩, ?_⟩
                  clear hK' K'
                  refine sched_c (by rfl) (by rfl) ?_
                  intro K' hK'
                  go_wp2
                  have hx6 : Below we.heap.size wr (w5.alloc (.cells #[.int .i64 (lt - x.b), .int .i64 (lt - x.a)] 55)) := hy5.alloc (Nat.le_trans hb.size hx5.size) _
                  refine hK' _ _ ⟨.inr ⟨⟨_, hFB.out hx6⟩, rfl⟩, ?_⟩
                  clear hK' K'
                  refine sched_c (by rfl) (by rfl) ?_
                  intro K' hK'
                  have hown5 := own_call hown hx5
                  refine wpList_app1 slT_str rfl (.tmp 104) (.tmp 120) rfl (A := A3) (cc := cap3) rfl ⟨cap3, hown5, .inl rfl⟩ rfl rfl one_2 (Nat.le_trans hb.size hx5.size) ?_ ?_ ?_
                  · omega
                  · omega
                  intro v4 w4 hown4 hb4 hkeep
                  have hy4 := hy5.trans hb4
                  rw [show (#[Value.int .i64 (lt - x.b), Value.int .i64 (lt - x.a)] : Array Value).toList = [mirS lt x].flatMap (cellsOf 2 scell) from rfl, ← List.flatMap_append, ← HBK.out, HLN.out] at hown4
                  obtain ⟨A4, cap4, rfl⟩ := own_form hown4
                  clear hkeep
                  go_wp2
                  refine hK' _ _ ⟨.inr ⟨⟨_, hFB.out hy4⟩, rfl⟩, ?_⟩
                  clear hK' K'
                  refine sched_c (by rfl) (by rfl) ?_
                  intro K' hK'
                  go_wp2
                  refine hK' _ _ ⟨(by first | exact .inl rfl | exact .inl trivial), ?_⟩
                  clear hK' K'
                  refine sched_nil ?_
                  have hb9 := hb.trans hy4
                  clear f0 f1 hF0 this hFB F
                  go_wp2
                  go_roundw
                  case rel => exact ⟨k, A4, cap4, by omega, by go_num, rfl, hb9, hown4⟩
                  case measure => (simp [intOf]; try omega)
        | succ k =>
          have ej : ((k + 1 : Nat) : Int) - 1 = k := by omega
          have hk1 : k < c.frag.length := hk
          have ek : IntKind.i64.wrap (k : Int) = k := by rw [IntKind.wrap_i64]; omega
          have ek1 : IntKind.i64.wrap ((k : Int) - 1) = (k : Int) - 1 := by rw [IntKind.wrap_i64]; omega
          have d3 : decide (0 ≤ (k : Int)) = true := by simp
          obtain ⟨fb, fo, x, hfa, hfb, hx1, hx2⟩ := row_cell2 hIr.cb.fr hk1
          subst hfa
          have hxr := HFR.out x (List.mem_of_getElem? hx1)
          have ex : IntKind.i64.wrap (lt - x) = lt - x := by rw [IntKind.wrap_i64]; omega
          have HBK : Hid (backTo (fun x => lt - x) c.frag k = backTo (fun x => lt - x) c.frag (k + 1) ++ [lt - x]) := backTo_step _ hx1
          have hlen : c.frag.length - (k + 1) + 1 = c.frag.length - k := by omega
          have HLN := Lib.hid hlen
          clear k0 k1 k2 k3 k4 hlen hx1
          obtain ⟨k0, k1, k2, k3, k4⟩ := hIr.cb.c5
          have fx := hIr.f3
          have hcap := own_cap hown
          obtain ⟨n, hn⟩ : ∃ n, n = c.frag.length - (k + 1) := ⟨_, rfl⟩
          rw [← hn] at hIr hown fx hcap HLN
          have hn40 : n ≤ 40 := by omega
          clear hn
          go_upto_region 8 with (fail)
          obtain ⟨F, hF⟩ : ∃ F : World → Prop, (∀ w', F w' ↔ (w'.cell? ⟨g1, 3, none⟩ = some (.slice A n cap) ∧ w'.cell? ⟨w.heap.size, 3, none⟩ = some (.slice (some ⟨fb, fo, none⟩) c.frag.length fc) ∧ w'.cell? ⟨fb, fo + k, none⟩ = some (.int .i64 x))) := ⟨_, fun _ => Iff.rfl⟩
          have hF0 : F wr := (hF wr).2 ⟨fx, k3, hx2⟩
          haveI : Nonempty (SubW F) := ⟨⟨wr, hF0⟩⟩
          have f0 : ∀ y : SubW F, y.w.cell? ⟨g1, 3, none⟩ = some (.slice A n cap) := fun y => ((hF y.w).1 y.h).1
          have f1 : ∀ y : SubW F, y.w.cell? ⟨w.heap.size, 3, none⟩ = some (.slice (some ⟨fb, fo, none⟩) c.frag.length fc) := fun y => ((hF y.w).1 y.h).2.1
          have f2 : ∀ y : SubW F, y.w.cell? ⟨fb, fo + k, none⟩ = some (.int .i64 x) := fun y => ((hF y.w).1 y.h).2.2
          have hFd : F wr.drew := (hF wr.drew).2 ⟨fx, k3, hx2⟩
          have hFa : ∀ o, F (wr.drew.alloc o) := fun o => (hF _).2 ⟨(World.cell?_alloc_lt _ _ _ (cell_lt fx)).trans fx, (World.cell?_alloc_lt _ _ _ (cell_lt k3)).trans k3, (World.cell?_alloc_lt _ _ _ (cell_lt hx2)).trans hx2⟩
          have HF := Lib.hid hF
          clear hF fx k0 k1 k2 k3 k4 hx2
          refine wp_region_sched (C := fun w' => ∃ y : SubW F, w' = y.w) [(0, true), (1, true), (2, true), (3, true), (4, true), (5, true), (6, true), (7, true), (8, true), (9, false), (10, false), (11, true), (12, false)] (by kernel_rfl) (by kernel_rfl) ⟨⟨wr.drew, hFd⟩, rfl⟩ ?_
          refine sched_q (by rfl) (by rfl) ?_
          intro K hK
          go_big_quiet_op
          go_big_quiet_on
          refine sched_q (by rfl) (by rfl) ?_
          intro K hK
          go_big_quiet_op
          go_big_quiet_on
          refine sched_q (by rfl) (by rfl) ?_
          intro K hK
          go_big_quiet_op
          go_big_quiet_on
          refine sched_q (by rfl) (by rfl) ?_
          intro K hK
          go_big_quiet_op
          go_big_quiet_on
          refine sched_q (by rfl) (by rfl) ?_
          intro K hK
          go_big_quiet_op
          go_big_quiet_on
          refine sched_q (by rfl) (by rfl) ?_
          intro K hK
          go_big_quiet_op
          go_big_quiet_on
          refine sched_q (by rfl) (by rfl) ?_
          intro K hK
          go_big_quiet_op
          go_big_quiet_on
          refine sched_q (by rfl) (by rfl) ?_
          intro K hK
          go_big_quiet_op
          go_big_quiet_on
          refine sched_q (by rfl) (by rfl) ?_
          intro K hK
          go_big_quiet_op
          go_big_quiet_on
          refine sched_c (by rfl) (by rfl) ?_
          intro K' hK'
          go_wp2
          refine hK' _ _ ⟨.inr ⟨⟨_, hFa _⟩, rfl⟩, ?_⟩
          clear hK' K'
          refine sched_c (by rfl) (by rfl) ?_
          intro K' hK'
          refine wpList_app1 slT_int rfl (.tmp 55) (.tmp 63) rfl (A := A) (cc := cap) rfl ⟨cap, (show wr.drew.ownsRow _ _ _ _ _ _ from hown), .inl rfl⟩ rfl rfl one_1 hIr.gr.size ?_ ?_ ?_
          · omega
          · omega
          intro v4 w4 hown4 hb4 hkeep
          have hI4 := hIr.below (show Below wc.heap.size wr w4 from ⟨hb4.os, hb4.tape, hb4.output, hb4.size, hb4.block⟩)
          have fx4 := hI4.f3
          have fz4 := fun i => hI4.x.frozen i
          have hF4 : F w4 := (HF.out w4).2 ⟨fx4, hI4.cb.c5.2.2.2.1, (hb4.cell (p := ⟨fb, fo + k, none⟩) (Nat.lt_trans hfb (Nat.lt_trans hIr.lo hIr.hi))).trans (HF.out _ |>.1 hFd).2.2⟩
          clear hkeep
          rw [show (#[Value.int .i64 (lt - x)] : Array Value).toList = [lt - x].flatMap (cellsOf 1 icell) from rfl, ← List.flatMap_append, ← HBK.out, HLN.out] at hown4
          obtain ⟨A4, cap4, rfl⟩ := own_form hown4
          go_wp2
          refine hK' _ _ ⟨.inr ⟨⟨_, hF4⟩, rfl⟩, ?_⟩
          clear hK' K'
          refine sched_q (by rfl) (by rfl) ?_
          intro K hK
          go_big_quiet_op
          go_big_quiet_on
          refine sched_c (by rfl) (by rfl) ?_
          intro K' hK'
          go_wp2
          refine hK' _ _ ⟨(by first | exact .inl rfl | exact .inl trivial), ?_⟩
          clear hK' K'
          refine sched_nil ?_
          clear f0 f1 f2 hFd hFa hF0 this HF hF4 F fx4 fz4
          go_wp2
          go_roundw
          case rel => exact ⟨k, A4, cap4, by omega, by go_num, hI4.set3 _, hI4.row hown4 (by decide)⟩
          case measure => (simp [intOf]; try omega)
end Go.Proofs.Ythplabmbbfefeaa
