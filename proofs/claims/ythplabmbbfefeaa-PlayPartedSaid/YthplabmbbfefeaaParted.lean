/- The law PlayParted: the walk. -/
import Derived.Test.YthplabmbbfefeaaGrow
import Derived.Test.YthplabmbbfefeaaLawC
import Derived.Test.YthplabmbbfefeaaFewest
namespace Go.Proofs.Ythplabmbbfefeaa
open Go.RowKit Go.Shelf
set_option linter.unusedVariables false

set_option maxRecDepth 100000 in
set_option maxHeartbeats 3200000 in
theorem lparted_ok (v : Value) (c : Cyl) (which : Int) (w : World) (hv : CylV w w.heap.size v c) (hx : (Lit.int .u8 which).wf = true) :
    Calls Try.prog 8 #[v, .int .u8 which] w fun r w' => r = .returned (.bool true) ∧ Below w.heap.size w w' := by
  have hx0 : 0 ≤ which ∧ which ≤ 255 := by
    have e1 : IntKind.u8.min = 0 := rfl
    have e2 : IntKind.u8.max = 255 := rfl
    simp only [Lit.wf, e1, e2, Bool.and_eq_true, decide_eq_true_eq] at hx
    exact hx
  clear hx
  obtain ⟨fa, fc, pa, pc, rfl, hf, hp⟩ := hv.open_
  have hC := CB.new hf hp
  have hB := (Below.refl w.heap.size w).alloc (Nat.le_refl _) (.cells #[.int .i64 c.turns, .int .i64 c.long, .int .i64 c.plays, .slice fa c.frag.length fc, .slice pa c.pas.length pc] 25)
  go_enter Try.func8, Try.ntmps8
  go_upto_region 1 with (fail)
  generalize hW : w.alloc (.cells #[.int .i64 c.turns, .int .i64 c.long, .int .i64 c.plays, .slice fa c.frag.length fc, .slice pa c.pas.length pc] 25) = W at *
  clear hW hf hp
  obtain ⟨k0, k1, k2, k3, k4⟩ := hC.c5
  go_wp2_with fail
  refine (fine_ok _ c _ hC.cyl).mono ?_
  rintro e w1 ⟨rfl, hb1⟩
  replace hC := hC.call hb1
  replace hB := hB.trans ((hb1).mono hB.size)
  clear k0 k1 k2 k3 k4 hb1
  obtain ⟨k0, k1, k2, k3, k4⟩ := hC.c5
  cases hg : fineB c
  · go_wp2_with fail
    refine (works_ok w1).mono ?_
    rintro e wz ⟨rfl, hbz⟩
    go_wp2
    go_ret
    exact ⟨rfl, hB.trans (hbz.mono hB.size)⟩
  · have h0 : checkCyl c = 0 := by
      unfold fineB at hg
      simp at hg
      exact hg.2
    have H0 := Lib.hid h0
    clear h0
    by_cases hl1 : c.frag.length = 0
    · have d1 : ((c.frag.length : Int) == 0) = true := by simpa using hl1
      go_wp2_with fail
      refine (works_ok w1).mono ?_
      rintro e wz ⟨rfl, hbz⟩
      go_wp2
      go_ret
      exact ⟨rfl, hB.trans (hbz.mono hB.size)⟩
    · have d1 : ((c.frag.length : Int) == 0) = false := by simpa using hl1
      have hT30 : 1 ≤ c.turns ∧ c.turns ≤ 30 := by have := cyl_nat H0.out; omega
      have hL30 : 1 ≤ c.long ∧ c.long ≤ 30 := by have := cyl_nat H0.out; omega
      have HK : Hid (c.plays = (tK c : Int)) := (cyl_nat H0.out).2.1
      have hK6 : tK c ≤ 6 := (cyl_nat H0.out).2.2.2.2.1
      have hfl : c.frag.length ≤ 40 := by
        unfold fineB greatB at hg
        simp at hg
        omega
      have hn12 : c.pas.length ≤ 12 := ((valid_iff c).1 H0.out).2.2.1
      have HFR : Hid (∀ x ∈ c.frag, -1 < x ∧ x < c.turns) := fragOk_after ((valid_iff c).1 H0.out).2.1
      have HPF := Lib.hid (pas_fit (pasOk_of H0.out))
      obtain ⟨r, hr⟩ : ∃ r : Nat, (r : Int) = which % (c.frag.length : Int) := ⟨(which % (c.frag.length : Int)).toNat, by have := Int.emod_nonneg which (show (c.frag.length : Int) ≠ 0 by omega); omega⟩
      have hr1 : r < c.frag.length := by have := Int.emod_lt_of_pos which (show (0 : Int) < (c.frag.length : Int) by omega); omega
      have hr2 : which.tmod (c.frag.length : Int) = (r : Int) := by rw [Int.tmod_eq_emod_of_nonneg (by omega)]; exact hr.symm
      have hr3 : IntKind.i64.wrap (r : Int) = (r : Int) := by rw [IntKind.wrap_i64]; omega
      have hr4 : IntKind.i64.wrap which = which := by rw [IntKind.wrap_i64]; omega
      have hr5 : (r : Int) < (c.frag.length : Int) := by omega
      clear hr
      obtain ⟨fb, fo, f, hfa, hfb, hf1, hf2⟩ := row_cell2 hC.fr hr1
      subst hfa
      have hfm := List.mem_of_getElem? hf1
      have hfr := HFR.out f hfm
      have HFM := Lib.hid hfm
      have q3 := Ext.of k3
      have q5 := Ext.of hf2
      clear hf1 hfm
      go_upto_region 3 with (fail)
      refine wp_region_ext (by kernel_rfl) (by kernel_rfl) ?_
      repeat (go_big_quiet_step (fail))
      refine wpQuiet_nil ?_
      intro _ hw'
      obtain ⟨xr, hw''⟩ := hw'
      subst hw''
      have hxr := xr.h
      obtain ⟨wq, hq⟩ := xr
      dsimp only at *
      replace hC := hC.call hxr
      replace hB := hB.trans (hxr.mono hB.size)
      clear k0 k1 k2 k3 k4 q3 q5 hf2 hq
      obtain ⟨k0, k1, k2, k3, k4⟩ := hC.c5
      have ew : IntKind.i64.wrap (c.turns - 1) = c.turns - 1 := by rw [IntKind.wrap_i64]; omega
      by_cases hf0 : f = 0
      · have d2 : (f == 0) = true := by simpa using hf0
        go_wp2_with fail
        refine (works_ok wq).mono ?_
        rintro e wz ⟨rfl, hbz⟩
        go_wp2
        go_ret
        exact ⟨rfl, hB.trans (hbz.mono hB.size)⟩
      · have d2 : (f == 0) = false := by simpa using hf0
        by_cases hf3 : f = c.turns - 1
        · have d3 : (f == c.turns - 1) = true := by simpa using hf3
          go_wp2_with fail
          refine (works_ok wq).mono ?_
          rintro e wz ⟨rfl, hbz⟩
          go_wp2
          go_ret
          exact ⟨rfl, hB.trans (hbz.mono hB.size)⟩
        · have d3 : (f == c.turns - 1) = false := by simpa using hf3
          have hf4 : 0 < f ∧ f < c.turns - 1 := by omega
          obtain ⟨tf, htf⟩ : ∃ tf : Int, tf = c.turns - f - 1 := ⟨_, rfl⟩
          have HTF := Lib.hid htf
          have ew1 : IntKind.i64.wrap (c.turns - f) = c.turns - f := by rw [IntKind.wrap_i64]; omega
          have ew2 : IntKind.i64.wrap (c.turns - f - 1) = tf := by rw [IntKind.wrap_i64]; omega
          have htf0 : 0 < tf ∧ tf ≤ 30 := by omega
          clear htf hf0 hf3
          go_upto_region 7 with (fail)
          have hbA := (Below.refl wq.heap.size wq).alloc (Nat.le_refl _) (.cells #[.int .i64 f, .int .i64 (min f c.long), .int .i64 c.plays, .slice none 0 0, .slice none 0 0] 25)
          have hX := Blk.new wq 25 #[.int .i64 f, .int .i64 (min f c.long), .int .i64 c.plays, .slice none 0 0, .slice none 0 0]
          have hgx : w.heap.size < wq.heap.size := hC.blk.lt
          replace hC := hC.call hbA
          replace hB := hB.trans (hbA.mono hB.size)
          clear k0 k1 k2 k3 k4 hbA
          generalize wq.alloc (.cells #[.int .i64 f, .int .i64 (min f c.long), .int .i64 c.plays, .slice none 0 0, .slice none 0 0] 25) = wp at *
          generalize wq.heap.size = gx at *
          obtain ⟨k0, k1, k2, k3, k4⟩ := hC.c5
          go_upto_region 8 with (fail)
          have hbA := (Below.refl wp.heap.size wp).alloc (Nat.le_refl _) (.cells #[.int .i64 tf, .int .i64 (min tf c.long), .int .i64 c.plays, .slice none 0 0, .slice none 0 0] 25)
          have hY := Blk.new wp 25 #[.int .i64 tf, .int .i64 (min tf c.long), .int .i64 c.plays, .slice none 0 0, .slice none 0 0]
          have hI : PInv (wp.alloc (.cells #[.int .i64 tf, .int .i64 (min tf c.long), .int .i64 c.plays, .slice none 0 0, .slice none 0 0] 25)) w.heap.size gx wp.heap.size c (some ⟨fb, fo, none⟩) fc pa pc f (min f c.long) c.plays tf (min tf c.long) c.plays (.slice none 0 0) (.slice none 0 0) (.slice none 0 0) (.slice none 0 0) (wp.alloc (.cells #[.int .i64 tf, .int .i64 (min tf c.long), .int .i64 c.plays, .slice none 0 0, .slice none 0 0] 25)) :=
            ⟨hC.call hbA, hX.call hbA, hY, But2.refl _ _ _, hgx, hX.lt, hY.lt⟩
          replace hB := hB.trans (hbA.mono hB.size)
          clear k0 k1 k2 k3 k4 hbA hX hY hC
          generalize wp.alloc (.cells #[.int .i64 tf, .int .i64 (min tf c.long), .int .i64 c.plays, .slice none 0 0, .slice none 0 0] 25) = wc at *
          generalize wp.heap.size = gy at *
          go_wp2_with fail
          go_loopw [8] (fun i wr => ∃ (k : Nat) (A : Option Addr) (cap n : Nat) (A2 : Option Addr) (cap2 n2 : Nat), k ≤ c.frag.length ∧ i = .int .i64 (k : Int) ∧ PInv wc w.heap.size gx gy c (some ⟨fb, fo, none⟩) fc pa pc f (min f c.long) c.plays tf (min tf c.long) c.plays (.slice A n cap) (.slice none 0 0) (.slice A2 n2 cap2) (.slice none 0 0) wr ∧
            n = (part (fun x => decide (x < f)) id (c.frag.take k)).length ∧ n2 = (part (fun x => decide (f < x)) (fun x => x - f - 1) (c.frag.take k)).length ∧
            wr.ownsRow wc.heap.size 3 1 (.slice A n cap) n ((part (fun x => decide (x < f)) id (c.frag.take k)).flatMap (cellsOf 1 icell)) ∧
            wr.ownsRow wc.heap.size 3 1 (.slice A2 n2 cap2) n2 ((part (fun x => decide (f < x)) (fun x => x - f - 1) (c.frag.take k)).flatMap (cellsOf 1 icell)) ∧ Apart (.slice A n cap) (.slice A2 n2 cap2)) (fun i _ => c.frag.length - (intOf i).toNat)
          case atStart => exact ⟨0, none, 0, 0, none, 0, 0, Nat.zero_le _, rfl, hI, by simp [part], by simp [part], by simpa [part] using World.ownsRow_nil _ _ _ _, by simpa [part] using World.ownsRow_nil _ _ _ _, apart_nil _⟩
          case round =>
            obtain ⟨k, A, cap, n, A2, cap2, n2, hk, rfl, hIr, hn, hn2, hown, hown2, hap⟩ := hrel
            by_cases hk1 : k < c.frag.length
            · have d4 : decide (k < c.frag.length) = true := by simpa using hk1
              have d4' : decide ((k : Int) < (c.frag.length : Int)) = true := by simp; omega
              have ek1 : IntKind.i64.wrap ((k : Int) + 1) = ((k + 1 : Nat) : Int) := by rw [IntKind.wrap_i64]; omega
              have hx1 : c.frag[k]? = some c.frag[k] := List.getElem?_eq_getElem hk1
              obtain ⟨x, hxe⟩ : ∃ x, x = c.frag[k] := ⟨_, rfl⟩
              rw [← hxe] at hx1
              clear hxe
              have hx2 := cb_frc hIr.cb hx1
              have hxr := HFR.out x (List.mem_of_getElem? hx1)
              have HX1 := Lib.hid hx1
              have hnk : n ≤ 40 := by have := part_len (fun x => decide (x < f)) id c.frag k; omega
              have hnk2 : n2 ≤ 40 := by have := part_len (fun x => decide (f < x)) (fun x => x - f - 1) c.frag k; omega
              have HN := Lib.hid hn
              have HN2 := Lib.hid hn2
              clear hx1 hn hn2
              obtain ⟨k0, k1, k2, k3, k4⟩ := hIr.cb.c5
              by_cases hxf : x < f
              · have d5 : decide (x < f) = true := by simpa using hxf
                have d6 : decide (f < x) = false := by simp; omega
                have HP1 : Hid (part (fun x => decide (x < f)) id (c.frag.take (k + 1)) = part (fun x => decide (x < f)) id (c.frag.take k) ++ [x]) := part_yes _ HX1.out d5
                have HP2 : Hid (part (fun x => decide (f < x)) (fun x => x - f - 1) (c.frag.take (k + 1)) = part (fun x => decide (f < x)) (fun x => x - f - 1) (c.frag.take k)) := part_no _ HX1.out d6
                go_upto_region 12 with (fail)
                have fx := hIr.fx3
                obtain ⟨F, hF⟩ : ∃ F : World → Prop, (∀ w', F w' ↔ (w'.cell? ⟨gx, 3, none⟩ = some (.slice A n cap) ∧ w'.cell? ⟨w.heap.size, 3, none⟩ = some (.slice (some ⟨fb, fo, none⟩) c.frag.length fc) ∧ w'.cell? ⟨fb, fo + k, none⟩ = some (.int .i64 x))) := ⟨_, fun _ => Iff.rfl⟩
                have hF0 : F wr := (hF wr).2 ⟨fx, k3, hx2⟩
                haveI : Nonempty (SubW F) := ⟨⟨wr, hF0⟩⟩
                have f0 : ∀ y : SubW F, y.w.cell? ⟨gx, 3, none⟩ = some (.slice A n cap) := fun y => ((hF y.w).1 y.h).1
                have f1 : ∀ y : SubW F, y.w.cell? ⟨w.heap.size, 3, none⟩ = some (.slice (some ⟨fb, fo, none⟩) c.frag.length fc) := fun y => ((hF y.w).1 y.h).2.1
                have f2 : ∀ y : SubW F, y.w.cell? ⟨fb, fo + k, none⟩ = some (.int .i64 x) := fun y => ((hF y.w).1 y.h).2.2
                have hFd : F wr.drew := (hF wr.drew).2 ⟨fx, k3, hx2⟩
                have hFa : ∀ o, F (wr.drew.alloc o) := fun o => (hF _).2 ⟨(World.cell?_alloc_lt _ _ _ (cell_lt fx)).trans fx, (World.cell?_alloc_lt _ _ _ (cell_lt k3)).trans k3, (World.cell?_alloc_lt _ _ _ (cell_lt hx2)).trans hx2⟩
                have HF := Lib.hid hF
                clear hF fx k0 k1 k2 k3 k4
                refine wp_region_sched (C := fun w' => ∃ y : SubW F, w' = y.w) [(0, true), (1, true), (2, true), (3, true), (4, true), (5, true), (6, true), (7, false), (8, false), (9, true), (10, false)] (by kernel_rfl) (by kernel_rfl) ⟨⟨wr.drew, hFd⟩, rfl⟩ ?_
                refine sched_q (by rfl) (by rfl) ?_
                intro K hK
                go_big_quiet_op
                go_big_quiet_on
                refine sched_q (by rfl) (by rfl) ?_
                intro K hK
                go_big_quiet_op
                go_big_quiet_on
                refine sched_q (by rfl) (by rfl) ?_
                intro K hK
                go_big_quiet_op
                go_big_quiet_on
                refine sched_q (by rfl) (by rfl) ?_
                intro K hK
                go_big_quiet_op
                go_big_quiet_on
                refine sched_q (by rfl) (by rfl) ?_
                intro K hK
                go_big_quiet_op
                go_big_quiet_on
                refine sched_q (by rfl) (by rfl) ?_
                intro K hK
                go_big_quiet_op
                go_big_quiet_on
                refine sched_q (by rfl) (by rfl) ?_
                intro K hK
                go_big_quiet_op
                go_big_quiet_on
                refine sched_c (by rfl) (by rfl) ?_
                intro K' hK'
                go_wp2
                refine hK' _ _ ⟨.inr ⟨⟨_, hFa _⟩, rfl⟩, ?_⟩
                clear hK' K'
                refine sched_c (by rfl) (by rfl) ?_
                intro K' hK'
                refine wpList_app2 slT_int rfl (.tmp 89) (.tmp 95) rfl rfl (own_drew hown) rfl rfl one_1 hIr.gr.size ?_ ?_ ?_
                · omega
                · omega
                intro v4 w4 hown4 hg4 hat
                have hb4 : Below wc.heap.size wr.drew w4 := below_own (own_drew hown) hg4 hIr.gr.size
                have hb5 : Below wc.heap.size wr w4 := ⟨hb4.os, hb4.tape, hb4.output, hb4.size, hb4.block⟩
                obtain ⟨hown5, hap5⟩ := own_apart (own_drew hown2) hg4 hat hap
                have hI4 := hIr.below hb5
                have fx4 := hI4.fx3
                have fz4 := fun i => hI4.x.frozen i
                have hF4 : F w4 := (HF.out w4).2 ⟨fx4, hI4.cb.c5.2.2.2.1, cb_frc hI4.cb HX1.out⟩
                rw [show (#[Value.int .i64 x] : Array Value).toList = [x].flatMap (cellsOf 1 icell) from rfl, ← List.flatMap_append, ← HP1.out] at hown4
                obtain ⟨A4, cap4, rfl⟩ := own_form hown4
                go_wp2
                refine hK' _ _ ⟨.inr ⟨⟨_, hF4⟩, rfl⟩, ?_⟩
                clear hK' K'
                refine sched_q (by rfl) (by rfl) ?_
                intro K hK
                go_big_quiet_op
                go_big_quiet_on
                refine sched_c (by rfl) (by rfl) ?_
                intro K' hK'
                go_wp2
                refine hK' _ _ ⟨(by first | exact .inl rfl | exact .inl trivial), ?_⟩
                clear hK' K'
                refine sched_nil ?_
                clear f0 f1 f2 hFd hFa hF0 this HF hF4 F fx4 fz4
                have hI6 := hI4.sx3 (.slice A4 (n + 1) cap4)
                have hx3 := cb_frc hI6.cb HX1.out
                have hown6 := hI4.rx (o := 3) (z := .slice A4 (n + 1) cap4) hown4 (by decide)
                have hown7 := hI4.rx (o := 3) (z := .slice A4 (n + 1) cap4) hown5 (by decide)
                generalize w4.setCell ⟨gx, 3, none⟩ (.slice A4 (n + 1) cap4) = w6 at *
                obtain ⟨k0, k1, k2, k3, k4⟩ := hI6.cb.c5
                go_wp2_with fail
                go_roundw
                case rel => exact ⟨k + 1, A4, cap4, n + 1, A2, cap2, n2, by omega, by go_num, hI6, by rw [HP1.out, List.length_append, ← HN.out]; rfl, by rw [HP2.out]; exact HN2.out, hown6, by rw [HP2.out]; exact hown7, hap5⟩
                case measure => (simp [intOf]; try omega)
              · have d5 : decide (x < f) = false := by simpa using hxf
                by_cases hxf2 : f < x
                · have d6 : decide (f < x) = true := by simpa using hxf2
                  have HP1 : Hid (part (fun x => decide (x < f)) id (c.frag.take (k + 1)) = part (fun x => decide (x < f)) id (c.frag.take k)) := part_no _ HX1.out d5
                  have HP2 : Hid (part (fun x => decide (f < x)) (fun x => x - f - 1) (c.frag.take (k + 1)) = part (fun x => decide (f < x)) (fun x => x - f - 1) (c.frag.take k) ++ [x - f - 1]) := part_yes _ HX1.out d6
                  have e1 : IntKind.i64.wrap (x - f) = x - f := by rw [IntKind.wrap_i64]; omega
                  have e2 : IntKind.i64.wrap (x - f - 1) = x - f - 1 := by rw [IntKind.wrap_i64]; omega
                  go_upto_region 14 with (fail)
                  have fx := hIr.fy3
                  obtain ⟨F, hF⟩ : ∃ F : World → Prop, (∀ w', F w' ↔ (w'.cell? ⟨gy, 3, none⟩ = some (.slice A2 n2 cap2) ∧ w'.cell? ⟨w.heap.size, 3, none⟩ = some (.slice (some ⟨fb, fo, none⟩) c.frag.length fc) ∧ w'.cell? ⟨fb, fo + k, none⟩ = some (.int .i64 x))) := ⟨_, fun _ => Iff.rfl⟩
                  have hF0 : F wr := (hF wr).2 ⟨fx, k3, hx2⟩
                  haveI : Nonempty (SubW F) := ⟨⟨wr, hF0⟩⟩
                  have f0 : ∀ y : SubW F, y.w.cell? ⟨gy, 3, none⟩ = some (.slice A2 n2 cap2) := fun y => ((hF y.w).1 y.h).1
                  have f1 : ∀ y : SubW F, y.w.cell? ⟨w.heap.size, 3, none⟩ = some (.slice (some ⟨fb, fo, none⟩) c.frag.length fc) := fun y => ((hF y.w).1 y.h).2.1
                  have f2 : ∀ y : SubW F, y.w.cell? ⟨fb, fo + k, none⟩ = some (.int .i64 x) := fun y => ((hF y.w).1 y.h).2.2
                  have hFd : F wr.drew := (hF wr.drew).2 ⟨fx, k3, hx2⟩
                  have hFa : ∀ o, F (wr.drew.alloc o) := fun o => (hF _).2 ⟨(World.cell?_alloc_lt _ _ _ (cell_lt fx)).trans fx, (World.cell?_alloc_lt _ _ _ (cell_lt k3)).trans k3, (World.cell?_alloc_lt _ _ _ (cell_lt hx2)).trans hx2⟩
                  have HF := Lib.hid hF
                  clear hF fx k0 k1 k2 k3 k4
                  refine wp_region_sched (C := fun w' => ∃ y : SubW F, w' = y.w) [(0, true), (1, true), (2, true), (3, true), (4, true), (5, true), (6, true), (7, true), (8, true), (9, true), (10, false), (11, false), (12, true), (13, false)] (by kernel_rfl) (by kernel_rfl) ⟨⟨wr.drew, hFd⟩, rfl⟩ ?_
                  refine sched_q (by rfl) (by rfl) ?_
                  intro K hK
                  go_big_quiet_op
                  go_big_quiet_on
                  refine sched_q (by rfl) (by rfl) ?_
                  intro K hK
                  go_big_quiet_op
                  go_big_quiet_on
                  refine sched_q (by rfl) (by rfl) ?_
                  intro K hK
                  go_big_quiet_op
                  go_big_quiet_on
                  refine sched_q (by rfl) (by rfl) ?_
                  intro K hK
                  go_big_quiet_op
                  go_big_quiet_on
                  refine sched_q (by rfl) (by rfl) ?_
                  intro K hK
                  go_big_quiet_op
                  go_big_quiet_on
                  refine sched_q (by rfl) (by rfl) ?_
                  intro K hK
                  go_big_quiet_op
                  go_big_quiet_on
                  refine sched_q (by rfl) (by rfl) ?_
                  intro K hK
                  go_big_quiet_op
                  go_big_quiet_on
                  refine sched_q (by rfl) (by rfl) ?_
                  intro K hK
                  go_big_quiet_op
                  go_big_quiet_on
                  refine sched_q (by rfl) (by rfl) ?_
                  intro K hK
                  go_big_quiet_op
                  go_big_quiet_on
                  refine sched_q (by rfl) (by rfl) ?_
                  intro K hK
                  go_big_quiet_op
                  go_big_quiet_on
                  refine sched_c (by rfl) (by rfl) ?_
                  intro K' hK'
                  go_wp2
                  refine hK' _ _ ⟨.inr ⟨⟨_, hFa _⟩, rfl⟩, ?_⟩
                  clear hK' K'
                  refine sched_c (by rfl) (by rfl) ?_
                  intro K' hK'
                  refine wpList_app2 slT_int rfl (.tmp 106) (.tmp 115) rfl rfl (own_drew hown2) rfl rfl one_1 hIr.gr.size ?_ ?_ ?_
                  · omega
                  · omega
                  intro v4 w4 hown4 hg4 hat
                  have hb4 : Below wc.heap.size wr.drew w4 := below_own (own_drew hown2) hg4 hIr.gr.size
                  have hb5 : Below wc.heap.size wr w4 := ⟨hb4.os, hb4.tape, hb4.output, hb4.size, hb4.block⟩
                  obtain ⟨hown5, hap5⟩ := own_apart (own_drew hown) hg4 hat hap.symm
                  have hI4 := hIr.below hb5
                  have fx4 := hI4.fy3
                  have fz4 := fun i => hI4.y.frozen i
                  have hF4 : F w4 := (HF.out w4).2 ⟨fx4, hI4.cb.c5.2.2.2.1, cb_frc hI4.cb HX1.out⟩
                  rw [show (#[Value.int .i64 (x - f - 1)] : Array Value).toList = [x - f - 1].flatMap (cellsOf 1 icell) from rfl, ← List.flatMap_append, ← HP2.out] at hown4
                  obtain ⟨A4, cap4, rfl⟩ := own_form hown4
                  go_wp2
                  refine hK' _ _ ⟨.inr ⟨⟨_, hF4⟩, rfl⟩, ?_⟩
                  clear hK' K'
                  refine sched_q (by rfl) (by rfl) ?_
                  intro K hK
                  go_big_quiet_op
                  go_big_quiet_on
                  refine sched_c (by rfl) (by rfl) ?_
                  intro K' hK'
                  go_wp2
                  refine hK' _ _ ⟨(by first | exact .inl rfl | exact .inl trivial), ?_⟩
                  clear hK' K'
                  refine sched_nil ?_
                  clear f0 f1 f2 hFd hFa hF0 this HF hF4 F fx4 fz4
                  have hI6 := hI4.sy3 (.slice A4 (n2 + 1) cap4)
                  have hown6 := hI4.ry (o := 3) (z := .slice A4 (n2 + 1) cap4) hown4 (by decide)
                  have hown7 := hI4.ry (o := 3) (z := .slice A4 (n2 + 1) cap4) hown5 (by decide)
                  go_wp2_with fail
                  go_roundw
                  case rel => exact ⟨k + 1, A, cap, n, A4, cap4, n2 + 1, by omega, by go_num, hI6, by rw [HP1.out]; exact HN.out, by rw [HP2.out, List.length_append, ← HN2.out]; rfl, by rw [HP1.out]; exact hown7, hown6, hap5.symm⟩
                  case measure => (simp [intOf]; try omega)
                · have d6 : decide (f < x) = false := by simpa using hxf2
                  have HP1 : Hid (part (fun x => decide (x < f)) id (c.frag.take (k + 1)) = part (fun x => decide (x < f)) id (c.frag.take k)) := part_no _ HX1.out d5
                  have HP2 : Hid (part (fun x => decide (f < x)) (fun x => x - f - 1) (c.frag.take (k + 1)) = part (fun x => decide (f < x)) (fun x => x - f - 1) (c.frag.take k)) := part_no _ HX1.out d6
                  go_wp2_with fail
                  go_roundw
                  case rel => exact ⟨k + 1, A, cap, n, A2, cap2, n2, by omega, by go_num, hIr, by rw [HP1.out]; exact HN.out, by rw [HP2.out]; exact HN2.out, by rw [HP1.out]; exact hown, by rw [HP2.out]; exact hown2, hap⟩
                  case measure => (simp [intOf]; try omega)
            · obtain rfl : k = c.frag.length := by omega
              have d4 : decide (c.frag.length < c.frag.length) = false := by simp
              rw [← lowC_frag] at hn hown
              have e9 : part (fun x => decide (f < x)) (fun x => x - f - 1) (c.frag.take c.frag.length) = (higC c f).frag := (higC_frag c f).symm
              rw [e9] at hn2 hown2
              have HN := Lib.hid hn
              have HN2 := Lib.hid hn2
              obtain ⟨wd, hwd⟩ : ∃ wd : World, wd = wr := ⟨_, rfl⟩
              rw [← hwd]
              rw [← hwd] at hIr hown hown2
              clear hwd e9 hk hk1 wr hn hn2
              have hI := hIr.start
              replace hB : Below w.heap.size w wd := hB.trans (hIr.gr.to_below (Nat.le_of_lt hIr.lo) (Nat.le_of_lt (Nat.lt_trans hIr.lo hIr.md)) hB.size)
              clear hIr hap
              obtain ⟨k0, k1, k2, k3, k4⟩ := hI.cb.c5
              have hXd := hI.x
              have hYd := hI.y
              go_wp2_with fail
              go_loopw [9] (fun i wr => ∃ (k : Nat) (P : Option Addr) (pcap m : Nat) (P2 : Option Addr) (pcap2 m2 : Nat), k ≤ c.pas.length ∧ i = .int .i64 (k : Int) ∧ PInv wd w.heap.size gx gy c (some ⟨fb, fo, none⟩) fc pa pc f (min f c.long) c.plays tf (min tf c.long) c.plays (.slice A n cap) (.slice P m pcap) (.slice A2 n2 cap2) (.slice P2 m2 pcap2) wr ∧
                m = (part (fun p => decide (p.b < f)) id (c.pas.take k)).length ∧ m2 = (part (fun p => decide (f < p.a)) (shP (-f - 1)) (c.pas.take k)).length ∧
                wr.ownsRow wd.heap.size 49 3 (.slice P m pcap) m ((part (fun p => decide (p.b < f)) id (c.pas.take k)).flatMap (cellsOf 3 pcell)) ∧
                wr.ownsRow wd.heap.size 49 3 (.slice P2 m2 pcap2) m2 ((part (fun p => decide (f < p.a)) (shP (-f - 1)) (c.pas.take k)).flatMap (cellsOf 3 pcell)) ∧ Apart (.slice P m pcap) (.slice P2 m2 pcap2)) (fun i _ => c.pas.length - (intOf i).toNat)
              case atStart => exact ⟨0, none, 0, 0, none, 0, 0, Nat.zero_le _, rfl, hI, by simp [part], by simp [part], by simpa [part] using World.ownsRow_nil _ _ _ _, by simpa [part] using World.ownsRow_nil _ _ _ _, apart_nil _⟩
              case round =>
                obtain ⟨k, P, pcap, m, P2, pcap2, m2, hk, rfl, hIr, hm, hm2, hwn, hwn2, hap⟩ := hrel
                by_cases hk1 : k < c.pas.length
                · have d5 : decide (k < c.pas.length) = true := by simpa using hk1
                  have d5' : decide ((k : Int) < (c.pas.length : Int)) = true := by simp; omega
                  have ek1 : IntKind.i64.wrap ((k : Int) + 1) = ((k + 1 : Nat) : Int) := by rw [IntKind.wrap_i64]; omega
                  obtain ⟨b, off, p, hpa, hpb, hp1, hp2⟩ := hIr.cb.ps.at_ hk1
                  subst hpa
                  have c0 := hp2 0 (by omega)
                  have c1 := hp2 1 (by omega)
                  have c2 := hp2 2 (by omega)
                  simp only [Nat.add_zero, pcell] at c0 c1 c2
                  have hpf := HPF.out p (List.mem_of_getElem? hp1)
                  have HX1 := Lib.hid hp1
                  have hmk : m ≤ 40 := by have := part_len (fun p => decide (p.b < f)) id c.pas k; omega
                  have hmk2 : m2 ≤ 40 := by have := part_len (fun p => decide (f < p.a)) (shP (-f - 1)) c.pas k; omega
                  have HM := Lib.hid hm
                  have HM2 := Lib.hid hm2
                  clear hp1 hp2 hm hm2 k0 k1 k2 k3 k4
                  obtain ⟨k0, k1, k2, k3, k4⟩ := hIr.cb.c5
                  go_upto_region 19 with (fail)
                  have hbA := (Below.refl wr.heap.size wr).alloc (Nat.le_refl _) (.cells #[.int .i64 p.a, .int .i64 p.b, .int .i64 p.w] 49)
                  have hxs := Blk.new wr 49 #[.int .i64 p.a, .int .i64 p.b, .int .i64 p.w]
                  have hne := own_ne hwn (Nat.le_refl _)
                  have hne2 := own_ne hwn2 (Nat.le_refl _)
                  have hI7 := hIr.call hbA
                  replace hwn := own_call hwn hbA
                  replace hwn2 := own_call hwn2 hbA
                  have hpw := hIr.gr.size
                  clear k0 k1 k2 k3 k4 c0 c1 c2 hbA hIr
                  generalize wr.alloc (.cells #[.int .i64 p.a, .int .i64 p.b, .int .i64 p.w] 49) = wv at *
                  generalize wr.heap.size = pb at *
                  have s0 := hxs.cell 0
                  have s1 := hxs.cell 1
                  have s2 := hxs.cell 2
                  simp at s0 s1 s2
                  have hpbg : gx < pb ∧ gy < pb := by have := hI7.md; have := hI7.hi; omega
                  by_cases hbf : p.b < f
                  · have d6 : decide (p.b < f) = true := by simpa using hbf
                    have d7 : decide (f < p.a) = false := by simp; omega
                    have HP1 : Hid (part (fun p => decide (p.b < f)) id (c.pas.take (k + 1)) = part (fun p => decide (p.b < f)) id (c.pas.take k) ++ [p]) := part_yes _ HX1.out d6
                    have HP2 : Hid (part (fun p => decide (f < p.a)) (shP (-f - 1)) (c.pas.take (k + 1)) = part (fun p => decide (f < p.a)) (shP (-f - 1)) (c.pas.take k)) := part_no _ HX1.out d7
                    have fx := hI7.fx4
                    go_wp2_with (at_builtin; refine wpList_app2 slT_pas rfl (.tmp 135) (.tmp 137) rfl rfl hwn rfl rfl one_3 hI7.gr.size ?_ ?_ ?_)
                    any_goals omega
                    intro v4 w4 hown4 hg4 hat
                    have hb4 : Below wd.heap.size wv w4 := below_own hwn hg4 hI7.gr.size
                    obtain ⟨hown5, hap5⟩ := own_apart hwn2 hg4 hat hap
                    have hI4 := hI7.below hb4
                    have hxs4 : Blk w4 pb 49 #[.int .i64 p.a, .int .i64 p.b, .int .i64 p.w] := (hg4.block pb hxs.lt (ne_of_ads hne)).trans hxs
                    have fx4 := hI4.fx4
                    have fz4 := fun i => hI4.x.frozen i
                    rw [show [Value.int .i64 p.a, Value.int .i64 p.b, Value.int .i64 p.w] = [p].flatMap (cellsOf 3 pcell) from rfl, ← List.flatMap_append] at hown4
                    obtain ⟨A4, cap4, rfl⟩ := own_form hown4
                    clear fx s0 s1 s2 hg4 hat
                    go_upto_region 21 with (fail)
                    have hI6 := hI4.sx4 (.slice A4 (m + 1) cap4)
                    have hown6 := hI4.rx (o := 4) (z := .slice A4 (m + 1) cap4) hown4 (by decide)
                    have hown7 := hI4.rx (o := 4) (z := .slice A4 (m + 1) cap4) hown5 (by decide)
                    have hxs6 := hxs4.far (p := ⟨gx, 4, none⟩) (by show pb ≠ gx; omega) (.slice A4 (m + 1) cap4)
                    clear fx4 fz4 hxs hxs4
                    generalize w4.setCell ⟨gx, 4, none⟩ (.slice A4 (m + 1) cap4) = w6 at *
                    have s0 := hxs6.cell 0
                    simp at s0
                    go_wp2_with fail
                    go_roundw
                    case rel =>
                      first
                      | exact ⟨k + 1, A4, cap4, m + 1, P2, pcap2, m2, by omega, by go_num, hI6, by rw [HP1.out, List.length_append, ← HM.out]; rfl, by rw [HP2.out]; exact HM2.out, by rw [HP1.out]; exact hown6, by rw [HP2.out]; exact hown7, hap5⟩
                      | ((repeat apply Exists.intro); exact ⟨⟨k + 1, A4, cap4, m + 1, P2, pcap2, m2, by omega, by go_num, hI6, by rw [HP1.out, List.length_append, ← HM.out]; rfl, by rw [HP2.out]; exact HM2.out, by rw [HP1.out]; exact hown6, by rw [HP2.out]; exact hown7, hap5⟩, rfl⟩)
                    case measure => (simp [intOf]; try omega)
                  · have d6 : decide (p.b < f) = false := by simpa using hbf
                    by_cases hbf2 : f < p.a
                    · have d7 : decide (f < p.a) = true := by simpa using hbf2
                      have HP1 : Hid (part (fun p => decide (p.b < f)) id (c.pas.take (k + 1)) = part (fun p => decide (p.b < f)) id (c.pas.take k)) := part_no _ HX1.out d6
                      have HP2 : Hid (part (fun p => decide (f < p.a)) (shP (-f - 1)) (c.pas.take (k + 1)) = part (fun p => decide (f < p.a)) (shP (-f - 1)) (c.pas.take k) ++ [shP (-f - 1) p]) := part_yes _ HX1.out d7
                      obtain ⟨za, hza⟩ : ∃ za : Int, za = p.a + (-f - 1) := ⟨_, rfl⟩
                      obtain ⟨zb, hzb⟩ : ∃ zb : Int, zb = p.b + (-f - 1) := ⟨_, rfl⟩
                      have HZ : Hid (shP (-f - 1) p = ⟨za, zb, p.w⟩) := by rw [hza, hzb]; exact rfl
                      have e1 : IntKind.i64.wrap (p.a - f) = p.a - f := by rw [IntKind.wrap_i64]; omega
                      have e2 : IntKind.i64.wrap (p.a - f - 1) = za := by rw [IntKind.wrap_i64]; omega
                      have e3 : IntKind.i64.wrap (p.b - f) = p.b - f := by rw [IntKind.wrap_i64]; omega
                      have e4 : IntKind.i64.wrap (p.b - f - 1) = zb := by rw [IntKind.wrap_i64]; omega
                      clear hza hzb
                      rw [HZ.out] at HP2
                      have fx := hI7.fy4
                      go_upto_region 22 with (fail)
                      obtain ⟨F, hF⟩ : ∃ F : World → Prop, (∀ w', F w' ↔ (w'.cell? ⟨gy, 4, none⟩ = some (.slice P2 m2 pcap2) ∧ w'.cell? ⟨pb, 0, none⟩ = some (.int .i64 p.a) ∧ w'.cell? ⟨pb, 1, none⟩ = some (.int .i64 p.b) ∧ w'.cell? ⟨pb, 2, none⟩ = some (.int .i64 p.w))) := ⟨_, fun _ => Iff.rfl⟩
                      have hF0 : F wv := (hF wv).2 ⟨fx, s0, s1, s2⟩
                      haveI : Nonempty (SubW F) := ⟨⟨wv, hF0⟩⟩
                      have f0 : ∀ y : SubW F, y.w.cell? ⟨gy, 4, none⟩ = some (.slice P2 m2 pcap2) := fun y => ((hF y.w).1 y.h).1
                      have f1 : ∀ y : SubW F, y.w.cell? ⟨pb, 0, none⟩ = some (.int .i64 p.a) := fun y => ((hF y.w).1 y.h).2.1
                      have f2 : ∀ y : SubW F, y.w.cell? ⟨pb, 1, none⟩ = some (.int .i64 p.b) := fun y => ((hF y.w).1 y.h).2.2.1
                      have f3 : ∀ y : SubW F, y.w.cell? ⟨pb, 2, none⟩ = some (.int .i64 p.w) := fun y => ((hF y.w).1 y.h).2.2.2
                      have hg1v := hI7.y.lt
                      have hpbv := hxs.lt
                      have hFB : Hid (∀ {w' : World}, Below wv.heap.size wv w' → F w') := fun {w'} hb => (hF w').2 ⟨(hb.cell (p := ⟨gy, 4, none⟩) hg1v).trans fx, (hb.cell (p := ⟨pb, 0, none⟩) hpbv).trans s0, (hb.cell (p := ⟨pb, 1, none⟩) hpbv).trans s1, (hb.cell (p := ⟨pb, 2, none⟩) hpbv).trans s2⟩
                      have HF := Lib.hid hF
                      clear hF fx s0 s1 s2
                      have hxd : Below wv.heap.size wv wv.drew := (Below.refl wv.heap.size wv).drew
                      refine wp_region_sched (C := fun w' => ∃ y : SubW F, w' = y.w) [(0, true), (1, true), (2, true), (3, true), (4, true), (5, true), (6, true), (7, true), (8, true), (9, true), (10, true), (11, true), (12, true), (13, true), (14, false), (15, false), (16, false), (17, true), (18, false)] (by kernel_rfl) (by kernel_rfl) ⟨⟨wv.drew, hFB.out hxd⟩, rfl⟩ ?_
                      refine sched_q (by rfl) (by rfl) ?_
                      intro K hK
                      go_big_quiet_op
                      go_big_quiet_on
                      refine sched_q (by rfl) (by rfl) ?_
                      intro K hK
                      go_big_quiet_op
                      go_big_quiet_on
                      refine sched_q (by rfl) (by rfl) ?_
                      intro K hK
                      go_big_quiet_op
                      go_big_quiet_on
                      refine sched_q (by rfl) (by rfl) ?_
                      intro K hK
                      go_big_quiet_op
                      go_big_quiet_on
                      refine sched_q (by rfl) (by rfl) ?_
                      intro K hK
                      go_big_quiet_op
                      go_big_quiet_on
                      refine sched_q (by rfl) (by rfl) ?_
                      intro K hK
                      go_big_quiet_op
                      go_big_quiet_on
                      refine sched_q (by rfl) (by rfl) ?_
                      intro K hK
                      go_big_quiet_op
                      go_big_quiet_on
                      refine sched_q (by rfl) (by rfl) ?_
                      intro K hK
                      go_big_quiet_op
                      go_big_quiet_on
                      refine sched_q (by rfl) (by rfl) ?_
                      intro K hK
                      go_big_quiet_op
                      go_big_quiet_on
                      refine sched_q (by rfl) (by rfl) ?_
                      intro K hK
                      go_big_quiet_op
                      go_big_quiet_on
                      refine sched_q (by rfl) (by rfl) ?_
                      intro K hK
                      go_big_quiet_op
                      go_big_quiet_on
                      refine sched_q (by rfl) (by rfl) ?_
                      intro K hK
                      go_big_quiet_op
                      go_big_quiet_on
                      refine sched_q (by rfl) (by rfl) ?_
                      intro K hK
                      go_big_quiet_op
                      go_big_quiet_on
                      refine sched_q (by rfl) (by rfl) ?_
                      intro K hK
                      go_big_quiet_op
                      go_big_quiet_on
                      refine sched_c (by rfl) (by rfl) ?_
                      intro K' hK'
                      go_wp2_with fail
                      refine (passage_ok za zb p.w wv.drew).mono ?_
                      rintro e w5 ⟨rfl, hb5⟩
                      have hx5 : Below wv.heap.size wv w5 := hxd.trans (hb5.mono hxd.size)
                      go_wp2
                      refine hK' _ _ ⟨.inr ⟨⟨w5, hFB.out hx5⟩, rfl⟩, ?_⟩
                      clear hK' K'
                      refine sched_c (by rfl) (by rfl) ?_
                      intro K' hK'
                      go_wp2
                      have hx6 : Below wv.heap.size wv (w5.alloc (.cells #[.int .i64 za, .int .i64 zb, .int .i64 p.w] 49)) := hx5.alloc hx5.size _
                      refine hK' _ _ ⟨.inr ⟨⟨_, hFB.out hx6⟩, rfl⟩, ?_⟩
                      clear hK' K'
                      refine sched_c (by rfl) (by rfl) ?_
                      intro K' hK'
                      have hwn5 := own_call hwn hx5
                      have hwn25 := own_call hwn2 hx5
                      have hI5 := hI7.call hx5
                      refine wpList_app2 slT_pas rfl (.tmp 145) (.tmp 159) rfl rfl hwn25 rfl rfl one_3 hI5.gr.size ?_ ?_ ?_
                      · omega
                      · omega
                      intro v4 w4 hown4 hg4 hat
                      have hb4 : Below wd.heap.size w5 w4 := below_own hwn25 hg4 hI5.gr.size
                      obtain ⟨hown5, hap5⟩ := own_apart hwn5 hg4 hat hap.symm
                      have hI4 := hI5.below hb4
                      have hpb4 : w4.heap[pb]? = w5.heap[pb]? := hg4.block pb (Nat.lt_of_lt_of_le hpbv hx5.size) (ne_of_ads hne2)
                      have h5 := (HF.out w5).1 (hFB.out hx5)
                      have hF4 : F w4 := (HF.out w4).2 ⟨hI4.fy4, (World.cell?_of_block (a := ⟨pb, 0, none⟩) hpb4).trans h5.2.1, (World.cell?_of_block (a := ⟨pb, 1, none⟩) hpb4).trans h5.2.2.1, (World.cell?_of_block (a := ⟨pb, 2, none⟩) hpb4).trans h5.2.2.2⟩
                      rw [show (#[Value.int .i64 za, Value.int .i64 zb, Value.int .i64 p.w] : Array Value).toList = [(⟨za, zb, p.w⟩ : Pas)].flatMap (cellsOf 3 pcell) from rfl, ← List.flatMap_append, ← HP2.out] at hown4
                      obtain ⟨A4, cap4, rfl⟩ := own_form hown4
                      have fx4 := hI4.fy4
                      have fz4 := fun i => hI4.y.frozen i
                      clear hpb4 h5 hg4 hat
                      go_wp2
                      refine hK' _ _ ⟨.inr ⟨⟨_, hF4⟩, rfl⟩, ?_⟩
                      clear hK' K'
                      refine sched_q (by rfl) (by rfl) ?_
                      intro K hK
                      go_big_quiet_op
                      go_big_quiet_on
                      refine sched_c (by rfl) (by rfl) ?_
                      intro K' hK'
                      go_wp2
                      refine hK' _ _ ⟨(by first | exact .inl rfl | exact .inl trivial), ?_⟩
                      clear hK' K'
                      refine sched_nil ?_
                      clear f0 f1 f2 f3 hF0 this hFB HF hF4 F fx4 fz4
                      have hI6 := hI4.sy4 (.slice A4 (m2 + 1) cap4)
                      have hown6 := hI4.ry (o := 4) (z := .slice A4 (m2 + 1) cap4) hown4 (by decide)
                      have hown7 := hI4.ry (o := 4) (z := .slice A4 (m2 + 1) cap4) hown5 (by decide)
                      go_wp2_with fail
                      go_roundw
                      case rel =>
                        first
                        | exact ⟨k + 1, P, pcap, m, A4, cap4, m2 + 1, by omega, by go_num, hI6, by rw [HP1.out]; exact HM.out, by rw [HP2.out, List.length_append, ← HM2.out]; rfl, by rw [HP1.out]; exact hown7, hown6, hap5.symm⟩
                        | ((repeat apply Exists.intro); exact ⟨⟨k + 1, P, pcap, m, A4, cap4, m2 + 1, by omega, by go_num, hI6, by rw [HP1.out]; exact HM.out, by rw [HP2.out, List.length_append, ← HM2.out]; rfl, by rw [HP1.out]; exact hown7, hown6, hap5.symm⟩, rfl⟩)
                      case measure => (simp [intOf]; try omega)
                    · have d7 : decide (f < p.a) = false := by simpa using hbf2
                      have HP1 : Hid (part (fun p => decide (p.b < f)) id (c.pas.take (k + 1)) = part (fun p => decide (p.b < f)) id (c.pas.take k)) := part_no _ HX1.out d6
                      have HP2 : Hid (part (fun p => decide (f < p.a)) (shP (-f - 1)) (c.pas.take (k + 1)) = part (fun p => decide (f < p.a)) (shP (-f - 1)) (c.pas.take k)) := part_no _ HX1.out d7
                      go_wp2_with fail
                      go_roundw
                      case rel =>
                        first
                        | exact ⟨k + 1, P, pcap, m, P2, pcap2, m2, by omega, by go_num, hI7, by rw [HP1.out]; exact HM.out, by rw [HP2.out]; exact HM2.out, by rw [HP1.out]; exact hwn, by rw [HP2.out]; exact hwn2, hap⟩
                        | ((repeat apply Exists.intro); exact ⟨⟨k + 1, P, pcap, m, P2, pcap2, m2, by omega, by go_num, hI7, by rw [HP1.out]; exact HM.out, by rw [HP2.out]; exact HM2.out, by rw [HP1.out]; exact hwn, by rw [HP2.out]; exact hwn2, hap⟩, rfl⟩)
                      case measure => (simp [intOf]; try omega)
                · obtain rfl : k = c.pas.length := by omega
                  have d5 : decide (c.pas.length < c.pas.length) = false := by simp
                  rw [← lowC_pas] at hm hwn
                  have e9 : part (fun p => decide (f < p.a)) (shP (-f - 1)) (c.pas.take c.pas.length) = (higC c f).pas := (higC_pas c f).symm
                  rw [e9] at hm2 hwn2
                  have hown8 := hIr.keep hXd hYd hown (by decide)
                  have hown9 := hIr.keep hXd hYd hown2 (by decide)
                  have V1 := cyl_lowC HN.out hm hown8 hwn
                  have V2 := cyl_higC HN2.out hm2 hown9 hwn2
                  rw [← HTF.out] at V2
                  have hB2 : Below w.heap.size w wr := hB.trans (hIr.gr.to_below (Nat.le_of_lt hIr.lo) (Nat.le_of_lt (Nat.lt_trans hIr.lo hIr.md)) hB.size)
                  have hC := hIr.cb
                  have hX := hIr.x
                  have hY := hIr.y
                  clear hown hown2 hown8 hown9 hwn hwn2 hIr hap hm hm2 e9 hk hk1 hI hXd hYd hB k0 k1 k2 k3 k4
                  obtain ⟨k0, k1, k2, k3, k4⟩ := hC.c5
                  go_wp2_with fail
                  have C1 : Hid (checkCyl (lowC c f) = 0) := lowC_valid H0.out hf4.1 (by omega)
                  have C2 : Hid (checkCyl (higC c f) = 0) := higC_valid H0.out hf4.1 hf4.2
                  have hka : tK (lowC c f) = tK c := rfl
                  have hkb : tK (higC c f) = tK c := rfl
                  refine (worths_ok _ c _ hC.cyl).mono ?_
                  rintro e v1 ⟨ov, rfl, hO, hb2⟩
                  obtain ⟨ob, oo, oc, rfl, hob, ho1, ho2, hcell⟩ := hO.row (by rw [worthsOf_len H0.out]; omega)
                  rw [worthsOf_len H0.out, H0.out]
                  have HW : Hid (∀ j, j ≤ tK c → v1.cell? ⟨ob, oo + j, none⟩ = some (.int .i64 (mostK c j))) := fun j hj => hcell j _ (worthsOf_get H0.out hj)
                  replace hC := hC.call hb2
                  replace hX := hX.call hb2
                  replace hY := hY.call hb2
                  replace V1 := (V1.below hb2).more hb2.size
                  replace V2 := (V2.below hb2).more hb2.size
                  replace hB2 := hB2.trans (hb2.mono hB2.size)
                  clear hO hcell hb2 k0 k1 k2 k3 k4
                  obtain ⟨x0, x1, x2, x3, x4⟩ := hX.c5
                  go_wp2_with fail
                  refine (worths_ok _ (lowC c f) _ V1).mono ?_
                  rintro e v2 ⟨ov, rfl, hO, hb2⟩
                  obtain ⟨ab, ao, ac, rfl, hab, ha1, ha2, hcell⟩ := hO.row (by rw [worthsOf_len C1.out]; omega)
                  rw [worthsOf_len C1.out, hka, C1.out]
                  have HA : Hid (∀ j, j ≤ tK c → v2.cell? ⟨ab, ao + j, none⟩ = some (.int .i64 (mostK (lowC c f) j))) := fun j hj => hcell j _ (worthsOf_get C1.out hj)
                  replace HW : Hid (∀ j, j ≤ tK c → v2.cell? ⟨ob, oo + j, none⟩ = some (.int .i64 (mostK c j))) := fun j hj => (hb2.cell (p := ⟨ob, oo + j, none⟩) hob).trans (HW.out j hj)
                  replace hob := Nat.lt_of_lt_of_le hob hb2.size
                  replace hC := hC.call hb2
                  replace hY := hY.call hb2
                  replace V2 := (V2.below hb2).more hb2.size
                  replace hB2 := hB2.trans (hb2.mono hB2.size)
                  clear hO hcell hb2 V1 x0 x1 x2 x3 x4 hX
                  obtain ⟨x0, x1, x2, x3, x4⟩ := hY.c5
                  go_wp2_with fail
                  refine (worths_ok _ (higC c f) _ V2).mono ?_
                  rintro e v3 ⟨ov, rfl, hO, hb2⟩
                  obtain ⟨bb, bo, bc, rfl, hbb, hb1, hb3, hcell⟩ := hO.row (by rw [worthsOf_len C2.out]; omega)
                  rw [worthsOf_len C2.out, hkb, C2.out]
                  have HBB : Hid (∀ j, j ≤ tK c → v3.cell? ⟨bb, bo + j, none⟩ = some (.int .i64 (mostK (higC c f) j))) := fun j hj => hcell j _ (worthsOf_get C2.out hj)
                  replace HA : Hid (∀ j, j ≤ tK c → v3.cell? ⟨ab, ao + j, none⟩ = some (.int .i64 (mostK (lowC c f) j))) := fun j hj => (hb2.cell (p := ⟨ab, ao + j, none⟩) hab).trans (HA.out j hj)
                  replace HW : Hid (∀ j, j ≤ tK c → v3.cell? ⟨ob, oo + j, none⟩ = some (.int .i64 (mostK c j))) := fun j hj => (hb2.cell (p := ⟨ob, oo + j, none⟩) hob).trans (HW.out j hj)
                  replace hab := Nat.lt_of_lt_of_le hab hb2.size
                  replace hob := Nat.lt_of_lt_of_le hob hb2.size
                  replace hC := hC.call hb2
                  replace hB2 := hB2.trans (hb2.mono hB2.size)
                  clear hO hcell hb2 V2 x0 x1 x2 x3 x4 hY
                  obtain ⟨k0, k1, k2, k3, k4⟩ := hC.c5
                  rw [HK.out] at k2
                  have e9 : IntKind.i64.wrap ((tK c : Int) + 1) = ((tK c + 1 : Nat) : Int) := by rw [IntKind.wrap_i64]; omega
                  go_wp2_with fail
                  obtain ⟨MA, hMA⟩ : ∃ MA, MA = mostK (lowC c f) := ⟨_, rfl⟩
                  obtain ⟨MB, hMB⟩ : ∃ MB, MB = mostK (higC c f) := ⟨_, rfl⟩
                  have HPB : Hid (∀ k, k ≤ tK c → bestTo MA MB k (k + 1) = mostK c k) := fun k hk => by rw [hMA, hMB]; exact part_best H0.out hf4.1 hf4.2 HFM.out hk
                  have HMA : Hid (∀ k, k ≤ tK c → 0 ≤ MA k ∧ MA k ≤ 12000) := fun k hk => by rw [hMA]; exact mostK_bound C1.out hk
                  have HMB : Hid (∀ k, k ≤ tK c → 0 ≤ MB k ∧ MB k ≤ 12000) := fun k hk => by rw [hMB]; exact mostK_bound C2.out hk
                  rw [← hMA] at HA
                  rw [← hMB] at HBB
                  clear hMA hMB k0 k1 k2 k3 k4
                  go_loopw [17] (fun i wr => ∃ (k : Nat), k ≤ tK c + 1 ∧ i = .int .i64 k ∧ Below v3.heap.size v3 wr) (fun i _ => tK c + 1 - (intOf i).toNat)
                  case atStart => exact ⟨0, by omega, rfl, Below.refl _ _⟩
                  case round =>
                    obtain ⟨k, hk, rfl, hb⟩ := hrel
                    have ek : IntKind.i64.wrap (k : Int) = k := by rw [IntKind.wrap_i64]; omega
                    have ek2 : IntKind.i64.wrap ((k : Int) + 1) = ((k + 1 : Nat) : Int) := by rw [IntKind.wrap_i64]; omega
                    by_cases hk1 : k < tK c + 1
                    · have d5 : decide (k < tK c + 1) = true := by simpa using hk1
                      have d5' : decide ((k : Int) < (tK c : Int) + 1) = true := by simp; omega
                      have d5'' : decide ((k : Int) < ((tK c + 1 : Nat) : Int)) = true := by simp; omega
                      obtain ⟨wo, hwo⟩ : ∃ wo : World, wo = wr := ⟨_, rfl⟩
                      rw [← hwo] at hb
                      go_wp2_with fail
                      rw [← hwo]
                      clear hwo
                      go_loopw [18, 19] (fun s i wr => ∃ (j : Nat), j ≤ k + 1 ∧ i = .int .i64 j ∧ s = .int .i64 (bestTo MA MB k j) ∧ Below wo.heap.size wo wr) (fun _ i _ => k + 1 - (intOf i).toNat)
                      case atStart => exact ⟨0, by omega, rfl, rfl, Below.refl _ _⟩
                      case round =>
                        obtain ⟨j, hj, rfl, rfl, hbj⟩ := hrel
                        have ej : IntKind.i64.wrap (j : Int) = j := by rw [IntKind.wrap_i64]; omega
                        have ej2 : IntKind.i64.wrap ((j : Int) + 1) = ((j + 1 : Nat) : Int) := by rw [IntKind.wrap_i64]; omega
                        have hbx := hb.trans (hbj.mono hb.size)
                        by_cases hj1 : j ≤ k
                        · have d6 : decide (j ≤ k) = true := by simpa using hj1
                          have d6' : decide ((j : Int) ≤ (k : Int)) = true := by simp; omega
                          have e3 : (k : Int) - (j : Int) = ((k - j : Nat) : Int) := by omega
                          have e4 : IntKind.i64.wrap ((k : Int) - (j : Int)) = ((k - j : Nat) : Int) := by rw [IntKind.wrap_i64]; omega
                          have e5 : IntKind.i64.wrap (((k - j : Nat) : Int)) = ((k - j : Nat) : Int) := by rw [IntKind.wrap_i64]; omega
                          have e6 : k - j < tK c + 1 := by omega
                          have e7 : j < tK c + 1 := by omega
                          have r0 := Ext.of ((hbx.cell (p := ⟨ab, ao + j, none⟩) hab).trans (HA.out j (by omega)))
                          have r1 := Ext.of ((hbx.cell (p := ⟨bb, bo + (k - j), none⟩) hbb).trans (HBB.out (k - j) (by omega)))
                          have u1 := HMA.out j (by omega)
                          have u2 := HMB.out (k - j) (by omega)
                          have HS : Hid (bestTo MA MB k (j + 1) = max (bestTo MA MB k j) (MA j + MB (k - j))) := rfl
                          generalize MA j = y1 at *
                          generalize MB (k - j) = y2 at *
                          have e8 : IntKind.i64.wrap (y1 + y2) = y1 + y2 := by rw [IntKind.wrap_i64]; omega
                          go_upto_region 35 with (fail)
                          refine wp_region_ext (by kernel_rfl) (by kernel_rfl) ?_
                          repeat (go_big_quiet_step (fail))
                          refine wpQuiet_nil ?_
                          intro _ hw'
                          obtain ⟨xr, hw''⟩ := hw'
                          subst hw''
                          go_wp2
                          go_roundw
                          case rel => exact ⟨j + 1, by omega, by go_num, by rw [HS.out], hbj.trans (xr.h.mono hbj.size)⟩
                          case measure => (simp [intOf]; try omega)
                        · obtain rfl : j = k + 1 := by omega
                          have d6 : decide (k + 1 ≤ k) = false := by simp
                          have d6' : decide ((k : Int) + 1 ≤ (k : Int)) = false := decide_eq_false (by omega)
                          have c0 := (hbx.cell (p := ⟨ob, oo + k, none⟩) hob).trans (HW.out k (by omega))
                          rw [HPB.out k (by omega)]
                          generalize mostK c k = y3 at *
                          go_wp2_with fail
                          go_roundw
                          case rel => exact ⟨k + 1, by omega, by go_num, hbx⟩
                          case measure => (simp [intOf]; try omega)
                    · obtain rfl : k = tK c + 1 := by omega
                      have d5 : decide (tK c + 1 < tK c + 1) = false := by simp
                      have hB := hB2.trans (hb.mono hB2.size)
                      go_wp2_with fail
                      refine (works_ok wr).mono ?_
                      rintro e wz ⟨rfl, hbz⟩
                      go_wp2
                      go_ret
                      exact ⟨rfl, hB.trans (hbz.mono hB.size)⟩
end Go.Proofs.Ythplabmbbfefeaa
