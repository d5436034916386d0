/- The law PlayCertain: the walk. -/
import Derived.Test.YthplabmbbfefeaaLawC
import Derived.Test.YthplabmbbfefeaaBy
import Derived.Test.YthplabmbbfefeaaRefD
import Derived.Test.YthplabmbbfefeaaOut
namespace Go.Proofs.Ythplabmbbfefeaa
open Go.RowKit Go.Shelf
set_option linter.unusedVariables false

/-- a list of numbers in memory, cell by cell -/
theorem row_cell {w : World} {B n c : Nat} {A : Option Addr} {l : List Int} (h : Arr w B 1 (.slice A n c) l icell) {k : Nat} (hk : k < l.length) :
    ∃ b off x, A = some ⟨b, off, none⟩ ∧ b < B ∧ l[k]? = some x ∧ w.cell? ⟨b, off + k, none⟩ = some (.int .i64 x) := by
  obtain ⟨b, off, x, h1, h2, h3, h4⟩ := h.at_ hk
  have := h4 0 (by omega)
  rw [Nat.mul_one] at this
  exact ⟨b, off, x, h1, h2, h3, this⟩

theorem kindsOf_get {c : Cyl} (h : checkCyl c = 0) {m : Int} {j : Nat} {x : Int} (hx : (kindsOf c m)[j]? = some x) : x = kindOf c m j := by
  unfold kindsOf at hx
  rw [if_pos h, List.getElem?_map] at hx
  cases hr : (List.range c.pas.length)[j]? with
  | none => rw [hr] at hx; simp at hx
  | some i =>
    rw [hr] at hx
    obtain ⟨h1, h2⟩ := List.getElem?_eq_some_iff.1 hr
    simp at h2
    subst h2
    simpa using hx.symm
theorem kindsOf_len {c : Cyl} (h : checkCyl c = 0) (m : Int) : (kindsOf c m).length = c.pas.length := by
  unfold kindsOf
  rw [if_pos h]
  simp

set_option maxRecDepth 100000 in
set_option maxHeartbeats 3200000 in
theorem lcertain_ok (v bv gv : Value) (c : Cyl) (bl : List (Fin 256 × Fin 256)) (given : List Str) (w : World) (hv : CylV w w.heap.size v c) (hbl : Arr w w.heap.size 2 bv bl bycell) (hgl : Arr w w.heap.size 2 gv given scell) :
    Calls Try.prog 9 #[v, bv, gv] w fun r w' => r = .returned (.bool true) ∧ Below w.heap.size w w' := by
  obtain ⟨ba, bc, rfl, hs'⟩ := id hbl
  obtain ⟨ga, gc, rfl, hs''⟩ := id hgl
  clear hs' hs''
  obtain ⟨fa, fc, pa, pc, rfl, hf, hp⟩ := hv.open_
  have hC := CB.new hf hp
  have hB := (Below.refl w.heap.size w).alloc (Nat.le_refl _) (.cells #[.int .i64 c.turns, .int .i64 c.long, .int .i64 c.plays, .slice fa c.frag.length fc, .slice pa c.pas.length pc] 25)
  go_enter Try.func9, Try.ntmps9
  go_upto_region 1 with (fail)
  generalize hW : w.alloc (.cells #[.int .i64 c.turns, .int .i64 c.long, .int .i64 c.plays, .slice fa c.frag.length fc, .slice pa c.pas.length pc] 25) = W at *
  clear hW hf hp
  obtain ⟨k0, k1, k2, k3, k4⟩ := hC.c5
  have h1 := (hbl.below hB).more hB.size
  have h2 := (hgl.below hB).more hB.size
  clear hbl hgl
  go_wp2_with fail
  refine (fine_ok _ c _ hC.cyl).mono ?_
  rintro e w1 ⟨rfl, hb1⟩
  replace hC := hC.call hb1
  replace hB := hB.trans ((hb1).mono hB.size)
  replace h1 := (h1.below hb1).more (hb1).size
  replace h2 := (h2.below hb1).more (hb1).size
  clear k0 k1 k2 k3 k4 hb1
  cases hg : fineB c
  · go_wp2_with fail
    refine (works_ok w1).mono ?_
    rintro e wz ⟨rfl, hbz⟩
    go_wp2
    go_ret
    exact ⟨rfl, hB.trans (hbz.mono hB.size)⟩
  · have h0 : checkCyl c = 0 := by
      unfold fineB at hg
      simp at hg
      exact hg.2
    have H0 := Lib.hid h0
    clear h0
    by_cases hl1 : 20 < bl.length
    · have d1 : decide (20 < bl.length) = true := by simpa using hl1
      have d1' : decide ((20 : Int) < (bl.length : Int)) = true := by simp; omega
      go_wp2_with fail
      refine (works_ok w1).mono ?_
      rintro e wz ⟨rfl, hbz⟩
      go_wp2
      go_ret
      exact ⟨rfl, hB.trans (hbz.mono hB.size)⟩
    · have d1 : decide (20 < bl.length) = false := by simpa using hl1
      have d1' : decide ((20 : Int) < (bl.length : Int)) = false := by simp; omega
      by_cases hl2 : 20 < given.length
      · have d2 : decide (20 < given.length) = true := by simpa using hl2
        have d2' : decide ((20 : Int) < (given.length : Int)) = true := by simp; omega
        go_wp2_with fail
        refine (works_ok w1).mono ?_
        rintro e wz ⟨rfl, hbz⟩
        go_wp2
        go_ret
        exact ⟨rfl, hB.trans (hbz.mono hB.size)⟩
      · have d2 : decide (20 < given.length) = false := by simpa using hl2
        have d2' : decide ((20 : Int) < (given.length : Int)) = false := by simp; omega
        have HB : Hid (bestOf c = (wayOf c, mostOf c, 0)) := best_ok_eq H0.out
        have HS : Hid ((saves c (wayOf c)).2 = (mostOf c, 0)) := way_saves H0.out
        obtain ⟨mo, hmo⟩ : ∃ mo, mo = mostOf c := ⟨_, rfl⟩
        have HT := Lib.hid (fun (q : List Str) (h : (saves c q).2.2 = 0) (h' : (saves c q).2.1 = mostOf c) => saves_best H0.out h h')
        rw [← hmo] at HB HS HT
        have HMO := Lib.hid hmo
        clear hmo
        have HFIT := Lib.hid (pas_fit (pasOk_of H0.out))
        obtain ⟨kl, hkl⟩ : ∃ kl, kl = kindsOf c 24000 := ⟨_, rfl⟩
        have hkn : kl.length = c.pas.length := by rw [hkl]; exact kindsOf_len H0.out _
        have HKV : Hid (∀ (j : Nat) (x : Int), kl[j]? = some x → x = kindOf c 24000 j) := fun j x hx => by rw [hkl] at hx; exact kindsOf_get H0.out hx
        have hT30 : c.turns ≤ 30 := by have := cyl_nat H0.out; omega
        have hL30 : 1 ≤ c.long ∧ c.long ≤ 30 := by have := cyl_nat H0.out; omega
        have hn12 : c.pas.length ≤ 12 := ((valid_iff c).1 H0.out).2.2.1
        obtain ⟨k0, k1, k2, k3, k4⟩ := hC.c5
        go_wp2_with fail
        refine (kinds_ok _ c _ hC.cyl).mono ?_
        rintro e w2 ⟨ov, rfl, hK, hb2⟩
        rw [← hkl] at hK
        rw [H0.out]
        replace hC := hC.call hb2
        replace hB := hB.trans ((hb2).mono hB.size)
        replace h1 := (h1.below hb2).more (hb2).size
        replace h2 := (h2.below hb2).more (hb2).size
        clear k0 k1 k2 k3 k4 hb2
        obtain ⟨ka, kc, rfl, -⟩ := id hK
        rw [hkn] at hK ⊢
        obtain ⟨k0, k1, k2, k3, k4⟩ := hC.c5
        go_wp2_with fail
        refine (best_ok _ c _ hC.cyl).mono ?_
        rintro e w3 ⟨oq, rfl, hQ, hb3⟩
        replace hK := (hK.below hb3).more hb3.size
        replace hC := hC.call hb3
        replace hB := hB.trans ((hb3).mono hB.size)
        replace h1 := (h1.below hb3).more (hb3).size
        replace h2 := (h2.below hb3).more (hb3).size
        clear k0 k1 k2 k3 k4 hb3
        rw [HB.out] at hQ
        rw [HB.out]
        dsimp only at hQ ⊢
        obtain ⟨qa, qc, rfl, -⟩ := id hQ
        obtain ⟨k0, k1, k2, k3, k4⟩ := hC.c5
        go_wp2_with fail
        refine (by_ok _ _ c bl _ hC.cyl h1 H0.out).mono ?_
        rintro e w4 ⟨ya, yc, yl, rfl, hY, hyp, hb4⟩
        replace hK := (hK.below hb4).more hb4.size
        replace hQ := (hQ.below hb4).more hb4.size
        replace hC := hC.call hb4
        replace hB := hB.trans ((hb4).mono hB.size)
        replace h1 := (h1.below hb4).more (hb4).size
        replace h2 := (h2.below hb4).more (hb4).size
        clear k0 k1 k2 k3 k4 hb4
        clear h1 hyp
        have hKL := Lib.hid hkl
        clear hkl
        have hbA := (Below.refl w4.heap.size w4).alloc (Nat.le_refl _) (.cells #[.slice qa (wayOf c).length qc, .slice ya yl.length yc, .slice ga given.length gc] 26)
        have hxs := Blk.new w4 26 #[.slice qa (wayOf c).length qc, .slice ya yl.length yc, .slice ga given.length gc]
        have hCA := hC.call hbA
        have hBA := hB.trans (hbA.mono hB.size)
        have hKA := (hK.below hbA).more hbA.size
        have hQA := (hQ.below hbA).more hbA.size
        have hYA := (hY.below hbA).more hbA.size
        have h2A := (h2.below hbA).more hbA.size
        have hlb := hxs.lt
        have s0 := hxs.cell 0
        have s1 := hxs.cell 1
        have s2 := hxs.cell 2
        clear hbA hK hQ hY h2 hC hB hxs
        go_wp2_with fail
        generalize w4.alloc (.cells #[.slice qa (wayOf c).length qc, .slice ya yl.length yc, .slice ga given.length gc] 26) = W5 at *
        generalize w4.heap.size = lb at *
        simp at s0 s1 s2
        have HL : Hid (∀ i : Nat, i < 3 → ∃ (A : Option Addr) (cap : Nat) (q : List Str), W5.cell? ⟨lb, i, none⟩ = some (.slice A q.length cap) ∧ Arr W5 W5.heap.size 2 (.slice A q.length cap) q scell ∧ (i = 0 → (saves c q).2 = (mo, 0))) := by
          intro i hi
          have : i = 0 ∨ i = 1 ∨ i = 2 := by omega
          rcases this with rfl | rfl | rfl
          · exact ⟨qa, qc, wayOf c, s0, hQA, fun _ => HS.out⟩
          · exact ⟨ya, yc, yl, s1, hYA, fun h => by omega⟩
          · exact ⟨ga, gc, given, s2, h2A, fun h => by omega⟩
        clear s0 s1 s2 hQA hYA h2A
        go_loopw [13] (fun i wr => ∃ (k : Nat), k ≤ 3 ∧ i = .int .i64 k ∧ Below W5.heap.size W5 wr) (fun i _ => 3 - (intOf i).toNat)
        case atStart => exact ⟨0, by omega, rfl, Below.refl _ _⟩
        case round =>
          obtain ⟨i, hi, rfl, hb⟩ := hrel
          have hCr := hCA.call hb
          have hBr := hBA.trans (hb.mono hBA.size)
          have hKr := (hKA.below hb).more hb.size
          have hlbr : lb < wr.heap.size := Nat.lt_of_lt_of_le hlb hb.size
          have e1 : IntKind.i64.wrap (i : Int) = i := by rw [IntKind.wrap_i64]; omega
          by_cases hi3 : i < 3
          · have d3 : decide (i < 3) = true := by simpa using hi3
            have d3' : decide ((i : Int) < 3) = true := by simp; omega
            obtain ⟨A, cap, q, g1, g2, g3⟩ := HL.out i hi3
            have G1 := (hb.cell (p := ⟨lb, i, none⟩) hlb).trans g1
            have G2 := (g2.below hb).more hb.size
            have G3 := Lib.hid g3
            clear g1 g2 g3
            obtain ⟨k0, k1, k2, k3, k4⟩ := hCr.c5
            have f0 := Ext.of k0
            have f1 := Ext.of k1
            have f2 := Ext.of k2
            have f3 := Ext.of k3
            have f4 := Ext.of k4
            have f5 := Ext.of G1
            clear k0 k1 k2 k3 k4
            go_upto_region 11 with (fail)
            refine wp_region_schedH (C := fun w' => ∃ x : Ext wr, w' = x.w) [(0, true), (1, true), (2, true), (3, true), (4, true), (5, false), (6, true), (7, true), (8, true), (9, true), (10, true), (11, true), (12, true)] (by kernel_rfl) (by kernel_rfl) ⟨⟨wr.drew, (Below.refl _ wr).drew⟩, rfl⟩ ?_
            have hxd : Below wr.heap.size wr wr.drew := (Below.refl wr.heap.size wr).drew
            refine schedH_q (by rfl) (by rfl) ?_
            intro K hK
            go_big_quiet_op
            go_big_quiet_on
            refine schedH_q (by rfl) (by rfl) ?_
            intro K hK
            go_big_quiet_op
            go_big_quiet_on
            refine schedH_q (by rfl) (by rfl) ?_
            intro K hK
            go_big_quiet_op
            go_big_quiet_on
            refine schedH_q (by rfl) (by rfl) ?_
            intro K hK
            go_big_quiet_op
            go_big_quiet_on
            refine schedH_q (by rfl) (by rfl) ?_
            intro K hK
            go_big_quiet_op
            go_big_quiet_on
            refine schedH_c (by rfl) (by rfl) ?_
            intro K' hK'
            go_wp2_with fail
            refine (rsaves_ok _ _ c q wr.drew (hCr.call hxd).cyl ((G2.below hxd).more hxd.size)).mono ?_
            rintro e w6 ⟨ou, rfl, -, hb6⟩
            have hx6 := hxd.trans (hb6.mono hxd.size)
            go_wp2
            refine hK' _ _ ⟨⟨⟨w6, hx6⟩, rfl⟩, ?_⟩
            clear hK' K'
            refine schedH_q (by rfl) (by rfl) ?_
            intro K hK
            go_big_quiet_op
            go_big_quiet_on
            refine schedH_q (by rfl) (by rfl) ?_
            intro K hK
            go_big_quiet_op
            go_big_quiet_on
            refine schedH_q (by rfl) (by rfl) ?_
            intro K hK
            go_big_quiet_op
            go_big_quiet_on
            refine schedH_q (by rfl) (by rfl) ?_
            intro K hK
            go_big_quiet_op
            go_big_quiet_on
            refine schedH_q (by rfl) (by rfl) ?_
            intro K hK
            go_big_quiet_op
            go_big_quiet_on
            refine schedH_q (by rfl) (by rfl) ?_
            intro K hK
            go_big_quiet_op
            go_big_quiet_on
            refine schedH_q (by rfl) (by rfl) ?_
            intro K hK
            go_big_quiet_op
            go_big_quiet_on
            refine schedH_nil ?_
            have hC6 := hCr.call hx6
            have hB6 := hBr.trans (hx6.mono hBr.size)
            have hK6 := (hKr.below hx6).more hx6.size
            have G5 := (hx6.cell (p := ⟨lb, i, none⟩) hlbr).trans G1
            have G6 := (G2.below hx6).more hx6.size
            have hb6' := hb.trans (hx6.mono hb.size)
            have hlb6 := Nat.lt_of_lt_of_le hlbr hx6.size
            have HTQ := Lib.hid (HT.out q)
            clear f0 f1 f2 f3 f4 f5 G1 G2 hxd hb6 hCr hBr hKr hx6
            by_cases hi0 : i = 0
            · have e5 := G3.out hi0
              have e6 : (saves c q).2.2 = 0 := by rw [e5]
              have e7 : (saves c q).2.1 = mo := by rw [e5]
              have HBEST := Lib.hid (HTQ.out e6 e7)
              have di : ((i : Int) == 0) = true := by simpa using hi0
              rw [e6, e7]
              clear e5 e6 e7 G3 HTQ hi0
              go_wp2_with fail
              go_loopw [17] (fun j wx => ∃ (k : Nat), k ≤ c.pas.length ∧ j = .int .i64 k ∧ Below w6.heap.size w6 wx) (fun j _ => c.pas.length - (intOf j).toNat)
              case atStart => exact ⟨0, by omega, rfl, Below.refl _ _⟩
              case round =>
                obtain ⟨j, hj, rfl, hbx⟩ := hrel
                have hCx := hC6.call hbx
                have hBx := hB6.trans (hbx.mono hB6.size)
                have hKx := (hK6.below hbx).more hbx.size
                have G7 := (hbx.cell (p := ⟨lb, i, none⟩) hlb6).trans G5
                have G8 := (G6.below hbx).more hbx.size
                have e2 : IntKind.i64.wrap (j : Int) = j := by rw [IntKind.wrap_i64]; omega
                by_cases hjn : j < c.pas.length
                · have d4 : decide (j < c.pas.length) = true := by simpa using hjn
                  have d4' : decide ((j : Int) < (c.pas.length : Int)) = true := by simp; omega
                  obtain ⟨kb, ko, x, rfl, hkb, hx1, hx2⟩ := row_cell hKx (by rw [hkn]; exact hjn)
                  obtain ⟨b, off, p, hpa, hpb, hp1, hp2⟩ := hCx.ps.at_ hjn
                  subst hpa
                  have c0 := hp2 0 (by omega)
                  have c1 := hp2 1 (by omega)
                  have c2 := hp2 2 (by omega)
                  simp only [Nat.add_zero, pcell] at c0 c1 c2
                  obtain ⟨k0, k1, k2, k3, k4⟩ := hCx.c5
                  have f0 := Ext.of k4
                  have f1 := Ext.of c0
                  have f2 := Ext.of c1
                  have f3 := Ext.of c2
                  have f4 := Ext.of G7
                  have f5 := Ext.of hx2
                  have HW := Lib.hid (fun x : Ext wr => ext_call x (saved_ok p _ q x.w ((G8.below x.h).more x.h.size)))
                  have HX : x = kindOf c 24000 j := HKV.out j x hx1
                  have hx0 : x = 0 ∨ x = 1 ∨ x = 2 := by rw [HX]; exact kind_val c 24000 j
                  have H2 : Hid (x = 2 → saved q p = true) := fun h => kind_two H0.out (by omega) hp1 (HX.symm.trans h) HBEST.out.1 (HBEST.out.2.trans HMO.out)
                  have H3 : Hid (x = 0 → saved q p = false) := fun h => kind_zero H0.out (by omega) hp1 (HX.symm.trans h) HBEST.out.1 (HBEST.out.2.trans HMO.out)
                  have hb9 := hbx
                  clear k0 k1 k2 k3 k4 hp1 hp2 hx1 hx2 c0 c1 c2 G7 HX
                  go_upto_region 18 with (fail)
                  refine wp_region_ext (by kernel_rfl) (by kernel_rfl) ?_
                  repeat (go_big_quiet_step ((go_at_call 36; exact HW.out _)))
                  refine wpQuiet_nil ?_
                  intro _ hw'
                  obtain ⟨xr, hw''⟩ := hw'
                  subst hw''
                  have ck := f5 xr
                  have hx9 := xr.h
                  obtain ⟨wq, hq⟩ := xr
                  dsimp only at *
                  rcases hx0 with hx0 | hx0 | hx0
                  · have hsv := H3.out hx0
                    rw [hsv]
                    rw [hx0] at ck
                    clear hsv H2 H3 HW f5 G8
                    go_wp2_with fail
                    go_roundw
                    case rel => exact ⟨j + 1, by omega, by go_num, hbx.trans (hx9.mono hbx.size)⟩
                    case measure => (simp [intOf]; try omega)
                  · rw [hx0] at ck
                    clear H2 H3 HW f5 G8
                    cases hsv : saved q p
                    · clear hsv
                      go_wp2_with fail
                      go_roundw
                      case rel => exact ⟨j + 1, by omega, by go_num, hbx.trans (hx9.mono hbx.size)⟩
                      case measure => (simp [intOf]; try omega)
                    · clear hsv
                      go_wp2_with fail
                      go_roundw
                      case rel => exact ⟨j + 1, by omega, by go_num, hbx.trans (hx9.mono hbx.size)⟩
                      case measure => (simp [intOf]; try omega)
                  · have hsv := H2.out hx0
                    rw [hsv]
                    rw [hx0] at ck
                    clear hsv H2 H3 HW f5 G8
                    go_wp2_with fail
                    go_roundw
                    case rel => exact ⟨j + 1, by omega, by go_num, hbx.trans (hx9.mono hbx.size)⟩
                    case measure => (simp [intOf]; try omega)
                · have d4 : decide (j < c.pas.length) = false := by simpa using hjn
                  have d4' : decide ((j : Int) < (c.pas.length : Int)) = false := by simp; omega
                  have hb9 := hb6'.trans (hbx.mono hb6'.size)
                  go_wp2_with fail
                  go_roundw
                  case rel => exact ⟨i + 1, by omega, by go_num, hb9⟩
                  case measure => (simp [intOf]; try omega)
            · have di : ((i : Int) == 0) = false := by simpa using hi0
              by_cases e6 : (saves c q).2.2 = 0
              · by_cases e7 : (saves c q).2.1 = mo
                · have HBEST := Lib.hid (HTQ.out e6 e7)
                  rw [e6, e7]
                  clear e6 e7 G3 HTQ hi0
                  go_wp2_with fail
                  go_loopw [17] (fun j wx => ∃ (k : Nat), k ≤ c.pas.length ∧ j = .int .i64 k ∧ Below w6.heap.size w6 wx) (fun j _ => c.pas.length - (intOf j).toNat)
                  case atStart => exact ⟨0, by omega, rfl, Below.refl _ _⟩
                  case round =>
                    obtain ⟨j, hj, rfl, hbx⟩ := hrel
                    have hCx := hC6.call hbx
                    have hBx := hB6.trans (hbx.mono hB6.size)
                    have hKx := (hK6.below hbx).more hbx.size
                    have G7 := (hbx.cell (p := ⟨lb, i, none⟩) hlb6).trans G5
                    have G8 := (G6.below hbx).more hbx.size
                    have e2 : IntKind.i64.wrap (j : Int) = j := by rw [IntKind.wrap_i64]; omega
                    by_cases hjn : j < c.pas.length
                    · have d4 : decide (j < c.pas.length) = true := by simpa using hjn
                      have d4' : decide ((j : Int) < (c.pas.length : Int)) = true := by simp; omega
                      obtain ⟨kb, ko, x, rfl, hkb, hx1, hx2⟩ := row_cell hKx (by rw [hkn]; exact hjn)
                      obtain ⟨b, off, p, hpa, hpb, hp1, hp2⟩ := hCx.ps.at_ hjn
                      subst hpa
                      have c0 := hp2 0 (by omega)
                      have c1 := hp2 1 (by omega)
                      have c2 := hp2 2 (by omega)
                      simp only [Nat.add_zero, pcell] at c0 c1 c2
                      obtain ⟨k0, k1, k2, k3, k4⟩ := hCx.c5
                      have f0 := Ext.of k4
                      have f1 := Ext.of c0
                      have f2 := Ext.of c1
                      have f3 := Ext.of c2
                      have f4 := Ext.of G7
                      have f5 := Ext.of hx2
                      have HW := Lib.hid (fun x : Ext wr => ext_call x (saved_ok p _ q x.w ((G8.below x.h).more x.h.size)))
                      have HX : x = kindOf c 24000 j := HKV.out j x hx1
                      have hx0 : x = 0 ∨ x = 1 ∨ x = 2 := by rw [HX]; exact kind_val c 24000 j
                      have H2 : Hid (x = 2 → saved q p = true) := fun h => kind_two H0.out (by omega) hp1 (HX.symm.trans h) HBEST.out.1 (HBEST.out.2.trans HMO.out)
                      have H3 : Hid (x = 0 → saved q p = false) := fun h => kind_zero H0.out (by omega) hp1 (HX.symm.trans h) HBEST.out.1 (HBEST.out.2.trans HMO.out)
                      have hb9 := hbx
                      clear k0 k1 k2 k3 k4 hp1 hp2 hx1 hx2 c0 c1 c2 G7 HX
                      go_upto_region 18 with (fail)
                      refine wp_region_ext (by kernel_rfl) (by kernel_rfl) ?_
                      repeat (go_big_quiet_step ((go_at_call 36; exact HW.out _)))
                      refine wpQuiet_nil ?_
                      intro _ hw'
                      obtain ⟨xr, hw''⟩ := hw'
                      subst hw''
                      have ck := f5 xr
                      have hx9 := xr.h
                      obtain ⟨wq, hq⟩ := xr
                      dsimp only at *
                      rcases hx0 with hx0 | hx0 | hx0
                      · have hsv := H3.out hx0
                        rw [hsv]
                        rw [hx0] at ck
                        clear hsv H2 H3 HW f5 G8
                        go_wp2_with fail
                        go_roundw
                        case rel => exact ⟨j + 1, by omega, by go_num, hbx.trans (hx9.mono hbx.size)⟩
                        case measure => (simp [intOf]; try omega)
                      · rw [hx0] at ck
                        clear H2 H3 HW f5 G8
                        cases hsv : saved q p
                        · clear hsv
                          go_wp2_with fail
                          go_roundw
                          case rel => exact ⟨j + 1, by omega, by go_num, hbx.trans (hx9.mono hbx.size)⟩
                          case measure => (simp [intOf]; try omega)
                        · clear hsv
                          go_wp2_with fail
                          go_roundw
                          case rel => exact ⟨j + 1, by omega, by go_num, hbx.trans (hx9.mono hbx.size)⟩
                          case measure => (simp [intOf]; try omega)
                      · have hsv := H2.out hx0
                        rw [hsv]
                        rw [hx0] at ck
                        clear hsv H2 H3 HW f5 G8
                        go_wp2_with fail
                        go_roundw
                        case rel => exact ⟨j + 1, by omega, by go_num, hbx.trans (hx9.mono hbx.size)⟩
                        case measure => (simp [intOf]; try omega)
                    · have d4 : decide (j < c.pas.length) = false := by simpa using hjn
                      have d4' : decide ((j : Int) < (c.pas.length : Int)) = false := by simp; omega
                      have hb9 := hb6'.trans (hbx.mono hb6'.size)
                      go_wp2_with fail
                      go_roundw
                      case rel => exact ⟨i + 1, by omega, by go_num, hb9⟩
                      case measure => (simp [intOf]; try omega)
                · have d7 : ((saves c q).2.1 == mo) = false := by simpa using e7
                  rw [e6]
                  generalize (saves c q).2.1 = z1 at *
                  go_wp2_with fail
                  go_roundw
                  case rel => exact ⟨i + 1, by omega, by go_num, hb6'⟩
                  case measure => (simp [intOf]; try omega)
              · have d6 : ((saves c q).2.2 == 0) = false := by simpa using e6
                generalize (saves c q).2.1 = z1 at *
                generalize (saves c q).2.2 = z2 at *
                go_wp2_with fail
                go_roundw
                case rel => exact ⟨i + 1, by omega, by go_num, hb6'⟩
                case measure => (simp [intOf]; try omega)
          · have d3 : decide (i < 3) = false := by simpa using hi3
            have d3' : decide ((i : Int) < 3) = false := by simp; omega
            go_wp2_with fail
            obtain ⟨wo, hwo⟩ : ∃ wo : World, wo = wr := ⟨_, rfl⟩
            rw [← hwo]
            rw [← hwo] at hCr hBr hKr hlbr hb
            clear hwo e1 d3 d3' hi3
            go_loopw [19] (fun j wr => ∃ (k : Nat), k ≤ c.pas.length ∧ j = .int .i64 k ∧ Below wo.heap.size wo wr) (fun j _ => c.pas.length - (intOf j).toNat)
            case atStart => exact ⟨0, by omega, rfl, Below.refl _ _⟩
            case round =>
              obtain ⟨j, hj, rfl, hbx⟩ := hrel
              have hCx := hCr.call hbx
              have hBx := hBr.trans (hbx.mono hBr.size)
              have hKx := (hKr.below hbx).more hbx.size
              have e2 : IntKind.i64.wrap (j : Int) = j := by rw [IntKind.wrap_i64]; omega
              by_cases hjn : j < c.pas.length
              · have d4 : decide (j < c.pas.length) = true := by simpa using hjn
                have d4' : decide ((j : Int) < (c.pas.length : Int)) = true := by simp; omega
                obtain ⟨kb, ko, x, rfl, hkb, hx1, hx2⟩ := row_cell hKx (by rw [hkn]; exact hjn)
                obtain ⟨b, off, p, hpa, hpb, hp1, hp2⟩ := hCx.ps.at_ hjn
                subst hpa
                have c0 := hp2 0 (by omega)
                have c1 := hp2 1 (by omega)
                have c2 := hp2 2 (by omega)
                simp only [Nat.add_zero, pcell] at c0 c1 c2
                obtain ⟨k0, k1, k2, k3, k4⟩ := hCx.c5
                have HX : x = kindOf c 24000 j := HKV.out j x hx1
                have hx0 : x = 0 ∨ x = 1 ∨ x = 2 := by rw [HX]; exact kind_val c 24000 j
                have H2 : Hid (0 < x → p.b - p.a + 1 ≤ c.long ∧ worn c p.a p.b = false) := fun h => kind_fit (m := 24000) H0.out (by omega) hp1 (by rw [← HX]; exact h)
                have hpf : 0 ≤ p.a ∧ p.a ≤ p.b ∧ p.b < c.turns := by have := HFIT.out p (List.mem_of_getElem? hp1); omega
                obtain ⟨p1, p2, p3⟩ := hpf
                clear hp1 hp2 hx1 HX
                go_upto_region 25 with (fail)
                have hbA := (Below.refl wr.heap.size wr).alloc (Nat.le_refl _) (.cells #[.int .i64 p.a, .int .i64 p.b, .int .i64 p.w] 49)
                have hxs := Blk.new wr 49 #[.int .i64 p.a, .int .i64 p.b, .int .i64 p.w]
                have hC7 := hCx.call hbA
                have hb7 := hbx.trans (hbA.mono hbx.size)
                have ck := (hbA.cell (p := ⟨kb, ko + j, none⟩) hkb).trans hx2
                have s0 := hxs.cell 0
                have s1 := hxs.cell 1
                clear k0 k1 k2 k3 k4 c0 c1 c2 hx2 hbA hxs
                generalize wr.alloc (.cells #[.int .i64 p.a, .int .i64 p.b, .int .i64 p.w] 49) = W7 at *
                generalize wr.heap.size = pb at *
                simp at s0 s1
                obtain ⟨k0, k1, k2, k3, k4⟩ := hC7.c5
                have e3 : IntKind.i64.wrap (p.b - p.a) = p.b - p.a := by rw [IntKind.wrap_i64]; omega
                have e4 : IntKind.i64.wrap (p.b - p.a + 1) = p.b - p.a + 1 := by rw [IntKind.wrap_i64]; omega
                rcases hx0 with hx0 | hx0 | hx0
                · rw [hx0] at ck
                  clear hx0 H2
                  go_wp2_with fail
                  go_roundw
                  case rel => exact ⟨j + 1, by omega, by go_num, hb7⟩
                  case measure => (simp [intOf]; try omega)
                · have H5 := H2.out (by omega)
                  rw [hx0] at ck
                  clear hx0 H2
                  have d5 : decide (c.long < p.b - p.a + 1) = false := by simp; omega
                  have HW5 := Lib.hid H5.2
                  clear H5
                  go_wp2_with fail
                  refine (worn_ok _ c p.a p.b _ hC7.cyl).mono ?_
                  rintro e w8 ⟨rfl, hb8⟩
                  rw [HW5.out]
                  go_wp2_with fail
                  go_roundw
                  case rel => exact ⟨j + 1, by omega, by go_num, hb7.trans (hb8.mono hb7.size)⟩
                  case measure => (simp [intOf]; try omega)
                · have H5 := H2.out (by omega)
                  rw [hx0] at ck
                  clear hx0 H2
                  have d5 : decide (c.long < p.b - p.a + 1) = false := by simp; omega
                  have HW5 := Lib.hid H5.2
                  clear H5
                  go_wp2_with fail
                  refine (worn_ok _ c p.a p.b _ hC7.cyl).mono ?_
                  rintro e w8 ⟨rfl, hb8⟩
                  rw [HW5.out]
                  go_wp2_with fail
                  go_roundw
                  case rel => exact ⟨j + 1, by omega, by go_num, hb7.trans (hb8.mono hb7.size)⟩
                  case measure => (simp [intOf]; try omega)
              · have d4 : decide (j < c.pas.length) = false := by simpa using hjn
                have d4' : decide ((j : Int) < (c.pas.length : Int)) = false := by simp; omega
                have hB := hBx
                go_wp2_with fail
                refine (works_ok wr).mono ?_
                rintro e wz ⟨rfl, hbz⟩
                go_wp2
                go_ret
                exact ⟨rfl, hB.trans (hbz.mono hB.size)⟩
end Go.Proofs.Ythplabmbbfefeaa
