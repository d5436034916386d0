/- The law PlayFewest: the walk. -/
import Derived.Test.YthplabmbbfefeaaLawC
import Derived.Test.YthplabmbbfefeaaPln
namespace Go.Proofs.Ythplabmbbfefeaa
open Go.RowKit Go.Shelf
set_option linter.unusedVariables false

/-- a list of numbers in memory, cell by cell -/
theorem Arr.row {w : World} {B : Nat} {v : Value} {l : List Int} (h : Arr w B 1 v l icell) (hl : 0 < l.length) :
    ∃ b off cap, v = .slice (some ⟨b, off, none⟩) l.length cap ∧ b < B ∧ l.length ≤ cap ∧ cap ≤ 9223372036854775807 ∧ ∀ j x, l[j]? = some x → w.cell? ⟨b, off + j, none⟩ = some (.int .i64 x) := by
  obtain ⟨A, c, rfl, h1, h2, h3⟩ := h
  obtain ⟨b, off, rfl, hb, hc⟩ := h3 hl
  refine ⟨b, off, c, rfl, hb, h1, h2, fun j x hx => ?_⟩
  have := hc j x hx 0 (by omega)
  rwa [Nat.mul_one] at this

theorem CylV.cut {w : World} {B : Nat} {fv pv : Value} {c : Cyl} {k : Nat} (h : CylV w B (.agg #[.int .i64 c.turns, .int .i64 c.long, .int .i64 c.plays, fv, pv]) c) :
    CylV w B (.agg #[.int .i64 c.turns, .int .i64 c.long, .int .i64 (k : Int), fv, pv]) (cutK c k) := by
  obtain ⟨fv', pv', h1, h2, h3⟩ := h
  simp only [Value.agg.injEq, Array.mk.injEq, List.cons.injEq, and_true, true_and] at h1
  obtain ⟨rfl, rfl⟩ := h1
  exact ⟨_, _, rfl, h2, h3⟩

set_option maxRecDepth 100000 in
set_option maxHeartbeats 3200000 in
theorem lfewest_ok (v : Value) (c : Cyl) (x : Int) (w : World) (hv : CylV w w.heap.size v c) (hx : (Lit.int .u16 x).wf = true) :
    Calls Try.prog 10 #[v, .int .u16 x] w fun r w' => r = .returned (.bool true) ∧ Below w.heap.size w w' := by
  have hx0 : 0 ≤ x ∧ x ≤ 65535 := by
    have e1 : IntKind.u16.min = 0 := rfl
    have e2 : IntKind.u16.max = 65535 := rfl
    simp only [Lit.wf, e1, e2, Bool.and_eq_true, decide_eq_true_eq] at hx
    exact hx
  clear hx
  obtain ⟨fa, fc, pa, pc, rfl, hf, hp⟩ := hv.open_
  have hC := CB.new hf hp
  have hB := (Below.refl w.heap.size w).alloc (Nat.le_refl _) (.cells #[.int .i64 c.turns, .int .i64 c.long, .int .i64 c.plays, .slice fa c.frag.length fc, .slice pa c.pas.length pc] 25)
  go_enter Try.func10, Try.ntmps10
  go_upto_region 1 with (fail)
  generalize hW : w.alloc (.cells #[.int .i64 c.turns, .int .i64 c.long, .int .i64 c.plays, .slice fa c.frag.length fc, .slice pa c.pas.length pc] 25) = W at *
  clear hW hf hp
  obtain ⟨k0, k1, k2, k3, k4⟩ := hC.c5
  go_wp2_with fail
  refine (fine_ok _ c _ hC.cyl).mono ?_
  rintro e w1 ⟨rfl, hb1⟩
  replace hC := hC.call hb1
  replace hB := hB.trans ((hb1).mono hB.size)
  clear k0 k1 k2 k3 k4 hb1
  cases hg : fineB c
  · go_wp2_with fail
    refine (works_ok w1).mono ?_
    rintro e wz ⟨rfl, hbz⟩
    go_wp2
    go_ret
    exact ⟨rfl, hB.trans (hbz.mono hB.size)⟩
  · have h0 : checkCyl c = 0 := by
      unfold fineB at hg
      simp at hg
      exact hg.2
    have H0 := Lib.hid h0
    clear h0
    obtain ⟨k0, k1, k2, k3, k4⟩ := hC.c5
    go_wp2_with fail
    refine (worths_ok _ c _ hC.cyl).mono ?_
    rintro e w2 ⟨ov, rfl, hO, hb2⟩
    replace hC := hC.call hb2
    replace hB := hB.trans ((hb2).mono hB.size)
    clear k0 k1 k2 k3 k4 hb2
    obtain ⟨ob, oo, oc, rfl, hob, ho1, ho2, hcell⟩ := hO.row (by rw [worthsOf_len H0.out]; omega)
    rw [worthsOf_len H0.out] at ho1
    rw [worthsOf_len H0.out, H0.out]
    obtain ⟨k0, k1, k2, k3, k4⟩ := hC.c5
    have e16 : IntKind.i64.wrap x = x := by rw [IntKind.wrap_i64]; omega
    go_wp2_with fail
    refine (fewest_ok _ c x _ hC.cyl).mono ?_
    rintro e w3 ⟨rfl, hb3⟩
    have hW : Hid (∀ j, j ≤ tK c → w3.cell? ⟨ob, oo + j, none⟩ = some (.int .i64 (mostK c j))) := fun j hj =>
      (hb3.cell (p := ⟨ob, oo + j, none⟩) hob).trans (hcell j _ (worthsOf_get H0.out hj))
    have hob3 : ob < w3.heap.size := Nat.lt_of_lt_of_le hob hb3.size
    clear hcell hO hob
    replace hC := hC.call hb3
    replace hB := hB.trans ((hb3).mono hB.size)
    clear k0 k1 k2 k3 k4 hb3
    obtain ⟨k0, k1, k2, k3, k4⟩ := hC.c5
    have HK : Hid (c.plays = (tK c : Int)) := (cyl_nat H0.out).2.1
    have hK6 : tK c ≤ 6 := (cyl_nat H0.out).2.2.2.2.1
    rw [HK.out] at k2
    rcases few_cases H0.out hx0.1 with ⟨e3, hlt⟩ | ⟨k, hk, e3, hge, hlt⟩
    · have d1 : decide (mostK c (tK c) < x) = true := by simpa using hlt
      have HL := Lib.hid hlt
      rw [e3]
      dsimp only
      have c1 := hW.out (tK c) (Nat.le_refl _)
      clear hlt
      go_wp2_with fail
      refine (works_ok w3).mono ?_
      rintro e wz ⟨rfl, hbz⟩
      go_wp2
      go_ret
      exact ⟨rfl, hB.trans (hbz.mono hB.size)⟩
    · have d1 : decide (mostK c k < x) = false := by simp; omega
      have HG := Lib.hid hge
      have HL := Lib.hid hlt
      rw [e3]
      dsimp only
      have c1 := hW.out k hk
      clear hge hlt
      have HB := Lib.hid (fun w' => fun hx => best_ok (.agg #[.int .i64 c.turns, .int .i64 c.long, .int .i64 (k : Int), .slice fa c.frag.length fc, .slice pa c.pas.length pc]) (cutK c k) w' hx)
      have HE : Hid (bestOf (cutK c k) = (wayOf (cutK c k), mostK c k, 0)) := by
        rw [best_ok_eq (cutK_valid H0.out hk), mostOf_cut H0.out hk]
        exact rfl
      have hk1 : decide ((k : Int) < 0) = false := by simp
      have hk2 : decide ((tK c : Int) < (k : Int)) = false := by simp; omega
      have hk3 : ((k : Int) == (13 : Int)) = false := by simp; omega
      have hk5 : k < tK c + 1 := by omega
      have hk6 : (k : Int) < (tK c : Int) + 1 := by omega
      by_cases hk0 : k = 0
      · have hk4 : decide (0 < (k : Int)) = false := by simp; omega
        have hk7 : ¬ 0 < k := by omega
        have hk8 : decide (0 < k) = false := by simpa using hk0
        clear hk0
        go_wp2_with fail
        have hb4 := (Below.refl w3.heap.size w3).alloc (Nat.le_refl _) (.cells #[.int .i64 c.turns, .int .i64 c.long, .int .i64 (k : Int), .slice fa c.frag.length fc, .slice pa c.pas.length pc] 25)
        have hC4 := (((hC.cyl).below hb4).more hb4.size).cut (k := k)
        have c4 := (hb4.cell (p := ⟨ob, oo + k, none⟩) hob3).trans c1
        have hob4 := Nat.lt_of_lt_of_le hob3 hb4.size
        replace hB := hB.trans (hb4.mono hB.size)
        clear hb4 hC k0 k1 k2 k3 k4 c1
        refine (HB.out _ hC4).mono ?_
        rintro e w5 ⟨oq, rfl, hQ, hb5⟩
        have c5 := (hb5.cell (p := ⟨ob, oo + k, none⟩) hob4).trans c4
        replace hB := hB.trans (hb5.mono hB.size)
        rw [HE.out]
        dsimp only
        clear c4 hQ hb5 hC4
        go_wp2_with fail
        refine (works_ok w5).mono ?_
        rintro e wz ⟨rfl, hbz⟩
        go_wp2
        go_ret
        exact ⟨rfl, hB.trans (hbz.mono hB.size)⟩
      · have hk4 : decide (0 < (k : Int)) = true := by simp; omega
        have hk7 : 0 < k := by omega
        have hk8 : decide (0 < k) = true := by simpa using hk7
        have hk9 : (k : Int) - 1 = ((k - 1 : Nat) : Int) := by omega
        have hk10 : k - 1 < tK c + 1 := by omega
        clear hk0
        have c0 := hW.out (k - 1) (by omega)
        have d0 : decide (x ≤ mostK c (k - 1)) = false := by have := HL.out (k - 1) (by omega); simp; omega
        go_wp2_with fail
        have hb4 := (Below.refl w3.heap.size w3).alloc (Nat.le_refl _) (.cells #[.int .i64 c.turns, .int .i64 c.long, .int .i64 (k : Int), .slice fa c.frag.length fc, .slice pa c.pas.length pc] 25)
        have hC4 := (((hC.cyl).below hb4).more hb4.size).cut (k := k)
        have c4 := (hb4.cell (p := ⟨ob, oo + k, none⟩) hob3).trans c1
        have hob4 := Nat.lt_of_lt_of_le hob3 hb4.size
        replace hB := hB.trans (hb4.mono hB.size)
        clear hb4 hC k0 k1 k2 k3 k4 c1
        refine (HB.out _ hC4).mono ?_
        rintro e w5 ⟨oq, rfl, hQ, hb5⟩
        have c5 := (hb5.cell (p := ⟨ob, oo + k, none⟩) hob4).trans c4
        replace hB := hB.trans (hb5.mono hB.size)
        rw [HE.out]
        dsimp only
        clear c4 hQ hb5 hC4
        go_wp2_with fail
        refine (works_ok w5).mono ?_
        rintro e wz ⟨rfl, hbz⟩
        go_wp2
        go_ret
        exact ⟨rfl, hB.trans (hbz.mono hB.size)⟩
end Go.Proofs.Ythplabmbbfefeaa
