/- Contracts: alike, Alike. -/
import Derived.Test.YtgngpdnppdbgoaaDic
namespace Go.Proofs.Ytgngpdnppdbgoaa
open Go.RowKit Go.Shelf
set_option linter.unusedVariables false

theorem alike_ok (d : Nat) (lv : Value) (c : Nat → Nat) (x y : Nat) (w : World) (hd : DictB w d lv c) (hx : x < 101) (hy : y < 101) :
    Calls Try.prog 49 #[.pointer (some ⟨d, 0, none⟩), .int .i64 (x : Int), .int .i64 (y : Int)] w fun r w' => r = .returned (.bool (c x == c y)) ∧ Below w.heap.size w w' := by
  have HE : Hid (((c x : Int) == (c y : Int)) = (c x == c y)) := by rw [Hid, Bool.eq_iff_iff]; simp; omega
  go_enter Try.func49, Try.ntmps49
  have f0 := Ext.of (hd.at_ hx)
  have f1 := Ext.of (hd.at_ hy)
  have xi : (x : Int) < 101 := by omega
  have yi : (y : Int) < 101 := by omega
  clear hd
  go_upto_region 1 with (fail)
  refine wp_region_ext (by kernel_rfl) (by kernel_rfl) ?_
  repeat (go_big_quiet_step (fail))
  refine wpQuiet_nil ?_
  intro _ hw'
  obtain ⟨xr, hw''⟩ := hw'
  subst hw''
  have hb := xr.h
  go_wp2
  go_ret
  exact ⟨by rw [← HE.out]; rfl, hb⟩

set_option maxHeartbeats 800000 in
theorem alikeP_ok (v : Value) (b : List (Int × Int)) (x y : Int) (w : World) (hv : BookV w w.heap.size v b) :
    Calls Try.prog 15 #[v, .int .i64 x, .int .i64 y] w fun r w' => r = .returned (.tuple #[.bool (alikeM b x y).1, .int .i64 (alikeM b x y).2]) ∧ Below w.heap.size w w' := by
  obtain ⟨pa, pc, rfl, hp⟩ := hv.open_
  have hC := BB.new hp
  have hB := (Below.refl w.heap.size w).alloc (Nat.le_refl _) (.cells #[.slice pa b.length pc] 24)
  go_enter Try.func15, Try.ntmps15
  go_upto_region 1 with (fail)
  generalize hW : w.alloc (.cells #[.slice pa b.length pc] 24) = W at *
  clear hW hp hv
  have k0 := hC.c0
  go_wp2_with fail
  refine (checkBook_ok _ b W hC.bv).mono ?_
  rintro e w1 ⟨rfl, hb⟩
  replace hC := hC.call hb
  replace hB := hB.trans (hb.mono hB.size)
  clear hb k0
  by_cases h0 : checkBook b = 0
  · have HG : Hid (alikeM b x y = if (isWordB x && isWordB y) = false then (false, 2) else (likeB b x y, 0)) := if_neg (by simp [h0])
    rw [h0]
    have H0 := Lib.hid h0
    clear h0
    have hx2 := Blk.new w1 3 #[.int .i64 x, .int .i64 y]
    have hbA := (Below.refl w1.heap.size w1).alloc (Nat.le_refl _) (.cells #[.int .i64 x, .int .i64 y] 3)
    have hC1 := hC.call hbA
    have hB1 := hB.trans (hbA.mono hB.size)
    have hiw := isWord_ok _ [x, y] _ (Arr.lit (cap := 2) (n := 2) hx2 (by simp) rfl (by simp) (by omega) (by simp [cellsOf, List.range_succ]))
    clear hx2 hbA
    go_wp2_with fail
    refine hiw.mono ?_
    rintro e w2 ⟨rfl, hb⟩
    replace hC := hC1.call hb
    replace hB := hB1.trans (hb.mono hB1.size)
    clear hb hiw hC1 hB1
    have HX : Hid ([x, y].all isWordB = (isWordB x && isWordB y)) := by simp [Hid]
    cases hz : [x, y].all isWordB
    · have HE : Hid (alikeM b x y = (false, 2)) := by rw [Hid, HG.out, if_pos (by rw [← HX.out]; exact hz)]
      clear hz
      go_wp2
      exact bodyPost_ret (v := .tuple #[.bool false, .int .i64 2]) (by simp [results, Try.results15, go_sem]) rfl ⟨by rw [HE.out], hB⟩
    · have HE : Hid (alikeM b x y = (likeB b x y, 0)) := by rw [Hid, HG.out, if_neg (by rw [← HX.out, hz]; simp)]
      have hw2 : isWordB x = true ∧ isWordB y = true := by rw [HX.out, Bool.and_eq_true] at hz; exact hz
      obtain ⟨hxx, hyy⟩ := hw2
      rw [isWordB_iff] at hxx hyy
      obtain ⟨xn, rfl⟩ : ∃ xn : Nat, x = (xn : Int) := ⟨x.toNat, by omega⟩
      obtain ⟨yn, rfl⟩ : ∃ yn : Nat, y = (yn : Int) := ⟨y.toNat, by omega⟩
      have hxn : xn < 101 := by omega
      have hyn : yn < 101 := by omega
      have HL : Hid (likeB b (xn : Int) (yn : Int) = (cls (nats b) xn == cls (nats b) yn)) := by unfold likeB clsI; rw [Hid, Int.toNat_natCast, Int.toNat_natCast]
      clear hz hxx hyy
      have k0 := hC.c0
      go_wp2_with fail
      refine (newDictionary_ok _ b w2 hC.bv H0.out).mono ?_
      rintro e w3 ⟨d, lv, rfl, hd, hdl, hb⟩
      replace hB := hB.trans (hb.mono hB.size)
      clear hb k0 hC
      go_wp2_with fail
      refine (alike_ok d lv _ xn yn w3 hd hxn hyn).mono ?_
      rintro e w4 ⟨rfl, hb⟩
      replace hB := hB.trans (hb.mono hB.size)
      clear hb hd hxn hyn hdl
      rw [← HL.out]
      go_wp2
      exact bodyPost_ret (v := .tuple #[.bool (likeB b (xn : Int) (yn : Int)), .int .i64 0]) (by simp [results, Try.results15, go_sem]) rfl ⟨by rw [HE.out], hB⟩
  · have HE : Hid (alikeM b x y = (false, checkBook b)) := if_pos h0
    have d0 : (checkBook b != 0) = true := by simpa using h0
    clear h0 hC
    go_wp2
    exact bodyPost_ret (v := .tuple #[.bool false, .int .i64 (checkBook b)]) (by simp [results, Try.results15, go_sem]) rfl ⟨by rw [HE.out], hB⟩
end Go.Proofs.Ytgngpdnppdbgoaa
