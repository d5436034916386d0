/- Contract: open; Fits. -/
import Derived.Test.YtjjjockfppomdaaIdx
namespace Go.Proofs.Ytjjjockfppomdaa
open Go.RowKit Go.Shelf
set_option linter.unusedVariables false

def openE (c : Cyl) (l : List St) : Int := if checkCyl c ≠ 0 then checkCyl c else if l.all (isStep c) = false then 2 else 0
/-- what open hands out -/
def OpenPost (w : World) (c : Cyl) (e : Int) (r : Ending) (w' : World) : Prop :=
  Below w.heap.size w w' ∧ ((e ≠ 0 ∧ r = .returned (.tuple #[.pointer none, .int .i64 e])) ∨ (e = 0 ∧ checkCyl c = 0 ∧ ∃ x : TX, r = .returned (.tuple #[.pointer (some ⟨x.g, 0, none⟩), .int .i64 0]) ∧ TB w' x c ∧ w.heap.size ≤ x.ga ∧ w.heap.size ≤ x.gu))

set_option maxRecDepth 100000 in
set_option maxHeartbeats 1600000 in
theorem open_ok (v lv : Value) (c : Cyl) (l : List St) (w : World) (hv : CylV w w.heap.size v c) (hl : Arr w w.heap.size 2 lv l stcell) :
    Calls Try.prog 42 #[v, lv] w (OpenPost w c (openE c l)) := by
  obtain ⟨la, lc, rfl, hl1, hl2, -⟩ := id hl
  obtain ⟨pa, pc, rfl, hp⟩ := hv.open_
  have hC := CB.new hp
  have hB := (Below.refl w.heap.size w).alloc (Nat.le_refl _) (.cells #[.slice pa c.pcs.length pc, .int .i64 c.off, .int .i64 c.slo, .int .i64 c.shi] 26)
  go_enter Try.func42, Try.ntmps42
  go_upto_region 1 with (fail)
  have HWS : Hid ((w.alloc (.cells #[.slice pa c.pcs.length pc, .int .i64 c.off, .int .i64 c.slo, .int .i64 c.shi] 26)).heap.size = w.heap.size + 1) := by simp [Hid]
  generalize hW : w.alloc (.cells #[.slice pa c.pcs.length pc, .int .i64 c.off, .int .i64 c.slo, .int .i64 c.shi] 26) = W at *
  clear hW hp
  obtain ⟨k0, k1, k2, k3⟩ := hC.c4
  have HE1 : Hid (∀ h : checkCyl c ≠ 0, openE c l = checkCyl c) := fun h => if_pos h
  go_wp2_with fail
  refine (checkCyl_ok _ c W hC.cyl).mono ?_
  rintro e w1 ⟨rfl, hb1⟩
  have hC1 := hC.call hb1
  have hB1 := hB.trans (hb1.mono hB.size)
  clear k0 k1 k2 k3 hC hB hb1
  obtain ⟨k0, k1, k2, k3⟩ := hC1.c4
  by_cases h0 : checkCyl c = 0
  · have d0 : (checkCyl c != 0) = false := by simp [h0]
    have hany : (l.any fun s => decide (numS c s < 0)) = !l.all (isStep c) := by
      rw [List.not_all_eq_any_not]
      congr 1
      funext s
      have := numS_no (c := c) (s := s)
      rw [Bool.eq_iff_iff]
      simpa using this
    have HE2 : Hid (openE c l = if l.all (isStep c) = false then 2 else 0) := by rw [Hid, openE, if_neg (by simp [h0])]
    have H0 := Lib.hid h0
    have hnt := newTable_ok _ c w1 hC1.cyl h0
    clear h0
    go_wp2_with fail
    refine hnt.mono ?_
    rintro e w2 ⟨x, rfl, hT2, hN2, hga, hgu, hb2⟩
    have hB2 := hB1.trans (hb2.mono hB1.size)
    clear hC1 k0 k1 k2 k3 hnt
    have hsz := hB1.size
    go_upto_region 5 with (fail)
    have hP := Blk.new w2 72 #[.pointer (some ⟨x.g, 0, none⟩)]
    have hbA := (Below.refl w2.heap.size w2).alloc (Nat.le_refl _) (.cells #[.pointer (some ⟨x.g, 0, none⟩)] 72)
    have hT3 := hT2.call hbA
    have hB3 := hB2.trans (hbA.mono hB2.size)
    clear hbA hT2
    generalize w2.alloc (.cells #[.pointer (some ⟨x.g, 0, none⟩)] 72) = w3 at *
    generalize w2.heap.size = tb at *
    have hl3 := (hl.below hB3).more hB3.size
    have hcf := containsFunc_st _ l 63 #[] #[.pointer (some ⟨tb, 0, none⟩)] (fun s => decide (numS c s < 0)) w3 (fun _ _ => rfl) hl3 (fun y hy w4 hb4 => open1_ok x c y tb w4 (hT3.f.call hb4) (hP.call hb4))
    rw [hany] at hcf
    clear hl3 hl hany
    cases hbad : l.all (isStep c)
    · rw [hbad] at hcf
      simp only [Bool.not_false] at hcf
      have HE3 : Hid (openE c l = 2) := by rw [Hid, HE2.out, hbad]; rfl
      clear hbad
      go_wp2_with (go_at_call 62; refine hcf.mono ?_; rintro e w4 ⟨rfl, hb4⟩)
      have hB4 := hB3.trans (hb4.mono hB3.size)
      exact bodyPost_ret (v := .tuple #[.pointer none, .int .i64 2]) (by simp [results, Try.results42, go_sem]) rfl ⟨hB4, .inl ⟨by rw [HE3.out]; decide, by rw [HE3.out]⟩⟩
    · rw [hbad] at hcf
      simp only [Bool.not_true] at hcf
      have HE3 : Hid (openE c l = 0) := by rw [Hid, HE2.out, hbad]; rfl
      clear hbad
      go_wp2_with (go_at_call 62; refine hcf.mono ?_; rintro e w4 ⟨rfl, hb4⟩; have p0 := (hP.call hb4).cell 0; simp at p0)
      have hB4 := hB3.trans (hb4.mono hB3.size)
      have hT4 := hT3.call hb4
      exact bodyPost_ret (v := .tuple #[.pointer (some ⟨x.g, 0, none⟩), .int .i64 0]) (by simp [results, Try.results42, go_sem]) rfl ⟨hB4, .inr ⟨HE3.out, H0.out, x, rfl, hT4, by omega, by omega⟩⟩
  · have d0 : (checkCyl c != 0) = true := by simp [h0]
    have HE2 := Lib.hid (HE1.out h0)
    have H0 := Lib.hid h0
    clear h0
    go_wp2
    exact bodyPost_ret (v := .tuple #[.pointer none, .int .i64 (checkCyl c)]) (by simp [results, Try.results42, go_sem]) rfl ⟨hB1, .inl ⟨by rw [HE2.out]; exact H0.out, by rw [HE2.out]⟩⟩

set_option maxRecDepth 100000 in
set_option maxHeartbeats 1600000 in
theorem fits2_ok (v : Value) (c : Cyl) (x y : St) (w : World) (hv : CylV w w.heap.size v c) :
    Calls Try.prog 14 #[v, stV2 x, stV2 y] w fun r w' => r = .returned (.tuple #[.bool (fitsOf c x y).1, .int .i64 (fitsOf c x y).2]) ∧ Below w.heap.size w w' := by
  obtain ⟨xp, xt⟩ := x
  obtain ⟨yp, yt⟩ := y
  obtain ⟨pa, pc, rfl, hp⟩ := hv.open_
  have hC := CB.new hp
  have hB := (Below.refl w.heap.size w).alloc (Nat.le_refl _) (.cells #[.slice pa c.pcs.length pc, .int .i64 c.off, .int .i64 c.slo, .int .i64 c.shi] 26)
  go_enter Try.func14, Try.ntmps14
  go_upto_region 1 with (fail)
  have HWS : Hid ((w.alloc (.cells #[.slice pa c.pcs.length pc, .int .i64 c.off, .int .i64 c.slo, .int .i64 c.shi] 26)).heap.size = w.heap.size + 1) := by simp [Hid]
  generalize hW : w.alloc (.cells #[.slice pa c.pcs.length pc, .int .i64 c.off, .int .i64 c.slo, .int .i64 c.shi] 26) = W at *
  clear hW hp
  have hbA := (Below.refl W.heap.size W).alloc (Nat.le_refl _) (.cells #[.int .i64 xp, .bool xt] 28)
  have hS := Blk.new W 28 #[.int .i64 xp, .bool xt]
  have hz1 : (W.alloc (.cells #[.int .i64 xp, .bool xt] 28)).heap.size = W.heap.size + 1 := by simp
  rw [HWS.out] at hS hz1
  replace hC := hC.call hbA
  replace hB := hB.trans (hbA.mono hB.size)
  clear hbA
  generalize W.alloc (.cells #[.int .i64 xp, .bool xt] 28) = V at *
  have hbA := (Below.refl V.heap.size V).alloc (Nat.le_refl _) (.cells #[.int .i64 yp, .bool yt] 28)
  have hU := Blk.new V 28 #[.int .i64 yp, .bool yt]
  rw [hz1] at hU
  replace hC := hC.call hbA
  replace hS := hS.call hbA
  replace hB := hB.trans (hbA.mono hB.size)
  clear hbA hz1
  generalize V.alloc (.cells #[.int .i64 yp, .bool yt] 28) = V2 at *
  obtain ⟨k0, k1, k2, k3⟩ := hC.c4
  have s0 := hS.cell 0
  have s1 := hS.cell 1
  have u0 := hU.cell 0
  have u1 := hU.cell 1
  simp at s0 s1 u0 u1
  have hR := Blk.new V2 28 #[.int .i64 xp, .bool xt, .int .i64 yp, .bool yt]
  have hbA := (Below.refl V2.heap.size V2).alloc (Nat.le_refl _) (.cells #[.int .i64 xp, .bool xt, .int .i64 yp, .bool yt] 28)
  have hz2 : (V2.alloc (.cells #[.int .i64 xp, .bool xt, .int .i64 yp, .bool yt] 28)).heap.size = V2.heap.size + 1 := by simp
  have hC1 := hC.call hbA
  have hS1 := hS.call hbA
  have hU1 := hU.call hbA
  have hB1 := hB.trans (hbA.mono hB.size)
  go_wp2_with fail
  generalize V2.alloc (.cells #[.int .i64 xp, .bool xt, .int .i64 yp, .bool yt] 28) = V3 at *
  have harr : Arr V3 V3.heap.size 2 (.slice (some ⟨V2.heap.size, 0, none⟩) 2 2) [⟨xp, xt⟩, ⟨yp, yt⟩] stcell := Arr.lit hR (by omega) rfl (by simp) (by omega) (by simp [cellsOf, List.range_succ, stcell])
  refine (open_ok _ _ c [⟨xp, xt⟩, ⟨yp, yt⟩] V3 hC1.cyl harr).mono ?_
  rintro e w4 ⟨hb4, hpost⟩
  have hS4 := hS1.call hb4
  have hU4 := hU1.call hb4
  have hB4 := hB1.trans (hb4.mono hB1.size)
  clear hS1 hU1 hC1 hC hS hU hR harr hbA k0 k1 k2 k3 s0 s1 u0 u1
  rcases hpost with ⟨hne, rfl⟩ | ⟨heq, h0, x, rfl, hT, hga, hgu⟩
  · have d0 : (openE c [⟨xp, xt⟩, ⟨yp, yt⟩] != 0) = true := by simp [hne]
    have HE : Hid (fitsOf c ⟨xp, xt⟩ ⟨yp, yt⟩ = (false, openE c [⟨xp, xt⟩, ⟨yp, yt⟩])) := by
      rw [Hid, fitsOf, openE]
      unfold openE at hne
      by_cases hc : checkCyl c ≠ 0
      · rw [if_pos hc, if_pos hc]
      · rw [if_neg hc] at hne ⊢
        rw [if_neg hc]
        simp only [List.all_cons, List.all_nil, Bool.and_true] at hne ⊢
        split at hne
        · rename_i hh
          rw [if_pos hh, if_pos hh]
        · exact absurd rfl hne
    clear hne
    generalize openE c [⟨xp, xt⟩, ⟨yp, yt⟩] = er at *
    have hB := hB4
    go_wp2
    exact bodyPost_ret (v := .tuple #[.bool false, .int .i64 er]) (by simp [results, Try.results14, go_sem]) rfl ⟨by rw [HE.out], hB⟩
  · unfold openE at heq
    rw [if_neg (by simp [h0])] at heq
    simp only [List.all_cons, List.all_nil, Bool.and_true] at heq
    have hst : (isStep c ⟨xp, xt⟩ && isStep c ⟨yp, yt⟩) = true := by
      cases hh : (isStep c ⟨xp, xt⟩ && isStep c ⟨yp, yt⟩)
      · rw [hh] at heq; simp at heq
      · rfl
    have hst2 := hst
    rw [Bool.and_eq_true] at hst2
    obtain ⟨k, hk1, hk2⟩ := numS_got hst2.1
    obtain ⟨m, hm1, hm2⟩ := numS_got hst2.2
    have hE : fitsOf c ⟨xp, xt⟩ ⟨yp, yt⟩ = (fitN c k m, 0) := by
      rw [fitsOf, if_neg (by simp [h0]), hst, fitN_at hk2 hm2]; rfl
    have hkl := (List.getElem?_eq_some_iff.1 hk2).1
    have hml := (List.getElem?_eq_some_iff.1 hm2).1
    have h16 := hT.f.small
    have s0 := hS4.cell 0
    have s1 := hS4.cell 1
    have u0 := hU4.cell 0
    have u1 := hU4.cell 1
    simp at s0 s1 u0 u1
    have f0 := Ext.of s0
    have f1 := Ext.of s1
    have f2 := Ext.of u0
    have f3 := Ext.of u1
    have f4 := Ext.of (hT.f.tc.at_ (i := k) (k := m) (by omega) (by omega))
    have k1 : (k : Int) < 16 := by omega
    have k2 : (m : Int) < 16 := by omega
    have e1 : IntKind.i64.wrap (k : Int) = k := wrap_id _ (by omega) (by omega)
    have e2 : IntKind.i64.wrap (m : Int) = m := wrap_id _ (by omega) (by omega)
    have HA1 : Hid (∀ y : Ext w4, Calls Try.prog 43 #[.pointer (some ⟨x.g, 0, none⟩), .agg #[.int .i64 xp, .bool xt]] y.w fun r w' => r = .returned (.int .i64 (k : Int)) ∧ ∃ z : Ext w4, w' = z.w) := fun y => ext_call y (by have := index_ok x c ⟨xp, xt⟩ y.w (hT.f.call y.h); rwa [hk1] at this)
    have HA2 : Hid (∀ y : Ext w4, Calls Try.prog 43 #[.pointer (some ⟨x.g, 0, none⟩), .agg #[.int .i64 yp, .bool yt]] y.w fun r w' => r = .returned (.int .i64 (m : Int)) ∧ ∃ z : Ext w4, w' = z.w) := fun y => ext_call y (by have := index_ok x c ⟨yp, yt⟩ y.w (hT.f.call y.h); rwa [hm1] at this)
    have hf5 : (fitV c k m == 1) = fitN c k m := by
      unfold fitV
      cases fitN c k m <;> rfl
    have HE : Hid (fitsOf c ⟨xp, xt⟩ ⟨yp, yt⟩ = ((fitV c k m == 1), 0)) := by rw [Hid, hE, hf5]
    clear hE hf5 hst hst2 hk1 hk2 hm1 hm2 heq h0 s0 s1 u0 u1 hT
    generalize fitV c k m = fv at *
    go_upto_region 4 with (fail)
    refine wp_region_ext (by kernel_rfl) (by kernel_rfl) ?_
    repeat (go_big_quiet_step ((first | (go_at_call 43; with_reducible exact HA1.out _) | (go_at_call 43; with_reducible exact HA2.out _))))
    refine wpQuiet_nil ?_
    intro _ hw'
    obtain ⟨xr, hw''⟩ := hw'
    subst hw''
    have hB := hB4.trans (xr.h.mono hB4.size)
    go_wp2
    exact bodyPost_ret (v := .tuple #[.bool (fv == 1), .int .i64 0]) (by simp [results, Try.results14, go_sem]) rfl ⟨by rw [HE.out], hB⟩
end Go.Proofs.Ytjjjockfppomdaa
