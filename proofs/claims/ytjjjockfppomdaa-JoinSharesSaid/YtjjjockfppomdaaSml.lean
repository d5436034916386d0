/- Contracts of the laws' small functions: less, Has, before. -/
import Derived.Test.YtjjjockfppomdaaJsp
import Derived.Test.YtjjjockfppomdaaLaw
namespace Go.Proofs.Ytjjjockfppomdaa
open Go.RowKit Go.Shelf
set_option linter.unusedVariables false

/-- a part of a slice -/
theorem Arr.sub {α : Type} {w : World} {B size n c : Nat} {A : Option Addr} {l : List α} {cell : α → Nat → Value} (h : Arr w B size (.slice A n c) l cell) {lo hi : Nat} (h1 : lo ≤ hi) (h2 : hi ≤ l.length) {A' : Option Addr} {n' c' : Nat}
    (hn : n' = hi - lo) (hc : c' = c - lo) (hA : lo < hi → ∀ b off, A = some ⟨b, off, none⟩ → A' = some ⟨b, off + lo * size, none⟩) : Arr w B size (.slice A' n' c') ((l.drop lo).take (hi - lo)) cell := by
  obtain ⟨A0, c0, hv, g1, g2, g3⟩ := h
  injection hv with hA0 hn0 hc0
  subst hA0 hn0 hc0 hn hc
  have hl : ((l.drop lo).take (hi - lo)).length = hi - lo := by rw [List.length_take, List.length_drop]; omega
  refine ⟨A', c - lo, by rw [hl], by rw [hl]; omega, by omega, fun hp => ?_⟩
  rw [hl] at hp
  obtain ⟨b, off, ha, hb, hcl⟩ := g3 (by omega)
  refine ⟨b, off + lo * size, hA (by omega) b off ha, hb, fun i x hx j hj => ?_⟩
  have hi2 : i < hi - lo := by
    have := (List.getElem?_eq_some_iff.1 hx).1
    rw [hl] at this
    exact this
  rw [List.getElem?_take, if_pos hi2, List.getElem?_drop] at hx
  have := hcl (lo + i) x hx j hj
  rw [show off + lo * size + i * size + j = off + (lo + i) * size + j by rw [Nat.add_mul]; omega]
  exact this
theorem lessB_stop {a b : List St} (h : a = [] ∨ b = []) : lessB a b = false := by
  rcases h with rfl | rfl
  · rfl
  · cases a <;> rfl

set_option maxRecDepth 100000 in
set_option maxHeartbeats 1600000 in
theorem less_ok (av bv : Value) (a b : List St) (w : World) (ha : Arr w w.heap.size 2 av a stcell) (hb : Arr w w.heap.size 2 bv b stcell) :
    Calls Try.prog 36 #[av, bv] w fun r w' => r = .returned (.bool (lessB a b)) ∧ Below w.heap.size w w' := by
  obtain ⟨aa, ac, rfl, ha1, ha2, -⟩ := id ha
  obtain ⟨ba, bc, rfl, hb1, hb2, -⟩ := id hb
  go_enter Try.func36, Try.ntmps36
  go_wp2
  go_loopw [5] (fun i wr => ∃ n : Nat, n ≤ a.length ∧ i = .int .i64 n ∧ lessB a b = lessB (a.drop n) (b.drop n) ∧ Below w.heap.size w wr) (fun i _ => a.length - (intOf i).toNat)
  case atStart => exact ⟨0, Nat.zero_le _, rfl, rfl, Below.refl _ _⟩
  case round =>
    obtain ⟨n, hn, rfl, hd, hbx⟩ := hrel
    by_cases hn1 : n < a.length
    · have d3 : decide (n < a.length) = true := by simpa using hn1
      have d3' : decide ((n : Int) < (a.length : Int)) = true := by simp; omega
      by_cases hn2 : n < b.length
      · have d4 : decide (n < b.length) = true := by simpa using hn2
        have d4' : decide ((n : Int) < (b.length : Int)) = true := by simp; omega
        obtain ⟨xb, xo, x, hxa, hxb, hx1, hx2⟩ := ha.at_ hn1
        obtain ⟨yb, yo, y, hya, hyb, hy1, hy2⟩ := hb.at_ hn2
        subst hxa
        subst hya
        have c0 := (hbx.cell (p := ⟨xb, xo + n * 2 + 0, none⟩) hxb).trans (hx2 0 (by omega))
        have c1 := (hbx.cell (p := ⟨xb, xo + n * 2 + 1, none⟩) hxb).trans (hx2 1 (by omega))
        have e0 := (hbx.cell (p := ⟨yb, yo + n * 2 + 0, none⟩) hyb).trans (hy2 0 (by omega))
        have e1 := (hbx.cell (p := ⟨yb, yo + n * 2 + 1, none⟩) hyb).trans (hy2 1 (by omega))
        simp only [Nat.add_zero, stcell] at c0 c1 e0 e1
        have f0 := Ext.of c0
        have f1 := Ext.of c1
        have f2 := Ext.of e0
        have f3 := Ext.of e1
        have hna' : (n : Int) < (a.length : Int) := by omega
        have hnb' : (n : Int) < (b.length : Int) := by omega
        have hdx : a.drop n = x :: a.drop (n + 1) := by
          obtain ⟨h1, h2⟩ := List.getElem?_eq_some_iff.1 hx1
          rw [List.drop_eq_getElem_cons h1, h2]
        have hdy : b.drop n = y :: b.drop (n + 1) := by
          obtain ⟨h1, h2⟩ := List.getElem?_eq_some_iff.1 hy1
          rw [List.drop_eq_getElem_cons h1, h2]
        rw [hdx, hdy, lessB] at hd
        have HD := Lib.hid hd
        clear hd hdx hdy hx1 hy1 hx2 hy2
        obtain ⟨xp, xt⟩ := x
        obtain ⟨yp, yt⟩ := y
        have hq : ∀ w', (Op.equalIn 10000 28 (.agg #[.int .i64 xp, .bool xt]) (.agg #[.int .i64 yp, .bool yt])).run Try.prog w' = .ok (xp == yp && xt == yt) w' := fun w' => eq_st xp yp xt yt w'
        cases hz : (xp == yp && xt == yt)
        · have HE : Hid (lessB a b = before xp xt yp yt) := by
            rw [Hid, HD.out, if_neg]
            · rfl
            · intro h
              simp only [St.mk.injEq] at h
              rw [h.1, h.2] at hz
              simp at hz
          rw [hz] at hq
          have HC := Lib.hid (And.intro c0 (And.intro c1 (And.intro e0 e1)))
          clear c0 c1 e0 e1
          go_upto_region 4 with (fail)
          refine wp_region_ext (by kernel_rfl) (by kernel_rfl) ?_
          repeat (go_big_quiet_step (fail))
          refine wpQuiet_nil ?_
          intro _ hw'
          obtain ⟨xr, hw''⟩ := hw'
          subst hw''
          have hbz := hbx.trans (xr.h.mono hbx.size)
          obtain ⟨c0, c1, e0, e1⟩ := HC.out
          clear f0 f1 f2 f3 HC
          have f0 := Ext.of ((xr.h.cell (p := ⟨xb, xo + n * 2, none⟩) (by have := hbx.size; show xb < _; omega)).trans c0)
          have f1 := Ext.of ((xr.h.cell (p := ⟨xb, xo + n * 2 + 1, none⟩) (by have := hbx.size; show xb < _; omega)).trans c1)
          have f2 := Ext.of ((xr.h.cell (p := ⟨yb, yo + n * 2, none⟩) (by have := hbx.size; show yb < _; omega)).trans e0)
          have f3 := Ext.of ((xr.h.cell (p := ⟨yb, yo + n * 2 + 1, none⟩) (by have := hbx.size; show yb < _; omega)).trans e1)
          clear c0 c1 e0 e1
          generalize xr.w = V at *
          have HA : Hid (∀ y : Ext V, Calls Try.prog 59 #[.agg #[.int .i64 xp, .bool xt], .agg #[.int .i64 yp, .bool yt]] y.w fun r w' => r = .returned (.bool (before xp xt yp yt)) ∧ ∃ z : Ext V, w' = z.w) := fun y => ext_call y (before_ok xp yp xt yt y.w)
          go_upto_region 5 with (fail)
          refine wp_region_ext (by kernel_rfl) (by kernel_rfl) ?_
          repeat (go_big_quiet_step ((go_at_call 59; with_reducible exact HA.out _)))
          refine wpQuiet_nil ?_
          intro _ hw'
          obtain ⟨xr, hw''⟩ := hw'
          subst hw''
          have hbu := hbz.trans (xr.h.mono hbz.size)
          go_wp2
          go_ret
          exact ⟨by rw [HE.out]; rfl, hbu⟩
        · have HE : Hid (lessB a b = lessB (a.drop (n + 1)) (b.drop (n + 1))) := by
            simp only [Bool.and_eq_true, beq_iff_eq] at hz
            obtain ⟨rfl, rfl⟩ := hz
            rw [Hid, HD.out, if_pos rfl]
          rw [hz] at hq
          clear c0 c1 e0 e1
          go_upto_region 4 with (fail)
          refine wp_region_ext (by kernel_rfl) (by kernel_rfl) ?_
          repeat (go_big_quiet_step (fail))
          refine wpQuiet_nil ?_
          intro _ hw'
          obtain ⟨xr, hw''⟩ := hw'
          subst hw''
          have hbz := hbx.trans (xr.h.mono hbx.size)
          go_wp2
          go_roundw
          case rel => exact ⟨n + 1, by omega, by go_num, HE.out, hbz⟩
          case measure => (simp [intOf]; try omega)
      · have d4 : decide (n < b.length) = false := by simpa using hn2
        have d4' : decide ((n : Int) < (b.length : Int)) = false := by simp; omega
        have HE : Hid (lessB a b = false) := by rw [Hid, hd, lessB_stop (.inr (List.drop_eq_nil_of_le (by omega)))]
        clear hd
        go_wp2
        go_ret
        exact ⟨by rw [HE.out]; rfl, hbx⟩
    · have d3 : decide (n < a.length) = false := by simpa using hn1
      have d3' : decide ((n : Int) < (a.length : Int)) = false := by simp; omega
      have HE : Hid (lessB a b = false) := by rw [Hid, hd, lessB_stop (.inl (List.drop_eq_nil_of_le (by omega)))]
      clear hd
      go_wp2
      go_ret
      exact ⟨by rw [HE.out]; rfl, hbx⟩

abbrev pairV (p : St × St) : Value := .agg #[.int .i64 p.1.p, .bool p.1.t, .int .i64 p.2.p, .bool p.2.t]
set_option maxRecDepth 100000 in
set_option maxHeartbeats 1600000 in
theorem before2_ok (p q : St × St) (w : World) :
    Calls Try.prog 38 #[pairV p, pairV q] w fun r w' => r = .returned (.bool (befP p q)) ∧ Below w.heap.size w w' := by
  obtain ⟨⟨a, ta⟩, ⟨b, tb⟩⟩ := p
  obtain ⟨⟨a', ta'⟩, ⟨b', tb'⟩⟩ := q
  go_enter Try.func38, Try.ntmps38
  go_upto_region 1 with (fail)
  have hP := Blk.new w 57 #[.int .i64 a, .bool ta, .int .i64 b, .bool tb]
  have hb1 := (Below.refl w.heap.size w).alloc (Nat.le_refl _) (.cells #[.int .i64 a, .bool ta, .int .i64 b, .bool tb] 57)
  have hz : (w.alloc (.cells #[.int .i64 a, .bool ta, .int .i64 b, .bool tb] 57)).heap.size = w.heap.size + 1 := by simp
  generalize w.alloc (.cells #[.int .i64 a, .bool ta, .int .i64 b, .bool tb] 57) = V at *
  have hQ := Blk.new V 57 #[.int .i64 a', .bool ta', .int .i64 b', .bool tb']
  have hb2 := (Below.refl V.heap.size V).alloc (Nat.le_refl _) (.cells #[.int .i64 a', .bool ta', .int .i64 b', .bool tb'] 57)
  replace hP := hP.call hb2
  have hB := hb1.trans (hb2.mono hb1.size)
  rw [hz] at hQ
  clear hb1 hb2 hz
  generalize V.alloc (.cells #[.int .i64 a', .bool ta', .int .i64 b', .bool tb'] 57) = W at *
  have p0 := hP.cell 0
  have p1 := hP.cell 1
  have p2 := hP.cell 2
  have p3 := hP.cell 3
  have q0 := hQ.cell 0
  have q1 := hQ.cell 1
  have q2 := hQ.cell 2
  have q3 := hQ.cell 3
  simp at p0 p1 p2 p3 q0 q1 q2 q3
  go_wp2_with fail
  refine (before_ok a a' ta ta' W).mono ?_
  rintro e w1 ⟨rfl, hb⟩
  replace hP := hP.call hb
  replace hQ := hQ.call hb
  replace hB := hB.trans (hb.mono hB.size)
  clear hb p0 p1 p2 p3 q0 q1 q2 q3
  have p0 := hP.cell 0
  have p1 := hP.cell 1
  have p2 := hP.cell 2
  have p3 := hP.cell 3
  have q0 := hQ.cell 0
  have q1 := hQ.cell 1
  have q2 := hQ.cell 2
  have q3 := hQ.cell 3
  simp at p0 p1 p2 p3 q0 q1 q2 q3
  cases h1 : before a ta a' ta'
  · have hq : ∀ w', (Op.equalIn 10000 28 (.agg #[.int .i64 a, .bool ta]) (.agg #[.int .i64 a', .bool ta'])).run Try.prog w' = .ok (a == a' && ta == ta') w' := fun w' => eq_st a a' ta ta' w'
    cases h2 : (a == a' && ta == ta')
    · have HE : Hid (befP (⟨a, ta⟩, ⟨b, tb⟩) (⟨a', ta'⟩, ⟨b', tb'⟩) = false) := by
        have h3 : decide ((⟨a, ta⟩ : St) = ⟨a', ta'⟩) = false := by
          rw [decide_eq_false_iff_not]
          intro h
          simp only [St.mk.injEq] at h
          rw [h.1, h.2] at h2
          simp at h2
        show (before a ta a' ta' || (decide ((⟨a, ta⟩ : St) = ⟨a', ta'⟩) && _)) = false
        rw [h1, h3]; rfl
      rw [h2] at hq
      go_wp2
      go_ret
      exact ⟨by rw [HE.out]; rfl, hB⟩
    · have HE : Hid (befP (⟨a, ta⟩, ⟨b, tb⟩) (⟨a', ta'⟩, ⟨b', tb'⟩) = before b tb b' tb') := by
        simp only [Bool.and_eq_true, beq_iff_eq] at h2
        show (before a ta a' ta' || (decide ((⟨a, ta⟩ : St) = ⟨a', ta'⟩) && before b tb b' tb')) = _
        rw [h1, h2.1, h2.2]; simp
      rw [h2] at hq
      go_wp2_with fail
      refine (before_ok b b' tb tb' w1).mono ?_
      rintro e w2 ⟨rfl, hb⟩
      replace hB := hB.trans (hb.mono hB.size)
      clear hb
      go_wp2
      go_ret
      exact ⟨by rw [HE.out]; rfl, hB⟩
  · have HE : Hid (befP (⟨a, ta⟩, ⟨b, tb⟩) (⟨a', ta'⟩, ⟨b', tb'⟩) = true) := by
      show (before a ta a' ta' || _) = true
      rw [h1]; rfl
    go_wp2
    go_ret
    exact ⟨by rw [HE.out]; rfl, hB⟩

set_option maxRecDepth 100000 in
set_option maxHeartbeats 1600000 in
theorem has_ok (av : Value) (a : List St) (p : St × St) (w : World) (ha : Arr w w.heap.size 2 av a stcell) :
    Calls Try.prog 37 #[av, pairV p] w fun r w' => r = .returned (.bool (hasS a p)) ∧ Below w.heap.size w w' := by
  obtain ⟨aa, ac, rfl, ha1, ha2, -⟩ := id ha
  obtain ⟨⟨f, tf⟩, ⟨g, tg⟩⟩ := p
  go_enter Try.func37, Try.ntmps37
  go_upto_region 1 with (fail)
  have hP := Blk.new w 57 #[.int .i64 f, .bool tf, .int .i64 g, .bool tg]
  have hB := (Below.refl w.heap.size w).alloc (Nat.le_refl _) (.cells #[.int .i64 f, .bool tf, .int .i64 g, .bool tg] 57)
  generalize w.alloc (.cells #[.int .i64 f, .bool tf, .int .i64 g, .bool tg] 57) = W at *
  go_wp2
  go_loopw [5] (fun i wr => ∃ n : Nat, i = .int .i64 ((n : Int) + 1) ∧ (n = 0 ∨ n < a.length) ∧ hasS a (⟨f, tf⟩, ⟨g, tg⟩) = hasS (a.drop n) (⟨f, tf⟩, ⟨g, tg⟩) ∧ Below w.heap.size w wr ∧ Blk wr w.heap.size 57 #[.int .i64 f, .bool tf, .int .i64 g, .bool tg]) (fun i _ => a.length - (intOf i).toNat)
  case atStart => exact ⟨0, rfl, .inl rfl, rfl, hB, hP⟩
  case round =>
    obtain ⟨n, rfl, hn, hd, hbx, hPr⟩ := hrel
    by_cases hn1 : n + 1 < a.length
    · have d3 : decide (n + 1 < a.length) = true := by simpa using hn1
      have d3' : decide ((n : Int) + 1 < (a.length : Int)) = true := by simp; omega
      obtain ⟨xb, xo, x, hxa, hxb, hx1, hx2⟩ := ha.at_ (show n < a.length by omega)
      obtain ⟨yb, yo, y, hya, hyb, hy1, hy2⟩ := ha.at_ hn1
      subst hxa
      simp only [Option.some.injEq, Addr.mk.injEq, and_true] at hya
      obtain ⟨rfl, rfl⟩ := hya
      have c0 := (hbx.cell (p := ⟨xb, xo + n * 2 + 0, none⟩) hxb).trans (hx2 0 (by omega))
      have c1 := (hbx.cell (p := ⟨xb, xo + n * 2 + 1, none⟩) hxb).trans (hx2 1 (by omega))
      have e0 := (hbx.cell (p := ⟨xb, xo + (n + 1) * 2 + 0, none⟩) hxb).trans (hy2 0 (by omega))
      have e1 := (hbx.cell (p := ⟨xb, xo + (n + 1) * 2 + 1, none⟩) hxb).trans (hy2 1 (by omega))
      have p0 := hPr.cell 0
      have p1 := hPr.cell 1
      have p2 := hPr.cell 2
      have p3 := hPr.cell 3
      simp only [Nat.add_zero, stcell] at c0 c1 e0 e1
      simp at p0 p1 p2 p3
      have f0 := Ext.of c0
      have f1 := Ext.of c1
      have f2 := Ext.of e0
      have f3 := Ext.of e1
      have f4 := Ext.of p0
      have f5 := Ext.of p1
      have f6 := Ext.of p2
      have f7 := Ext.of p3
      have hna' : (n : Int) + 1 < (a.length : Int) := by omega
      have hna'' : (n : Int) < (a.length : Int) := by omega
      have w1n : IntKind.i64.wrap ((n : Int) + 1 - 1) = n := by rw [IntKind.wrap_i64]; omega
      have hdx : a.drop n = x :: y :: a.drop (n + 2) := by
        obtain ⟨h1, h2⟩ := List.getElem?_eq_some_iff.1 hx1
        obtain ⟨h3, h4⟩ := List.getElem?_eq_some_iff.1 hy1
        rw [List.drop_eq_getElem_cons h1, h2, List.drop_eq_getElem_cons h3, h4]
      have hdy : a.drop (n + 1) = y :: a.drop (n + 2) := by
        obtain ⟨h3, h4⟩ := List.getElem?_eq_some_iff.1 hy1
        rw [List.drop_eq_getElem_cons h3, h4]
      rw [hdx, hasS, ← hdy] at hd
      have HD := Lib.hid hd
      clear hd hdx hdy hx1 hy1 hx2 hy2 c0 c1 e0 e1 p0 p1 p2 p3
      obtain ⟨xp, xt⟩ := x
      obtain ⟨yp, yt⟩ := y
      have hq : ∀ w', (Op.equalIn 10000 28 (.agg #[.int .i64 xp, .bool xt]) (.agg #[.int .i64 f, .bool tf])).run Try.prog w' = .ok (xp == f && xt == tf) w' := fun w' => eq_st _ _ _ _ w'
      have hr : ∀ w', (Op.equalIn 10000 28 (.agg #[.int .i64 yp, .bool yt]) (.agg #[.int .i64 g, .bool tg])).run Try.prog w' = .ok (yp == g && yt == tg) w' := fun w' => eq_st _ _ _ _ w'
      have H1 : Hid (decide ((⟨xp, xt⟩ : St) = ⟨f, tf⟩) = (xp == f && xt == tf)) := by rw [Hid, Bool.eq_iff_iff]; simp
      have H2 : Hid (decide ((⟨yp, yt⟩ : St) = ⟨g, tg⟩) = (yp == g && yt == tg)) := by rw [Hid, Bool.eq_iff_iff]; simp
      cases hz : (xp == f && xt == tf)
      · have HE : Hid (hasS a (⟨f, tf⟩, ⟨g, tg⟩) = hasS (a.drop (n + 1)) (⟨f, tf⟩, ⟨g, tg⟩)) := by rw [Hid, HD.out, H1.out, hz]; rfl
        rw [hz] at hq
        clear hr
        go_upto_region 4 with (fail)
        refine wp_region_ext (by kernel_rfl) (by kernel_rfl) ?_
        repeat (go_big_quiet_step (fail))
        refine wpQuiet_nil ?_
        intro _ hw'
        obtain ⟨xr, hw''⟩ := hw'
        subst hw''
        have hbz := hbx.trans (xr.h.mono hbx.size)
        have hPz := hPr.call xr.h
        go_wp2
        go_roundw
        case rel => exact ⟨n + 1, by go_num, .inr hn1, HE.out, hbz, hPz⟩
        case measure => (simp [intOf]; try omega)
      · rw [hz] at hq
        cases hy : (yp == g && yt == tg)
        · have HE : Hid (hasS a (⟨f, tf⟩, ⟨g, tg⟩) = hasS (a.drop (n + 1)) (⟨f, tf⟩, ⟨g, tg⟩)) := by rw [Hid, HD.out, H1.out, H2.out, hz, hy]; rfl
          rw [hy] at hr
          go_upto_region 4 with (fail)
          refine wp_region_ext (by kernel_rfl) (by kernel_rfl) ?_
          repeat (go_big_quiet_step (fail))
          refine wpQuiet_nil ?_
          intro _ hw'
          obtain ⟨xr, hw''⟩ := hw'
          subst hw''
          have hbz := hbx.trans (xr.h.mono hbx.size)
          have hPz := hPr.call xr.h
          go_wp2
          go_roundw
          case rel => exact ⟨n + 1, by go_num, .inr hn1, HE.out, hbz, hPz⟩
          case measure => (simp [intOf]; try omega)
        · have HE : Hid (hasS a (⟨f, tf⟩, ⟨g, tg⟩) = true) := by rw [Hid, HD.out, H1.out, H2.out, hz, hy]; rfl
          rw [hy] at hr
          go_upto_region 4 with (fail)
          refine wp_region_ext (by kernel_rfl) (by kernel_rfl) ?_
          repeat (go_big_quiet_step (fail))
          refine wpQuiet_nil ?_
          intro _ hw'
          obtain ⟨xr, hw''⟩ := hw'
          subst hw''
          have hbz := hbx.trans (xr.h.mono hbx.size)
          go_wp2
          go_ret
          exact ⟨by rw [HE.out]; rfl, hbz⟩
    · have d3 : decide (n + 1 < a.length) = false := by simpa using hn1
      have d3' : decide ((n : Int) + 1 < (a.length : Int)) = false := by simp; omega
      have HE : Hid (hasS a (⟨f, tf⟩, ⟨g, tg⟩) = false) := by
        rw [Hid, hd]
        have : (a.drop n).length ≤ 1 := by rw [List.length_drop]; omega
        match h : a.drop n, this with
        | [], _ => rfl
        | [_], _ => rfl
      clear hd
      go_wp2
      go_ret
      exact ⟨by rw [HE.out]; rfl, hbx⟩
end Go.Proofs.Ytjjjockfppomdaa
