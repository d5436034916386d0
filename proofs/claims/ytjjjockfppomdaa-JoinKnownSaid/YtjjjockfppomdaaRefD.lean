/- Contract of the reference: Same. -/
import Derived.Test.YtjjjockfppomdaaRefC
import Derived.Laws.StructEq
namespace Go.Proofs.Ytjjjockfppomdaa
open Go.RowKit Go.Shelf
set_option linter.unusedVariables false

theorem eq_st (a c : Int) (b d : Bool) (w : World) : (Op.equalIn 10000 28 (.agg #[.int .i64 a, .bool b]) (.agg #[.int .i64 c, .bool d])).run Try.prog w = .ok (a == c && b == d) w := by
  show (Op.equalIn (9999+1) 28 _ _).run _ _ = _
  rw [run_equalIn_struct w 9999 28 _ _ (by kernel_rfl) (by kernel_rfl)]
  cases h : (a == c)
  · simp [Op.eqFields, go_sem, h]
  · cases h2 : (b == d) <;> simp [Op.eqFields, go_sem, h, h2]

set_option maxRecDepth 100000 in
set_option maxHeartbeats 1600000 in
theorem same_ok (av bv : Value) (a b : List St) (w : World) (ha : Arr w w.heap.size 2 av a stcell) (hb : Arr w w.heap.size 2 bv b stcell) :
    Calls Try.prog 29 #[av, bv] w fun r w' => r = .returned (.bool (decide (a = b))) ∧ Below w.heap.size w w' := by
  obtain ⟨aa, ac, rfl, ha1, ha2, -⟩ := id ha
  obtain ⟨ba, bc, rfl, -, -, -⟩ := id hb
  go_enter Try.func29, Try.ntmps29
  by_cases hl : a.length = b.length
  · have d1 : ((a.length : Int) == (b.length : Int)) = true := by simp [hl]
    go_wp2
    go_loopw [5] (fun i wr => ∃ n : Nat, n ≤ a.length ∧ i = .int .i64 n ∧ decide (a = b) = decide (a.drop n = b.drop n) ∧ Below w.heap.size w wr) (fun i _ => a.length - (intOf i).toNat)
    case atStart => exact ⟨0, Nat.zero_le _, rfl, rfl, Below.refl _ _⟩
    case round =>
      obtain ⟨n, hn, rfl, hd, hbx⟩ := hrel
      by_cases hn1 : n < a.length
      · have d3 : decide (n < a.length) = true := by simpa using hn1
        have d3' : decide ((n : Int) < (a.length : Int)) = true := by simp; omega
        obtain ⟨xb, xo, x, hxa, hxb, hx1, hx2⟩ := ha.at_ hn1
        obtain ⟨yb, yo, y, hya, hyb, hy1, hy2⟩ := hb.at_ (show n < b.length by omega)
        subst hxa
        subst hya
        have c0 := (hbx.cell (p := ⟨xb, xo + n * 2 + 0, none⟩) hxb).trans (hx2 0 (by omega))
        have c1 := (hbx.cell (p := ⟨xb, xo + n * 2 + 1, none⟩) hxb).trans (hx2 1 (by omega))
        have e0 := (hbx.cell (p := ⟨yb, yo + n * 2 + 0, none⟩) hyb).trans (hy2 0 (by omega))
        have e1 := (hbx.cell (p := ⟨yb, yo + n * 2 + 1, none⟩) hyb).trans (hy2 1 (by omega))
        simp only [Nat.add_zero, stcell] at c0 c1 e0 e1
        have f0 := Ext.of c0
        have f1 := Ext.of c1
        have f2 := Ext.of e0
        have f3 := Ext.of e1
        have en : IntKind.i64.wrap (n : Int) = n := by rw [IntKind.wrap_i64]; omega
        have hnb : n < b.length := by omega
        have hnb' : (n : Int) < (b.length : Int) := by omega
        have hdx : a.drop n = x :: a.drop (n + 1) := by
          obtain ⟨h1, h2⟩ := List.getElem?_eq_some_iff.1 hx1
          rw [List.drop_eq_getElem_cons h1, h2]
        have hdy : b.drop n = y :: b.drop (n + 1) := by
          obtain ⟨h1, h2⟩ := List.getElem?_eq_some_iff.1 hy1
          rw [List.drop_eq_getElem_cons h1, h2]
        rw [hdx, hdy] at hd
        have HD := Lib.hid hd
        clear hd hdx hdy hx1 hy1 hx2 hy2 c0 c1 e0 e1
        obtain ⟨xp, xt⟩ := x
        obtain ⟨yp, yt⟩ := y
        have hq : ∀ w', (Op.equalIn 10000 28 (.agg #[.int .i64 xp, .bool xt]) (.agg #[.int .i64 yp, .bool yt])).run Try.prog w' = .ok (xp == yp && xt == yt) w' := fun w' => eq_st xp yp xt yt w'
        cases hz : (xp == yp && xt == yt)
        · have HE : Hid (decide (a = b) = false) := by
            rw [Hid, HD.out]
            simp only [List.cons.injEq, St.mk.injEq, decide_eq_false_iff_not]
            rintro ⟨⟨h1, h2⟩, -⟩
            subst h1 h2
            simp at hz
          rw [hz] at hq
          go_upto_region 6 with (fail)
          refine wp_region_ext (by kernel_rfl) (by kernel_rfl) ?_
          repeat (go_big_quiet_step (fail))
          refine wpQuiet_nil ?_
          intro _ hw'
          obtain ⟨xr, hw''⟩ := hw'
          subst hw''
          have hbz := hbx.trans (xr.h.mono hbx.size)
          go_wp2
          go_ret
          exact ⟨by rw [HE.out]; rfl, hbz⟩
        · have HE : Hid (decide (a = b) = decide (a.drop (n + 1) = b.drop (n + 1))) := by
            simp only [Bool.and_eq_true, beq_iff_eq] at hz
            obtain ⟨rfl, rfl⟩ := hz
            rw [Hid, HD.out]
            simp
          rw [hz] at hq
          go_upto_region 6 with (fail)
          refine wp_region_ext (by kernel_rfl) (by kernel_rfl) ?_
          repeat (go_big_quiet_step (fail))
          refine wpQuiet_nil ?_
          intro _ hw'
          obtain ⟨xr, hw''⟩ := hw'
          subst hw''
          have hbz := hbx.trans (xr.h.mono hbx.size)
          go_wp2
          go_roundw
          case rel => exact ⟨n + 1, by omega, by go_num, HE.out, hbz⟩
          case measure => (simp [intOf]; try omega)
      · obtain rfl : n = a.length := by omega
        have d3 : decide (a.length < a.length) = false := by simp
        have HE : Hid (decide (a = b) = true) := by rw [Hid, hd, List.drop_length, hl, List.drop_length]; simp
        clear hd
        go_wp2
        go_ret
        exact ⟨by rw [HE.out]; rfl, hbx⟩
  · have d1 : ((a.length : Int) == (b.length : Int)) = false := by simp; omega
    have HE : Hid (decide (a = b) = false) := by simp [Hid]; intro h; exact hl (by rw [h])
    go_wp2
    go_ret
    exact ⟨by rw [HE.out]; rfl, Below.refl _ _⟩
end Go.Proofs.Ytjjjockfppomdaa
