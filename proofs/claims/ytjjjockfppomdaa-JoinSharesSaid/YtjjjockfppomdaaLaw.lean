/- The laws' small functions: pairs, fine, On, Piece, Cracked, whole. -/
import Derived.Test.YtjjjockfppomdaaRiv
import Derived.Test.YtjjjockfppomdaaRefB
namespace Go.Proofs.Ytjjjockfppomdaa
open Go.RowKit Go.Shelf
set_option linter.unusedVariables false

theorem eq_st9 (d : Nat) (a c : Int) (b e : Bool) (w : World) : (Op.equalIn (d + 2) 28 (.agg #[.int .i64 a, .bool b]) (.agg #[.int .i64 c, .bool e])).run Try.prog w = .ok (a == c && b == e) w := by
  rw [run_equalIn_struct w (d + 1) 28 _ _ (by kernel_rfl) (by kernel_rfl)]
  cases h : (a == c)
  · simp [Op.eqFields, go_sem, h]
  · cases h2 : (b == e) <;> simp [Op.eqFields, go_sem, h, h2]
abbrev jpV (p : St × St) : Value := .agg #[.int .i64 p.1.p, .bool p.1.t, .int .i64 p.2.p, .bool p.2.t]
theorem eq_jp (p q : St × St) (w : World) : (Op.equalIn 10000 57 (jpV p) (jpV q)).run Try.prog w = .ok ((p.1.p == q.1.p && p.1.t == q.1.t) && (p.2.p == q.2.p && p.2.t == q.2.t)) w := by
  have h1 : ∀ w', (Op.equalIn 9999 28 (.agg #[.int .i64 p.1.p, .bool p.1.t]) (.agg #[.int .i64 q.1.p, .bool q.1.t])).run Try.prog w' = .ok (p.1.p == q.1.p && p.1.t == q.1.t) w' := fun w' => eq_st9 9997 _ _ _ _ w'
  have h2 : ∀ w', (Op.equalIn 9999 28 (.agg #[.int .i64 p.2.p, .bool p.2.t]) (.agg #[.int .i64 q.2.p, .bool q.2.t])).run Try.prog w' = .ok (p.2.p == q.2.p && p.2.t == q.2.t) w' := fun w' => eq_st9 9997 _ _ _ _ w'
  show (Op.equalIn (9999+1) 57 _ _).run _ _ = _
  rw [run_equalIn_struct w 9999 57 _ _ (by kernel_rfl) (by kernel_rfl)]
  cases hh1 : (p.1.p == q.1.p && p.1.t == q.1.t) <;> cases hh2 : (p.2.p == q.2.p && p.2.t == q.2.t) <;> simp [Op.eqFields, go_sem, h1, h2, hh1, hh2]
theorem eq_jp_iff (p q : St × St) : ((p.1.p == q.1.p && p.1.t == q.1.t) && (p.2.p == q.2.p && p.2.t == q.2.t)) = decide (p = q) := by
  obtain ⟨⟨a, b⟩, ⟨c, d⟩⟩ := p
  obtain ⟨⟨a', b'⟩, ⟨c', d'⟩⟩ := q
  rw [Bool.eq_iff_iff]
  simp

set_option maxRecDepth 100000 in
set_option maxHeartbeats 1600000 in
theorem lpairs_ok (av bv : Value) (a b : List (St × St)) (w : World) (ha : Arr w w.heap.size 4 av a pcell) (hb : Arr w w.heap.size 4 bv b pcell) :
    Calls Try.prog 34 #[av, bv] w fun r w' => r = .returned (.bool (decide (a = b))) ∧ Below w.heap.size w w' := by
  obtain ⟨aa, ac, rfl, ha1, ha2, -⟩ := id ha
  obtain ⟨ba, bc, rfl, -, -, -⟩ := id hb
  go_enter Try.func34, Try.ntmps34
  by_cases hl : a.length = b.length
  · have d1 : ((a.length : Int) == (b.length : Int)) = true := by simp [hl]
    go_wp2
    go_loopw [5] (fun i wr => ∃ n : Nat, n ≤ a.length ∧ i = .int .i64 n ∧ decide (a = b) = decide (a.drop n = b.drop n) ∧ Below w.heap.size w wr) (fun i _ => a.length - (intOf i).toNat)
    case atStart => exact ⟨0, Nat.zero_le _, rfl, rfl, Below.refl _ _⟩
    case round =>
      obtain ⟨n, hn, rfl, hd, hbx⟩ := hrel
      by_cases hn1 : n < a.length
      · have d3 : decide (n < a.length) = true := by simpa using hn1
        have d3' : decide ((n : Int) < (a.length : Int)) = true := by simp; omega
        obtain ⟨xb, xo, x, hxa, hxb, hx1, hx2⟩ := ha.at_ hn1
        obtain ⟨yb, yo, y, hya, hyb, hy1, hy2⟩ := hb.at_ (show n < b.length by omega)
        subst hxa
        subst hya
        have c0 : wr.cell? ⟨xb, xo + n * 4, none⟩ = some (.int .i64 x.1.p) := (hbx.cell (p := ⟨xb, xo + n * 4, none⟩) hxb).trans (hx2 0 (by omega))
        have c1 : wr.cell? ⟨xb, xo + n * 4 + 1, none⟩ = some (.bool x.1.t) := (hbx.cell (p := ⟨xb, xo + n * 4 + 1, none⟩) hxb).trans (hx2 1 (by omega))
        have c2 : wr.cell? ⟨xb, xo + n * 4 + 2, none⟩ = some (.int .i64 x.2.p) := (hbx.cell (p := ⟨xb, xo + n * 4 + 2, none⟩) hxb).trans (hx2 2 (by omega))
        have c3 : wr.cell? ⟨xb, xo + n * 4 + 3, none⟩ = some (.bool x.2.t) := (hbx.cell (p := ⟨xb, xo + n * 4 + 3, none⟩) hxb).trans (hx2 3 (by omega))
        have e0 : wr.cell? ⟨yb, yo + n * 4, none⟩ = some (.int .i64 y.1.p) := (hbx.cell (p := ⟨yb, yo + n * 4, none⟩) hyb).trans (hy2 0 (by omega))
        have e1 : wr.cell? ⟨yb, yo + n * 4 + 1, none⟩ = some (.bool y.1.t) := (hbx.cell (p := ⟨yb, yo + n * 4 + 1, none⟩) hyb).trans (hy2 1 (by omega))
        have e2 : wr.cell? ⟨yb, yo + n * 4 + 2, none⟩ = some (.int .i64 y.2.p) := (hbx.cell (p := ⟨yb, yo + n * 4 + 2, none⟩) hyb).trans (hy2 2 (by omega))
        have e3 : wr.cell? ⟨yb, yo + n * 4 + 3, none⟩ = some (.bool y.2.t) := (hbx.cell (p := ⟨yb, yo + n * 4 + 3, none⟩) hyb).trans (hy2 3 (by omega))
        have f0 := Ext.of c0
        have f1 := Ext.of c1
        have f2 := Ext.of c2
        have f3 := Ext.of c3
        have f4 := Ext.of e0
        have f5 := Ext.of e1
        have f6 := Ext.of e2
        have f7 := Ext.of e3
        have en : IntKind.i64.wrap (n : Int) = n := by rw [IntKind.wrap_i64]; omega
        have hnb : n < b.length := by omega
        have hnb' : (n : Int) < (b.length : Int) := by omega
        have hdx : a.drop n = x :: a.drop (n + 1) := by
          obtain ⟨h1, h2⟩ := List.getElem?_eq_some_iff.1 hx1
          rw [List.drop_eq_getElem_cons h1, h2]
        have hdy : b.drop n = y :: b.drop (n + 1) := by
          obtain ⟨h1, h2⟩ := List.getElem?_eq_some_iff.1 hy1
          rw [List.drop_eq_getElem_cons h1, h2]
        rw [hdx, hdy] at hd
        have HD := Lib.hid hd
        clear hd hdx hdy hx1 hy1 hx2 hy2 c0 c1 c2 c3 e0 e1 e2 e3
        have hq : ∀ w', (Op.equalIn 10000 57 (.agg #[.int .i64 x.1.p, .bool x.1.t, .int .i64 x.2.p, .bool x.2.t]) (.agg #[.int .i64 y.1.p, .bool y.1.t, .int .i64 y.2.p, .bool y.2.t])).run Try.prog w' = .ok (decide (x = y)) w' := fun w' => by
          have := eq_jp x y w'
          rw [eq_jp_iff] at this
          exact this
        cases hz : decide (x = y)
        · have HE : Hid (decide (a = b) = false) := by
            rw [Hid, HD.out]
            simp only [decide_eq_false_iff_not] at hz ⊢
            intro h
            injection h with h _
            exact hz h
          rw [hz] at hq
          go_upto_region 6 with (fail)
          refine wp_region_ext (by kernel_rfl) (by kernel_rfl) ?_
          repeat (go_big_quiet_step (fail))
          refine wpQuiet_nil ?_
          intro _ hw'
          obtain ⟨xr, hw''⟩ := hw'
          subst hw''
          have hbz := hbx.trans (xr.h.mono hbx.size)
          go_wp2
          go_ret
          exact ⟨by rw [HE.out]; rfl, hbz⟩
        · have HE : Hid (decide (a = b) = decide (a.drop (n + 1) = b.drop (n + 1))) := by
            simp only [decide_eq_true_eq] at hz
            rw [Hid, HD.out, hz]
            simp
          rw [hz] at hq
          go_upto_region 6 with (fail)
          refine wp_region_ext (by kernel_rfl) (by kernel_rfl) ?_
          repeat (go_big_quiet_step (fail))
          refine wpQuiet_nil ?_
          intro _ hw'
          obtain ⟨xr, hw''⟩ := hw'
          subst hw''
          have hbz := hbx.trans (xr.h.mono hbx.size)
          go_wp2
          go_roundw
          case rel => exact ⟨n + 1, by omega, by go_num, HE.out, hbz⟩
          case measure => (simp [intOf]; try omega)
      · obtain rfl : n = a.length := by omega
        have d3 : decide (a.length < a.length) = false := by simp
        have HE : Hid (decide (a = b) = true) := by rw [Hid, hd, List.drop_length, hl, List.drop_length]; simp
        clear hd
        go_wp2
        go_ret
        exact ⟨by rw [HE.out]; rfl, hbx⟩
  · have d1 : ((a.length : Int) == (b.length : Int)) = false := by simp; omega
    have HE : Hid (decide (a = b) = false) := by simp [Hid]; intro h; exact hl (by rw [h])
    go_wp2
    go_ret
    exact ⟨by rw [HE.out]; rfl, Below.refl _ _⟩

set_option maxRecDepth 100000 in
set_option maxHeartbeats 1600000 in
theorem fine_ok (v : Value) (c : Cyl) (w : World) (hv : CylV w w.heap.size v c) :
    Calls Try.prog 35 #[v] w fun r w' => r = .returned (.bool (decide (checkCyl c = 0))) ∧ Below w.heap.size w w' := by
  obtain ⟨pa, pc, rfl, hp⟩ := hv.open_
  have hC := CB.new hp
  have hB := (Below.refl w.heap.size w).alloc (Nat.le_refl _) (.cells #[.slice pa c.pcs.length pc, .int .i64 c.off, .int .i64 c.slo, .int .i64 c.shi] 26)
  go_enter Try.func35, Try.ntmps35
  go_upto_region 1 with (fail)
  have HWS : Hid ((w.alloc (.cells #[.slice pa c.pcs.length pc, .int .i64 c.off, .int .i64 c.slo, .int .i64 c.shi] 26)).heap.size = w.heap.size + 1) := by simp [Hid]
  generalize hW : w.alloc (.cells #[.slice pa c.pcs.length pc, .int .i64 c.off, .int .i64 c.slo, .int .i64 c.shi] 26) = W at *
  clear hW hp
  obtain ⟨k0, k1, k2, k3⟩ := hC.c4
  have hrc := rcheckCyl_ok _ c W hC.cyl
  by_cases h1 : c.pcs.length ≤ 12
  · have d1 : decide ((c.pcs.length : Int) ≤ 12) = true := by simp; omega
    have d1' : decide (c.pcs.length ≤ 12) = true := by simpa using h1
    go_wp2_with fail
    refine hrc.mono ?_
    rintro e w1 ⟨rfl, hb1⟩
    have hB1 := hB.trans (hb1.mono hB.size)
    go_wp2
    go_ret
    refine ⟨ret_b ?_, hB1⟩
    rw [Bool.eq_iff_iff]
    simp
  · have d1 : decide ((c.pcs.length : Int) ≤ 12) = false := by simp; omega
    have d1' : decide (c.pcs.length ≤ 12) = false := by simpa using h1
    have HE : Hid (decide (checkCyl c = 0) = false) := by
      simp only [Hid, decide_eq_false_iff_not]
      intro h
      have := (cyl_bounds h).1.2
      omega
    clear hrc
    go_wp2
    go_ret
    exact ⟨by rw [HE.out]; rfl, hB⟩

def onL (l : List Int) : List St := l.map fun p => ⟨p, false⟩
set_option maxRecDepth 100000 in
set_option maxHeartbeats 1600000 in
theorem on_law (lv : Value) (l : List Int) (w : World) (hl : Arr w w.heap.size 1 lv l icell) (hn : l.length ≤ 1000) :
    Calls Try.prog 41 #[lv] w fun r w' => ∃ A cap, r = .returned (.slice A l.length cap) ∧ Arr w' w'.heap.size 2 (.slice A l.length cap) (onL l) stcell ∧ Below w.heap.size w w' := by
  obtain ⟨la, lc, rfl, hl1, hl2, -⟩ := id hl
  go_enter Try.func41, Try.ntmps41
  go_wp2
  go_loopw [3, 4] (fun o i wr => ∃ (n : Nat) (A : Option Addr) (cap : Nat), n ≤ l.length ∧ i = .int .i64 n ∧ o = .slice A (onL (l.take n)).length cap ∧ wr.ownsRow w.heap.size 28 2 (.slice A (onL (l.take n)).length cap) (onL (l.take n)).length ((onL (l.take n)).flatMap (cellsOf 2 stcell)) ∧ Below w.heap.size w wr) (fun _ i _ => l.length - (intOf i).toNat)
  case atStart => exact ⟨0, none, 0, Nat.zero_le _, rfl, rfl, by simpa [onL] using World.ownsRow_nil _ _ _ _, Below.refl _ _⟩
  case round =>
    obtain ⟨n, A, cap, hn1, rfl, rfl, hown, hb⟩ := hrel
    have hcap := own_cap hown
    by_cases hlt : n < l.length
    · have d3 : decide (n < l.length) = true := by simpa using hlt
      have d3' : decide ((n : Int) < (l.length : Int)) = true := by simp; omega
      obtain ⟨b, off, p, hA, hlb, hs1, hs2⟩ := hl.at_ hlt
      subst hA
      have s0 : wr.cell? ⟨b, off + n, none⟩ = some (.int .i64 p) := by
        have := (hb.cell (p := ⟨b, off + n * 1 + 0, none⟩) hlb).trans (hs2 0 (by omega))
        simpa [icell] using this
      have k1 : (n : Int) < (l.length : Int) := by omega
      have e1 : IntKind.i64.wrap (n : Int) = n := wrap_id _ (by omega) (by omega)
      have HTS : Hid (onL (l.take (n + 1)) = onL (l.take n) ++ [⟨p, false⟩]) := by rw [Hid, take_snoc hs1]; simp [onL]
      have hLl : (onL (l.take n)).length ≤ 1000 := by simp [onL]; omega
      clear hs1 hs2
      generalize onL (l.take n) = L at *
      go_wp2_with (at_builtin; refine wpList_app1 slT_st rfl (.tmp 11) (.tmp 17) rfl (A := A) (cc := cap) rfl ⟨cap, hown, .inl rfl⟩ rfl rfl one_st hb.size ?_ ?_ ?_)
      any_goals omega
      intro v' w4 hown4 hb4 hkeep
      have hown5 := own_snoc (cell := stcell) (x := ⟨p, false⟩) (vals := #[.int .i64 p, .bool false]) rfl (by simp [cellsOf, List.range_succ, stcell]) hown4
      rw [← HTS.out] at hown5
      obtain ⟨A', cap', rfl⟩ := own_form hown5
      have hb5 := hb.trans hb4
      clear hkeep hown4 hown hb4 hcap
      go_wp2
      go_roundw
      case rel => exact ⟨n + 1, A', cap', by omega, by go_num, rfl, hown5, hb5⟩
      case measure => (simp [intOf]; try omega)
    · obtain rfl : n = l.length := by omega
      have d3 : decide (l.length < l.length) = false := by simp
      rw [List.take_length] at hown
      have hol : (onL l).length = l.length := by simp [onL]
      have hA := Arr.of_own hown
      rw [hol] at hA
      have HA := Lib.hid hA
      simp only [List.take_length, hol]
      clear hol hA
      go_wp2
      go_ret
      exact ⟨A, cap, rfl, HA.out, hb⟩
end Go.Proofs.Ytjjjockfppomdaa
