/- Contracts of the reference: IsStep, Before. Contract of the reference: Steps. Contract of the reference: Same. -/
import Derived.Test.YtjjjockfppomdaaSlc
import Derived.Laws.StructEq
namespace Go.Proofs.Ytjjjockfppomdaa
open Go.RowKit Go.Shelf
set_option linter.unusedVariables false

theorem ret_b {a a' : Bool} (h1 : a = a') : Ending.returned (.bool a) = Ending.returned (.bool a') := by rw [h1]

set_option maxRecDepth 100000 in
set_option maxHeartbeats 1600000 in
theorem isStep_ok (v : Value) (c : Cyl) (sp : Int) (st : Bool) (w : World) (hv : CylV w w.heap.size v c) :
    Calls Try.prog 44 #[v, .agg #[.int .i64 sp, .bool st]] w fun r w' => r = .returned (.bool (isStep c ⟨sp, st⟩)) ∧ Below w.heap.size w w' := by
  obtain ⟨pa, pc, rfl, hp⟩ := hv.open_
  have hC := CB.new hp
  have hB := (Below.refl w.heap.size w).alloc (Nat.le_refl _) (.cells #[.slice pa c.pcs.length pc, .int .i64 c.off, .int .i64 c.slo, .int .i64 c.shi] 26)
  go_enter Try.func44, Try.ntmps44
  go_upto_region 1 with (fail)
  have HWS : Hid ((w.alloc (.cells #[.slice pa c.pcs.length pc, .int .i64 c.off, .int .i64 c.slo, .int .i64 c.shi] 26)).heap.size = w.heap.size + 1) := by simp [Hid]
  generalize hW : w.alloc (.cells #[.slice pa c.pcs.length pc, .int .i64 c.off, .int .i64 c.slo, .int .i64 c.shi] 26) = W at *
  clear hW hp
  have hbA := (Below.refl W.heap.size W).alloc (Nat.le_refl _) (.cells #[.int .i64 sp, .bool st] 28)
  have hS := Blk.new W 28 #[.int .i64 sp, .bool st]
  rw [HWS.out] at hS
  replace hC := hC.call hbA
  replace hB := hB.trans (hbA.mono hB.size)
  clear hbA
  generalize W.alloc (.cells #[.int .i64 sp, .bool st] 28) = V at *
  obtain ⟨k0, k1, k2, k3⟩ := hC.c4
  have s0 := hS.cell 0
  have s1 := hS.cell 1
  simp at s0 s1
  by_cases h1 : 0 ≤ sp
  · have d1 : decide (0 ≤ sp) = true := by simpa using h1
    by_cases h2 : sp < (c.pcs.length : Int)
    · have d2 : decide (sp < (c.pcs.length : Int)) = true := by simpa using h2
      obtain ⟨k, rfl⟩ : ∃ k : Nat, sp = (k : Int) := ⟨sp.toNat, by omega⟩
      have hk : k < c.pcs.length := by omega
      have ek : IntKind.i64.wrap (k : Int) = k ∨ True := .inr trivial
      obtain ⟨b, off, p, hpa, hpb, hp1, c0, c1, c2, c3, c4, c5, c6⟩ := piece_at hC.ps hk
      subst hpa
      cases st
      · have HE : Hid (isStep c ⟨k, false⟩ = true) := by simp [Hid, isStep]; omega
        go_wp2
        go_ret
        exact ⟨by rw [HE.out]; rfl, hB⟩
      · have HE : Hid (isStep c ⟨k, true⟩ = p.loose) := by
          unfold isStep pcAt
          rw [Hid, Int.toNat_natCast, hp1]
          simp
          omega
        clear hp1
        go_wp2
        go_ret
        exact ⟨by rw [HE.out]; rfl, hB⟩
    · have d2 : decide (sp < (c.pcs.length : Int)) = false := by simpa using h2
      have HE : Hid (isStep c ⟨sp, st⟩ = false) := by simp [Hid, isStep]; omega
      go_wp2
      go_ret
      exact ⟨by rw [HE.out]; rfl, hB⟩
  · have d1 : decide (0 ≤ sp) = false := by simpa using h1
    have HE : Hid (isStep c ⟨sp, st⟩ = false) := by simp [Hid, isStep]; omega
    go_wp2
    go_ret
    exact ⟨by rw [HE.out]; rfl, hB⟩

/-- a step before another one in order -/
def before (p : Int) (t : Bool) (q : Int) (u : Bool) : Bool := decide (p < q) || ((p == q && !t) && u)
set_option maxHeartbeats 800000 in
theorem before_ok (p q : Int) (t u : Bool) (w : World) :
    Calls Try.prog 59 #[.agg #[.int .i64 p, .bool t], .agg #[.int .i64 q, .bool u]] w fun r w' => r = .returned (.bool (before p t q u)) ∧ Below w.heap.size w w' := by
  have hB : Below w.heap.size w ((w.alloc (.cells #[.int .i64 p, .bool t] 28)).alloc (.cells #[.int .i64 q, .bool u] 28)) := ((Below.refl _ _).alloc (Nat.le_refl _) _).alloc (by simp) _
  go_enter Try.func59, Try.ntmps59
  by_cases h1 : p < q
  · have d1 : decide (p < q) = true := by simpa using h1
    have HE : Hid (before p t q u = true) := by simp [Hid, before, h1]
    go_wp2
    go_ret
    exact ⟨by rw [HE.out]; rfl, hB⟩
  · have d1 : decide (p < q) = false := by simpa using h1
    by_cases h2 : p = q
    · have d2 : (p == q) = true := by simpa using h2
      have HE : Hid (before p t q u = (!t && u)) := by simp [Hid, before, d1, d2]
      clear h2
      cases t
      · go_wp2
        go_ret
        exact ⟨by rw [HE.out]; simp, hB⟩
      · go_wp2
        go_ret
        exact ⟨by rw [HE.out]; simp, hB⟩
    · have d2 : (p == q) = false := by simpa using h2
      have HE : Hid (before p t q u = false) := by simp [Hid, before, d1, d2]
      go_wp2
      go_ret
      exact ⟨by rw [HE.out]; rfl, hB⟩
end Go.Proofs.Ytjjjockfppomdaa

namespace Go.Proofs.Ytjjjockfppomdaa
open Go.RowKit Go.Shelf
set_option linter.unusedVariables false

theorem slT_st : SlT 29 28 2 16 (.agg #[.int .i64 0, .bool false]) := ⟨Try.underlying29, by kernel_rfl, rfl, by omega⟩
theorem one_st {k : IntKind} {n : Int} {b : Bool} : ∀ u ∈ (#[Value.int k n, Value.bool b] : Array Value).toList, u.oneCell' = true := by simp [Value.oneCell']
theorem stepsGo_drop {c : Cyl} {n : Nat} {p : Pc} (h : c.pcs[n]? = some p) : stepsGo n (c.pcs.drop n) = if p.loose = true then ⟨(n : Int), false⟩ :: ⟨(n : Int), true⟩ :: stepsGo (n + 1) (c.pcs.drop (n + 1)) else ⟨(n : Int), false⟩ :: stepsGo (n + 1) (c.pcs.drop (n + 1)) := by
  obtain ⟨hk, hx⟩ := List.getElem?_eq_some_iff.1 h
  rw [List.drop_eq_getElem_cons hk, hx, stepsGo]

set_option maxRecDepth 100000 in
set_option maxHeartbeats 1600000 in
theorem rsteps_ok (v : Value) (c : Cyl) (w : World) (hv : CylV w w.heap.size v c) (hlen : c.pcs.length ≤ 8) :
    Calls Try.prog 57 #[v] w fun r w' => ∃ A cap, r = .returned (.slice A (stepsOf c).length cap) ∧ Arr w' w'.heap.size 2 (.slice A (stepsOf c).length cap) (stepsOf c) stcell ∧ Below w.heap.size w w' := by
  obtain ⟨pa, pc, rfl, hp⟩ := hv.open_
  have hC := CB.new hp
  have hB := (Below.refl w.heap.size w).alloc (Nat.le_refl _) (.cells #[.slice pa c.pcs.length pc, .int .i64 c.off, .int .i64 c.slo, .int .i64 c.shi] 26)
  go_enter Try.func57, Try.ntmps57
  go_upto_region 1 with (fail)
  have HWS : Hid ((w.alloc (.cells #[.slice pa c.pcs.length pc, .int .i64 c.off, .int .i64 c.slo, .int .i64 c.shi] 26)).heap.size = w.heap.size + 1) := by simp [Hid]
  generalize hW : w.alloc (.cells #[.slice pa c.pcs.length pc, .int .i64 c.off, .int .i64 c.slo, .int .i64 c.shi] 26) = W at *
  clear hW hp
  obtain ⟨k0, k1, k2, k3⟩ := hC.c4
  go_wp2
  go_loopw [3, 4] (fun o i wr => ∃ (n : Nat) (L : List St) (A : Option Addr) (cap : Nat), n ≤ c.pcs.length ∧ i = .int .i64 n ∧ o = .slice A L.length cap ∧ wr.ownsRow W.heap.size 28 2 (.slice A L.length cap) L.length (L.flatMap (cellsOf 2 stcell)) ∧
    L.length ≤ 2 * n ∧ stepsOf c = L ++ stepsGo n (c.pcs.drop n) ∧ Below W.heap.size W wr) (fun _ i _ => c.pcs.length - (intOf i).toNat)
  case atStart => exact ⟨0, [], none, 0, Nat.zero_le _, rfl, rfl, by simpa using World.ownsRow_nil _ _ _ _, by simp, rfl, Below.refl _ _⟩
  case round =>
    obtain ⟨n, L, A, cap, hn, rfl, rfl, hown, hL, hst, hb⟩ := hrel
    have hCr := hC.call hb
    have hBr := hB.trans (hb.mono hB.size)
    clear k0 k1 k2 k3
    obtain ⟨k0, k1, k2, k3⟩ := hCr.c4
    have hcap := own_cap hown
    by_cases hn1 : n < c.pcs.length
    · have d3 : decide (n < c.pcs.length) = true := by simpa using hn1
      have d3' : decide ((n : Int) < (c.pcs.length : Int)) = true := by simp; omega
      obtain ⟨b, off, p, hpa, hpb, hp1, c0, c1, c2, c3, c4, c5, c6⟩ := piece_at hCr.ps hn1
      subst hpa
      rw [stepsGo_drop hp1] at hst
      have HST := Lib.hid hst
      have hL2 : (L ++ [(⟨(n : Int), false⟩ : St)]).length = L.length + 1 := by simp
      clear hp1 hst c0 c1 c2 c3 c4 c5
      go_wp2_with (at_builtin; refine wpList_app1 slT_st rfl (.tmp 12) (.tmp 15) rfl (A := A) (cc := cap) rfl ⟨cap, hown, .inl rfl⟩ rfl rfl one_st hb.size ?_ ?_ ?_)
      any_goals omega
      intro v' w4 hown4 hb4 hkeep
      have hown5 := own_snoc (cell := stcell) (x := ⟨(n : Int), false⟩) (vals := #[.int .i64 (n : Int), .bool false]) rfl (by simp [cellsOf, List.range_succ, stcell]) hown4
      rw [hL2] at hown5
      obtain ⟨A', cap', rfl⟩ := own_form hown5
      have hb5 := hb.trans hb4
      have hC4 := hC.call hb5
      have c6' := (hb4.cell (p := ⟨b, off + n * 7 + 6, none⟩) (by have := hC.blk.lt; have := hC.le; show b < _; omega)).trans c6
      clear hkeep hown4 hown k0 k1 k2 k3 hcap c6
      obtain ⟨k0, k1, k2, k3⟩ := hC4.c4
      have hcap5 := own_cap hown5
      obtain ⟨L1, hL1⟩ : ∃ L1, L1 = L ++ [(⟨(n : Int), false⟩ : St)] := ⟨_, rfl⟩
      have HL1 := Lib.hid hL1
      rw [← hL1] at hown5 hL2
      clear hL1
      cases hlo : p.loose
      · rw [hlo] at c6'
        have HQ : Hid (stepsOf c = L1 ++ stepsGo (n + 1) (c.pcs.drop (n + 1))) := by rw [Hid, HST.out, hlo, HL1.out]; simp
        clear hlo
        go_wp2
        go_roundw
        case rel => exact ⟨n + 1, L1, A', cap', by omega, by go_num, by rw [hL2], by rw [hL2]; exact hown5, by omega, HQ.out, hb5⟩
        case measure => (simp [intOf]; try omega)
      · rw [hlo] at c6'
        have HQ : Hid (stepsOf c = (L1 ++ [⟨(n : Int), true⟩]) ++ stepsGo (n + 1) (c.pcs.drop (n + 1))) := by rw [Hid, HST.out, hlo, HL1.out]; simp
        have hL3 : (L1 ++ [(⟨(n : Int), true⟩ : St)]).length = L1.length + 1 := by simp
        rw [← hL2] at hown5
        rw [← hL2]
        have hL4 : L1.length ≤ 2 * n + 1 := by omega
        have HL2 := Lib.hid hL2
        clear hlo hL2
        go_wp2_with (at_builtin; refine wpList_app1 slT_st rfl (.tmp 23) (.tmp 26) rfl (A := A') (cc := cap') rfl ⟨cap', hown5, .inl rfl⟩ rfl rfl one_st hb5.size ?_ ?_ ?_)
        any_goals omega
        intro v' w6 hown6 hb6 hkeep
        have hown7 := own_snoc (cell := stcell) (x := ⟨(n : Int), true⟩) (vals := #[.int .i64 (n : Int), .bool true]) rfl (by simp [cellsOf, List.range_succ, stcell]) hown6
        rw [hL3] at hown7
        obtain ⟨A2, cap2, rfl⟩ := own_form hown7
        have hb7 := hb5.trans hb6
        clear hkeep hown6 hown5
        go_wp2
        go_roundw
        case rel => exact ⟨n + 1, L1 ++ [⟨(n : Int), true⟩], A2, cap2, by omega, by go_num, by rw [hL3], by rw [hL3]; exact hown7, by omega, HQ.out, hb7⟩
        case measure => (simp [intOf]; try omega)
    · obtain rfl : n = c.pcs.length := by omega
      have d3 : decide (c.pcs.length < c.pcs.length) = false := by simp
      have HQ : Hid (stepsOf c = L) := by rw [Hid, hst]; simp [stepsGo]
      clear hst
      go_wp2
      go_ret
      exact ⟨A, cap, by rw [HQ.out]; rfl, by rw [HQ.out]; exact Arr.of_own hown, hBr⟩
end Go.Proofs.Ytjjjockfppomdaa

namespace Go.Proofs.Ytjjjockfppomdaa
open Go.RowKit Go.Shelf
set_option linter.unusedVariables false

theorem eq_st (a c : Int) (b d : Bool) (w : World) : (Op.equalIn 10000 28 (.agg #[.int .i64 a, .bool b]) (.agg #[.int .i64 c, .bool d])).run Try.prog w = .ok (a == c && b == d) w := by
  show (Op.equalIn (9999+1) 28 _ _).run _ _ = _
  rw [run_equalIn_struct w 9999 28 _ _ (by kernel_rfl) (by kernel_rfl)]
  cases h : (a == c)
  · simp [Op.eqFields, go_sem, h]
  · cases h2 : (b == d) <;> simp [Op.eqFields, go_sem, h, h2]

set_option maxRecDepth 100000 in
set_option maxHeartbeats 1600000 in
theorem same_ok (av bv : Value) (a b : List St) (w : World) (ha : Arr w w.heap.size 2 av a stcell) (hb : Arr w w.heap.size 2 bv b stcell) :
    Calls Try.prog 29 #[av, bv] w fun r w' => r = .returned (.bool (decide (a = b))) ∧ Below w.heap.size w w' := by
  obtain ⟨aa, ac, rfl, ha1, ha2, -⟩ := id ha
  obtain ⟨ba, bc, rfl, -, -, -⟩ := id hb
  go_enter Try.func29, Try.ntmps29
  by_cases hl : a.length = b.length
  · have d1 : ((a.length : Int) == (b.length : Int)) = true := by simp [hl]
    go_wp2
    go_loopw [5] (fun i wr => ∃ n : Nat, n ≤ a.length ∧ i = .int .i64 n ∧ decide (a = b) = decide (a.drop n = b.drop n) ∧ Below w.heap.size w wr) (fun i _ => a.length - (intOf i).toNat)
    case atStart => exact ⟨0, Nat.zero_le _, rfl, rfl, Below.refl _ _⟩
    case round =>
      obtain ⟨n, hn, rfl, hd, hbx⟩ := hrel
      by_cases hn1 : n < a.length
      · have d3 : decide (n < a.length) = true := by simpa using hn1
        have d3' : decide ((n : Int) < (a.length : Int)) = true := by simp; omega
        obtain ⟨xb, xo, x, hxa, hxb, hx1, hx2⟩ := ha.at_ hn1
        obtain ⟨yb, yo, y, hya, hyb, hy1, hy2⟩ := hb.at_ (show n < b.length by omega)
        subst hxa
        subst hya
        have c0 := (hbx.cell (p := ⟨xb, xo + n * 2 + 0, none⟩) hxb).trans (hx2 0 (by omega))
        have c1 := (hbx.cell (p := ⟨xb, xo + n * 2 + 1, none⟩) hxb).trans (hx2 1 (by omega))
        have e0 := (hbx.cell (p := ⟨yb, yo + n * 2 + 0, none⟩) hyb).trans (hy2 0 (by omega))
        have e1 := (hbx.cell (p := ⟨yb, yo + n * 2 + 1, none⟩) hyb).trans (hy2 1 (by omega))
        simp only [Nat.add_zero, stcell] at c0 c1 e0 e1
        have f0 := Ext.of c0
        have f1 := Ext.of c1
        have f2 := Ext.of e0
        have f3 := Ext.of e1
        have en : IntKind.i64.wrap (n : Int) = n := by rw [IntKind.wrap_i64]; omega
        have hnb : n < b.length := by omega
        have hnb' : (n : Int) < (b.length : Int) := by omega
        have hdx : a.drop n = x :: a.drop (n + 1) := by
          obtain ⟨h1, h2⟩ := List.getElem?_eq_some_iff.1 hx1
          rw [List.drop_eq_getElem_cons h1, h2]
        have hdy : b.drop n = y :: b.drop (n + 1) := by
          obtain ⟨h1, h2⟩ := List.getElem?_eq_some_iff.1 hy1
          rw [List.drop_eq_getElem_cons h1, h2]
        rw [hdx, hdy] at hd
        have HD := Lib.hid hd
        clear hd hdx hdy hx1 hy1 hx2 hy2 c0 c1 e0 e1
        obtain ⟨xp, xt⟩ := x
        obtain ⟨yp, yt⟩ := y
        have hq : ∀ w', (Op.equalIn 10000 28 (.agg #[.int .i64 xp, .bool xt]) (.agg #[.int .i64 yp, .bool yt])).run Try.prog w' = .ok (xp == yp && xt == yt) w' := fun w' => eq_st xp yp xt yt w'
        cases hz : (xp == yp && xt == yt)
        · have HE : Hid (decide (a = b) = false) := by
            rw [Hid, HD.out]
            simp only [List.cons.injEq, St.mk.injEq, decide_eq_false_iff_not]
            rintro ⟨⟨h1, h2⟩, -⟩
            subst h1 h2
            simp at hz
          rw [hz] at hq
          go_upto_region 6 with (fail)
          refine wp_region_ext (by kernel_rfl) (by kernel_rfl) ?_
          repeat (go_big_quiet_step (fail))
          refine wpQuiet_nil ?_
          intro _ hw'
          obtain ⟨xr, hw''⟩ := hw'
          subst hw''
          have hbz := hbx.trans (xr.h.mono hbx.size)
          go_wp2
          go_ret
          exact ⟨by rw [HE.out]; rfl, hbz⟩
        · have HE : Hid (decide (a = b) = decide (a.drop (n + 1) = b.drop (n + 1))) := by
            simp only [Bool.and_eq_true, beq_iff_eq] at hz
            obtain ⟨rfl, rfl⟩ := hz
            rw [Hid, HD.out]
            simp
          rw [hz] at hq
          go_upto_region 6 with (fail)
          refine wp_region_ext (by kernel_rfl) (by kernel_rfl) ?_
          repeat (go_big_quiet_step (fail))
          refine wpQuiet_nil ?_
          intro _ hw'
          obtain ⟨xr, hw''⟩ := hw'
          subst hw''
          have hbz := hbx.trans (xr.h.mono hbx.size)
          go_wp2
          go_roundw
          case rel => exact ⟨n + 1, by omega, by go_num, HE.out, hbz⟩
          case measure => (simp [intOf]; try omega)
      · obtain rfl : n = a.length := by omega
        have d3 : decide (a.length < a.length) = false := by simp
        have HE : Hid (decide (a = b) = true) := by rw [Hid, hd, List.drop_length, hl, List.drop_length]; simp
        clear hd
        go_wp2
        go_ret
        exact ⟨by rw [HE.out]; rfl, hbx⟩
  · have d1 : ((a.length : Int) == (b.length : Int)) = false := by simp; omega
    have HE : Hid (decide (a = b) = false) := by simp [Hid]; intro h; exact hl (by rw [h])
    go_wp2
    go_ret
    exact ⟨by rw [HE.out]; rfl, Below.refl _ _⟩
end Go.Proofs.Ytjjjockfppomdaa
