/- Contract of the reference: fits. -/
import Derived.Test.YtjjjockfppomdaaRefE
namespace Go.Proofs.Ytjjjockfppomdaa
open Go.RowKit Go.Shelf
set_option linter.unusedVariables false

/-- bounds of a valid cylinder -/
theorem cyl_bounds {c : Cyl} (h : checkCyl c = 0) : (1 ≤ c.pcs.length ∧ c.pcs.length ≤ 8) ∧ (0 ≤ c.off ∧ c.off ≤ 1000) ∧ (-100000 ≤ c.slo ∧ c.slo ≤ c.shi ∧ c.shi ≤ 100000) ∧ ∀ p ∈ c.pcs, okE p.a = true ∧ okE p.b = true := by
  unfold checkCyl at h
  split at h
  · simp at h
  · split at h
    · simp at h
    · split at h
      · simp at h
      · rename_i h1 h2 h3
        simp only [Bool.not_eq_false, Bool.and_eq_true] at h3
        obtain ⟨⟨h3, h4⟩, h5⟩ := h3
        simp only [okR, Bool.and_eq_true, decide_eq_true_eq] at h3 h4
        refine ⟨⟨by omega, by omega⟩, ⟨by omega, by omega⟩, ⟨by omega, by omega, by omega⟩, fun p hp => ?_⟩
        have := (List.all_eq_true.1 h5) p hp
        rw [okP_eq, Bool.and_eq_true] at this
        exact this
/-- bounds of an end -/
def BdE (e : En) : Prop := (0 ≤ e.lo ∧ e.lo ≤ e.hi ∧ e.hi ≤ 1000) ∧ 0 ≤ e.pl ∧ e.pl ≤ 100000
theorem bdE_of {e : En} (h : okE e = true) : BdE e := by
  simp only [okE, okR, Bool.and_eq_true, decide_eq_true_eq] at h
  exact ⟨⟨by omega, by omega, by omega⟩, by omega, by omega⟩
theorem bd_at {c : Cyl} (h : checkCyl c = 0) {k : Nat} (hk : k < c.pcs.length) (t : Bool) : BdE (beg c ⟨k, t⟩) ∧ BdE (fin c ⟨k, t⟩) := by
  have := (cyl_bounds h).2.2.2 c.pcs[k] (List.getElem_mem hk)
  have hp : pcAt c (k : Int) = c.pcs[k] := by unfold pcAt; rw [Int.toNat_natCast, List.getElem?_eq_getElem hk]; rfl
  unfold beg fin
  rw [hp]
  cases t
  · exact ⟨bdE_of this.1, bdE_of this.2⟩
  · exact ⟨bdE_of this.2, bdE_of this.1⟩

set_option maxRecDepth 100000 in
set_option maxHeartbeats 1600000 in
theorem fits_ok (v : Value) (c : Cyl) (k i : Nat) (st u : Bool) (w : World) (hv : CylV w w.heap.size v c) (h0 : checkCyl c = 0) (hk : k < c.pcs.length) (hi : i < c.pcs.length) :
    Calls Try.prog 45 #[v, .agg #[.int .i64 (k : Int), .bool st], .agg #[.int .i64 (i : Int), .bool u]] w fun r w' => r = .returned (.bool (fitsS c ⟨k, st⟩ ⟨i, u⟩)) ∧ Below w.heap.size w w' := by
  have hlen := (cyl_bounds h0).1.2
  obtain ⟨hx0, hx1, hx2⟩ := (bd_at h0 hk st).2
  obtain ⟨hy0, hy1, hy2⟩ := (bd_at h0 hi u).1
  have HQ : Hid (fitsS c ⟨k, st⟩ ⟨i, u⟩ = (decide ((k : Int) ≠ (i : Int)) && meets c (fin c ⟨k, st⟩) (beg c ⟨i, u⟩))) := rfl
  obtain ⟨pa, pc, rfl, hp⟩ := hv.open_
  have hC := CB.new hp
  have hB := (Below.refl w.heap.size w).alloc (Nat.le_refl _) (.cells #[.slice pa c.pcs.length pc, .int .i64 c.off, .int .i64 c.slo, .int .i64 c.shi] 26)
  go_enter Try.func45, Try.ntmps45
  go_upto_region 1 with (fail)
  have HWS : Hid ((w.alloc (.cells #[.slice pa c.pcs.length pc, .int .i64 c.off, .int .i64 c.slo, .int .i64 c.shi] 26)).heap.size = w.heap.size + 1) := by simp [Hid]
  generalize hW : w.alloc (.cells #[.slice pa c.pcs.length pc, .int .i64 c.off, .int .i64 c.slo, .int .i64 c.shi] 26) = W at *
  clear hW hp
  have hbA := (Below.refl W.heap.size W).alloc (Nat.le_refl _) (.cells #[.int .i64 (k : Int), .bool st] 28)
  have hS := Blk.new W 28 #[.int .i64 (k : Int), .bool st]
  have hz1 : (W.alloc (.cells #[.int .i64 (k : Int), .bool st] 28)).heap.size = W.heap.size + 1 := by simp
  rw [HWS.out] at hS hz1
  replace hC := hC.call hbA
  replace hB := hB.trans (hbA.mono hB.size)
  clear hbA
  generalize W.alloc (.cells #[.int .i64 (k : Int), .bool st] 28) = V at *
  have hbA := (Below.refl V.heap.size V).alloc (Nat.le_refl _) (.cells #[.int .i64 (i : Int), .bool u] 28)
  have hU := Blk.new V 28 #[.int .i64 (i : Int), .bool u]
  rw [hz1] at hU
  replace hC := hC.call hbA
  replace hS := hS.call hbA
  replace hB := hB.trans (hbA.mono hB.size)
  clear hbA hz1
  generalize V.alloc (.cells #[.int .i64 (i : Int), .bool u] 28) = V2 at *
  obtain ⟨k0, k1, k2, k3⟩ := hC.c4
  have s0 := hS.cell 0
  have s1 := hS.cell 1
  have u0 := hU.cell 0
  have u1 := hU.cell 1
  simp at s0 s1 u0 u1
  have HX := Lib.hid (rfl : fin c ⟨k, st⟩ = fin c ⟨k, st⟩)
  generalize hfx : fin c ⟨k, st⟩ = x at *
  generalize hfy : beg c ⟨i, u⟩ = y at *
  go_wp2_with fail
  refine (ends_ok _ c k st V2 hC.cyl hk hlen).mono ?_
  rintro e w1 ⟨rfl, hb1⟩
  replace hC := hC.call hb1
  replace hS := hS.call hb1
  replace hU := hU.call hb1
  replace hB := hB.trans (hb1.mono hB.size)
  clear hb1 k0 k1 k2 k3 s0 s1 u0 u1
  go_upto_region 2 with (fail)
  generalize beg c ⟨k, st⟩ = x0 at *
  have hbA := (Below.refl w1.heap.size w1).alloc (Nat.le_refl _) (.cells #[.int .i64 x0.lo, .int .i64 x0.hi, .int .i64 x0.pl] 59)
  have hz1 : (w1.alloc (.cells #[.int .i64 x0.lo, .int .i64 x0.hi, .int .i64 x0.pl] 59)).heap.size = w1.heap.size + 1 := by simp
  replace hC := hC.call hbA
  replace hS := hS.call hbA
  replace hU := hU.call hbA
  replace hB := hB.trans (hbA.mono hB.size)
  clear hbA
  generalize w1.alloc (.cells #[.int .i64 x0.lo, .int .i64 x0.hi, .int .i64 x0.pl] 59) = w2 at *
  have hbA := (Below.refl w2.heap.size w2).alloc (Nat.le_refl _) (.cells #[.int .i64 x.lo, .int .i64 x.hi, .int .i64 x.pl] 59)
  have hXb := Blk.new w2 59 #[.int .i64 x.lo, .int .i64 x.hi, .int .i64 x.pl]
  rw [hz1] at hXb
  replace hC := hC.call hbA
  replace hS := hS.call hbA
  replace hU := hU.call hbA
  replace hB := hB.trans (hbA.mono hB.size)
  clear hbA hz1
  generalize w2.alloc (.cells #[.int .i64 x.lo, .int .i64 x.hi, .int .i64 x.pl] 59) = w3 at *
  generalize w1.heap.size = g1 at *
  obtain ⟨k0, k1, k2, k3⟩ := hC.c4
  have s0 := hS.cell 0
  have s1 := hS.cell 1
  have u0 := hU.cell 0
  have u1 := hU.cell 1
  simp at s0 s1 u0 u1
  go_wp2_with fail
  refine (ends_ok _ c i u w3 hC.cyl hi hlen).mono ?_
  rintro e w4 ⟨rfl, hb4⟩
  replace hC := hC.call hb4
  replace hS := hS.call hb4
  replace hU := hU.call hb4
  replace hXb := hXb.call hb4
  replace hB := hB.trans (hb4.mono hB.size)
  clear hb4 k0 k1 k2 k3 s0 s1 u0 u1
  go_upto_region 3 with (fail)
  generalize fin c ⟨i, u⟩ = y0 at *
  have hbA := (Below.refl w4.heap.size w4).alloc (Nat.le_refl _) (.cells #[.int .i64 y.lo, .int .i64 y.hi, .int .i64 y.pl] 59)
  have hYb := Blk.new w4 59 #[.int .i64 y.lo, .int .i64 y.hi, .int .i64 y.pl]
  replace hC := hC.call hbA
  replace hS := hS.call hbA
  replace hU := hU.call hbA
  replace hXb := hXb.call hbA
  replace hB := hB.trans (hbA.mono hB.size)
  clear hbA
  generalize w4.alloc (.cells #[.int .i64 y.lo, .int .i64 y.hi, .int .i64 y.pl] 59) = w5 at *
  generalize w4.heap.size = g4 at *
  have hbA := (Below.refl w5.heap.size w5).alloc (Nat.le_refl _) (.cells #[.int .i64 y0.lo, .int .i64 y0.hi, .int .i64 y0.pl] 59)
  replace hC := hC.call hbA
  replace hS := hS.call hbA
  replace hU := hU.call hbA
  replace hXb := hXb.call hbA
  replace hYb := hYb.call hbA
  replace hB := hB.trans (hbA.mono hB.size)
  clear hbA
  generalize w5.alloc (.cells #[.int .i64 y0.lo, .int .i64 y0.hi, .int .i64 y0.pl] 59) = w6 at *
  obtain ⟨k0, k1, k2, k3⟩ := hC.c4
  have s0 := hS.cell 0
  have u0 := hU.cell 0
  have x0 := hXb.cell 0
  have x1 := hXb.cell 1
  have x2 := hXb.cell 2
  have y0 := hYb.cell 0
  have y1 := hYb.cell 1
  have y2 := hYb.cell 2
  simp at s0 u0 x0 x1 x2 y0 y1 y2
  have e1 : IntKind.i64.wrap (y.pl - x.pl) = y.pl - x.pl := by rw [IntKind.wrap_i64]; omega
  have e2 : IntKind.i64.wrap (x.lo - y.hi) = x.lo - y.hi := by rw [IntKind.wrap_i64]; omega
  have e3 : IntKind.i64.wrap (y.lo - x.hi) = y.lo - x.hi := by rw [IntKind.wrap_i64]; omega
  clear hC hS hU hXb hYb hx0 hx1 hx2 hy0 hy1 hy2
  by_cases g0 : (k : Int) = (i : Int)
  · have d0 : ((k : Int) != (i : Int)) = false := by simpa using g0
    have HE : Hid (fitsS c ⟨k, st⟩ ⟨i, u⟩ = false) := by rw [Hid, HQ.out]; simp [g0]
    go_wp2
    go_ret
    exact ⟨by rw [HE.out]; rfl, hB⟩
  · have d0 : ((k : Int) != (i : Int)) = true := by simpa using g0
    replace HQ : Hid (fitsS c ⟨k, st⟩ ⟨i, u⟩ = meets c x y) := by rw [Hid, HQ.out]; simp [g0]
    by_cases g1 : x.lo - y.hi ≤ c.off
    · have d1 : decide (x.lo - y.hi ≤ c.off) = true := by simpa using g1
      by_cases g2 : y.lo - x.hi ≤ c.off
      · have d2 : decide (y.lo - x.hi ≤ c.off) = true := by simpa using g2
        by_cases g3 : c.slo ≤ y.pl - x.pl
        · have d3 : decide (c.slo ≤ y.pl - x.pl) = true := by simpa using g3
          have HE : Hid (fitsS c ⟨k, st⟩ ⟨i, u⟩ = decide (y.pl - x.pl ≤ c.shi)) := by rw [Hid, HQ.out, meets, d1, d2, d3]; rfl
          clear g0 g1 g2 g3
          go_wp2
          go_ret
          exact ⟨by rw [HE.out]; rfl, hB⟩
        · have d3 : decide (c.slo ≤ y.pl - x.pl) = false := by simpa using g3
          have HE : Hid (fitsS c ⟨k, st⟩ ⟨i, u⟩ = false) := by rw [Hid, HQ.out, meets, d1, d2, d3]; rfl
          clear g0 g1 g2 g3
          go_wp2
          go_ret
          exact ⟨by rw [HE.out]; rfl, hB⟩
      · have d2 : decide (y.lo - x.hi ≤ c.off) = false := by simpa using g2
        have HE : Hid (fitsS c ⟨k, st⟩ ⟨i, u⟩ = false) := by rw [Hid, HQ.out, meets, d1, d2]; rfl
        clear g0 g1 g2
        go_wp2
        go_ret
        exact ⟨by rw [HE.out]; rfl, hB⟩
    · have d1 : decide (x.lo - y.hi ≤ c.off) = false := by simpa using g1
      have HE : Hid (fitsS c ⟨k, st⟩ ⟨i, u⟩ = false) := by rw [Hid, HQ.out, meets, d1]; rfl
      clear g0 g1
      go_wp2
      go_ret
      exact ⟨by rw [HE.out]; rfl, hB⟩
end Go.Proofs.Ytjjjockfppomdaa
