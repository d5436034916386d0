/- Contracts of the reference: IsStep, Before. -/
import Derived.Test.YtjjjockfppomdaaCyl
namespace Go.Proofs.Ytjjjockfppomdaa
open Go.RowKit Go.Shelf
set_option linter.unusedVariables false

theorem ret_b {a a' : Bool} (h1 : a = a') : Ending.returned (.bool a) = Ending.returned (.bool a') := by rw [h1]

set_option maxRecDepth 100000 in
set_option maxHeartbeats 1600000 in
theorem isStep_ok (v : Value) (c : Cyl) (sp : Int) (st : Bool) (w : World) (hv : CylV w w.heap.size v c) :
    Calls Try.prog 44 #[v, .agg #[.int .i64 sp, .bool st]] w fun r w' => r = .returned (.bool (isStep c ⟨sp, st⟩)) ∧ Below w.heap.size w w' := by
  obtain ⟨pa, pc, rfl, hp⟩ := hv.open_
  have hC := CB.new hp
  have hB := (Below.refl w.heap.size w).alloc (Nat.le_refl _) (.cells #[.slice pa c.pcs.length pc, .int .i64 c.off, .int .i64 c.slo, .int .i64 c.shi] 26)
  go_enter Try.func44, Try.ntmps44
  go_upto_region 1 with (fail)
  have HWS : Hid ((w.alloc (.cells #[.slice pa c.pcs.length pc, .int .i64 c.off, .int .i64 c.slo, .int .i64 c.shi] 26)).heap.size = w.heap.size + 1) := by simp [Hid]
  generalize hW : w.alloc (.cells #[.slice pa c.pcs.length pc, .int .i64 c.off, .int .i64 c.slo, .int .i64 c.shi] 26) = W at *
  clear hW hp
  have hbA := (Below.refl W.heap.size W).alloc (Nat.le_refl _) (.cells #[.int .i64 sp, .bool st] 28)
  have hS := Blk.new W 28 #[.int .i64 sp, .bool st]
  rw [HWS.out] at hS
  replace hC := hC.call hbA
  replace hB := hB.trans (hbA.mono hB.size)
  clear hbA
  generalize W.alloc (.cells #[.int .i64 sp, .bool st] 28) = V at *
  obtain ⟨k0, k1, k2, k3⟩ := hC.c4
  have s0 := hS.cell 0
  have s1 := hS.cell 1
  simp at s0 s1
  by_cases h1 : 0 ≤ sp
  · have d1 : decide (0 ≤ sp) = true := by simpa using h1
    by_cases h2 : sp < (c.pcs.length : Int)
    · have d2 : decide (sp < (c.pcs.length : Int)) = true := by simpa using h2
      obtain ⟨k, rfl⟩ : ∃ k : Nat, sp = (k : Int) := ⟨sp.toNat, by omega⟩
      have hk : k < c.pcs.length := by omega
      have ek : IntKind.i64.wrap (k : Int) = k ∨ True := .inr trivial
      obtain ⟨b, off, p, hpa, hpb, hp1, c0, c1, c2, c3, c4, c5, c6⟩ := piece_at hC.ps hk
      subst hpa
      cases st
      · have HE : Hid (isStep c ⟨k, false⟩ = true) := by simp [Hid, isStep]; omega
        go_wp2
        go_ret
        exact ⟨by rw [HE.out]; rfl, hB⟩
      · have HE : Hid (isStep c ⟨k, true⟩ = p.loose) := by
          unfold isStep pcAt
          rw [Hid, Int.toNat_natCast, hp1]
          simp
          omega
        clear hp1
        go_wp2
        go_ret
        exact ⟨by rw [HE.out]; rfl, hB⟩
    · have d2 : decide (sp < (c.pcs.length : Int)) = false := by simpa using h2
      have HE : Hid (isStep c ⟨sp, st⟩ = false) := by simp [Hid, isStep]; omega
      go_wp2
      go_ret
      exact ⟨by rw [HE.out]; rfl, hB⟩
  · have d1 : decide (0 ≤ sp) = false := by simpa using h1
    have HE : Hid (isStep c ⟨sp, st⟩ = false) := by simp [Hid, isStep]; omega
    go_wp2
    go_ret
    exact ⟨by rw [HE.out]; rfl, hB⟩

/-- a step before another one in order -/
def before (p : Int) (t : Bool) (q : Int) (u : Bool) : Bool := decide (p < q) || ((p == q && !t) && u)
set_option maxHeartbeats 800000 in
theorem before_ok (p q : Int) (t u : Bool) (w : World) :
    Calls Try.prog 59 #[.agg #[.int .i64 p, .bool t], .agg #[.int .i64 q, .bool u]] w fun r w' => r = .returned (.bool (before p t q u)) ∧ Below w.heap.size w w' := by
  have hB : Below w.heap.size w ((w.alloc (.cells #[.int .i64 p, .bool t] 28)).alloc (.cells #[.int .i64 q, .bool u] 28)) := ((Below.refl _ _).alloc (Nat.le_refl _) _).alloc (by simp) _
  go_enter Try.func59, Try.ntmps59
  by_cases h1 : p < q
  · have d1 : decide (p < q) = true := by simpa using h1
    have HE : Hid (before p t q u = true) := by simp [Hid, before, h1]
    go_wp2
    go_ret
    exact ⟨by rw [HE.out]; rfl, hB⟩
  · have d1 : decide (p < q) = false := by simpa using h1
    by_cases h2 : p = q
    · have d2 : (p == q) = true := by simpa using h2
      have HE : Hid (before p t q u = (!t && u)) := by simp [Hid, before, d1, d2]
      clear h2
      cases t
      · go_wp2
        go_ret
        exact ⟨by rw [HE.out]; simp, hB⟩
      · go_wp2
        go_ret
        exact ⟨by rw [HE.out]; simp, hB⟩
    · have d2 : (p == q) = false := by simpa using h2
      have HE : Hid (before p t q u = false) := by simp [Hid, before, d1, d2]
      go_wp2
      go_ret
      exact ⟨by rw [HE.out]; rfl, hB⟩
end Go.Proofs.Ytjjjockfppomdaa
