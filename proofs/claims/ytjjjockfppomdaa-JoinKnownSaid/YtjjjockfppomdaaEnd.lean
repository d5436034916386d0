/- Contracts of the table: end, meets. -/
import Derived.Test.YtjjjockfppomdaaTbl
import Derived.Test.YtjjjockfppomdaaRefF
import Derived.Test.YtjjjockfppomdaaTail
namespace Go.Proofs.Ytjjjockfppomdaa
open Go.RowKit Go.Shelf
set_option linter.unusedVariables false

/-- the end of a step: false: where it begins; true: where it ends -/
def endOf (c : Cyl) (s : St) (wb : Bool) : En := if wb then fin c s else beg c s
theorem endOf_eq (c : Cyl) (k : Nat) (t wb : Bool) {p : Pc} (h : c.pcs[k]? = some p) : endOf c ⟨k, t⟩ wb = if (t == wb) = true then p.a else p.b := by
  have hp : pcAt c (k : Int) = p := by unfold pcAt; rw [Int.toNat_natCast, h]; rfl
  unfold endOf beg fin
  rw [hp]
  cases t <;> cases wb <;> rfl

set_option maxRecDepth 100000 in
set_option maxHeartbeats 1600000 in
theorem end_ok (c : Cyl) (k : Nat) (t wb : Bool) (g B pc ga gu : Nat) (pa : Option Addr) (sv : Value) (V : Nat → Nat → Int) (w : World) (hT : TC w g c pa pc sv V ga gu) (hp : Arr w B 7 (.slice pa c.pcs.length pc) c.pcs pccell) (hB : B ≤ w.heap.size) (hk : k < c.pcs.length) (hlen : c.pcs.length ≤ 8) :
    Calls Try.prog 75 #[.pointer (some ⟨g, 0, none⟩), .agg #[.int .i64 (k : Int), .bool t], .int .i64 (if wb then 1 else 0)] w fun r w' => r = .returned (enV (endOf c ⟨k, t⟩ wb)) ∧ Below w.heap.size w w' := by
  have hb := (Below.refl w.heap.size w).alloc (Nat.le_refl _) (.cells #[.int .i64 (k : Int), .bool t] 28)
  have hS := Blk.new w 28 #[.int .i64 (k : Int), .bool t]
  have hT1 := hT.call hb
  have hp1 := (hp.more hB).below hb
  have hz : (w.alloc (.cells #[.int .i64 (k : Int), .bool t] 28)).heap.size = w.heap.size + 1 := by simp
  have hg := hT.lt
  clear hT hp
  go_enter Try.func75, Try.ntmps75
  go_upto_region 1 with (fail)
  generalize w.alloc (.cells #[.int .i64 (k : Int), .bool t] 28) = W at *
  have hbA := (Below.refl W.heap.size W).alloc (Nat.le_refl _) (.cells #[.int .i64 0, .int .i64 0, .int .i64 0] 59)
  have hR := Blk.new W 59 #[.int .i64 0, .int .i64 0, .int .i64 0]
  rw [hz] at hR
  replace hT1 := hT1.call hbA
  replace hS := hS.call hbA
  replace hp1 := hp1.below (hbA.mono hb.size)
  replace hb := hb.trans (hbA.mono hb.size)
  clear hbA hz
  generalize W.alloc (.cells #[.int .i64 0, .int .i64 0, .int .i64 0] 59) = W2 at *
  obtain ⟨b, off, p, hpa, hpb, hp1', c0, c1, c2, c3, c4, c5, c6⟩ := piece_at hp1 hk
  subst hpa
  have HE : Hid (endOf c ⟨k, t⟩ wb = if (t == wb) = true then p.a else p.b) := endOf_eq c k t wb hp1'
  obtain ⟨q0, q1, q2, q3, q4⟩ := hT1.c5
  have s0 := hS.cell 0
  have s1 := hS.cell 1
  simp at s0 s1
  have r0 := hR.cell 0
  have r1 := hR.cell 1
  have r2 := hR.cell 2
  simp at r0 r1 r2
  have hrz := fun i => hR.frozen i
  have a1 : (k : Int) < (c.pcs.length : Int) := by omega
  clear hp1 hp1'
  cases t
  · cases wb
    · simp only [if_true, if_false, Bool.false_eq_true, reduceIte]
      go_upto_region 3 with (fail)
      go_wp2_with fail
      go_still_tail 12, (by kernel_rfl)
      change wpList _ _ _ _ _ (W2).drew
      go_wp2
      have hR2 := hR.put3 (.int .i64 p.a.lo) (.int .i64 p.a.hi) (.int .i64 p.a.pl)
      have hb2 := below_put3 (g := w.heap.size + 1) hb (by omega) (.int .i64 p.a.lo) (.int .i64 p.a.hi) (.int .i64 p.a.pl)
      replace hR2 := hR2.drew
      replace hb2 := hb2.drew
      clear hR hrz r0 r1 r2
      generalize (((W2.setCell ⟨w.heap.size + 1, 0, none⟩ (.int .i64 p.a.lo)).setCell ⟨w.heap.size + 1, 1, none⟩ (.int .i64 p.a.hi)).setCell ⟨w.heap.size + 1, 2, none⟩ (.int .i64 p.a.pl)).drew = W3 at *
      have t0 := hR2.cell 0
      have t1 := hR2.cell 1
      have t2 := hR2.cell 2
      simp at t0 t1 t2
      exact bodyPost_ret (v := enV p.a) (by simp [results, Try.results75, go_sem, t0, t1, t2, enV]) rfl ⟨by rw [HE.out]; rfl, hb2⟩
    · simp only [if_true, if_false, Bool.false_eq_true, reduceIte]
      go_upto_region 3 with (fail)
      go_wp2_with fail
      go_still_tail 12, (by kernel_rfl)
      change wpList _ _ _ _ _ (W2).drew
      go_wp2
      have hR2 := hR.put3 (.int .i64 p.b.lo) (.int .i64 p.b.hi) (.int .i64 p.b.pl)
      have hb2 := below_put3 (g := w.heap.size + 1) hb (by omega) (.int .i64 p.b.lo) (.int .i64 p.b.hi) (.int .i64 p.b.pl)
      replace hR2 := hR2.drew
      replace hb2 := hb2.drew
      clear hR hrz r0 r1 r2
      generalize (((W2.setCell ⟨w.heap.size + 1, 0, none⟩ (.int .i64 p.b.lo)).setCell ⟨w.heap.size + 1, 1, none⟩ (.int .i64 p.b.hi)).setCell ⟨w.heap.size + 1, 2, none⟩ (.int .i64 p.b.pl)).drew = W3 at *
      have t0 := hR2.cell 0
      have t1 := hR2.cell 1
      have t2 := hR2.cell 2
      simp at t0 t1 t2
      exact bodyPost_ret (v := enV p.b) (by simp [results, Try.results75, go_sem, t0, t1, t2, enV]) rfl ⟨by rw [HE.out]; rfl, hb2⟩
  · cases wb
    · simp only [if_true, if_false, Bool.false_eq_true, reduceIte]
      go_upto_region 3 with (fail)
      go_wp2_with fail
      go_still_tail 12, (by kernel_rfl)
      change wpList _ _ _ _ _ (W2).drew
      go_wp2
      have hR2 := hR.put3 (.int .i64 p.b.lo) (.int .i64 p.b.hi) (.int .i64 p.b.pl)
      have hb2 := below_put3 (g := w.heap.size + 1) hb (by omega) (.int .i64 p.b.lo) (.int .i64 p.b.hi) (.int .i64 p.b.pl)
      replace hR2 := hR2.drew
      replace hb2 := hb2.drew
      clear hR hrz r0 r1 r2
      generalize (((W2.setCell ⟨w.heap.size + 1, 0, none⟩ (.int .i64 p.b.lo)).setCell ⟨w.heap.size + 1, 1, none⟩ (.int .i64 p.b.hi)).setCell ⟨w.heap.size + 1, 2, none⟩ (.int .i64 p.b.pl)).drew = W3 at *
      have t0 := hR2.cell 0
      have t1 := hR2.cell 1
      have t2 := hR2.cell 2
      simp at t0 t1 t2
      exact bodyPost_ret (v := enV p.b) (by simp [results, Try.results75, go_sem, t0, t1, t2, enV]) rfl ⟨by rw [HE.out]; rfl, hb2⟩
    · simp only [if_true, if_false, Bool.false_eq_true, reduceIte]
      go_upto_region 3 with (fail)
      go_wp2_with fail
      go_still_tail 12, (by kernel_rfl)
      change wpList _ _ _ _ _ (W2).drew
      go_wp2
      have hR2 := hR.put3 (.int .i64 p.a.lo) (.int .i64 p.a.hi) (.int .i64 p.a.pl)
      have hb2 := below_put3 (g := w.heap.size + 1) hb (by omega) (.int .i64 p.a.lo) (.int .i64 p.a.hi) (.int .i64 p.a.pl)
      replace hR2 := hR2.drew
      replace hb2 := hb2.drew
      clear hR hrz r0 r1 r2
      generalize (((W2.setCell ⟨w.heap.size + 1, 0, none⟩ (.int .i64 p.a.lo)).setCell ⟨w.heap.size + 1, 1, none⟩ (.int .i64 p.a.hi)).setCell ⟨w.heap.size + 1, 2, none⟩ (.int .i64 p.a.pl)).drew = W3 at *
      have t0 := hR2.cell 0
      have t1 := hR2.cell 1
      have t2 := hR2.cell 2
      simp at t0 t1 t2
      exact bodyPost_ret (v := enV p.a) (by simp [results, Try.results75, go_sem, t0, t1, t2, enV]) rfl ⟨by rw [HE.out]; rfl, hb2⟩

set_option maxRecDepth 100000 in
set_option maxHeartbeats 1600000 in
theorem meets_ok (c : Cyl) (x y : En) (g pc ga gu : Nat) (pa : Option Addr) (sv : Value) (V : Nat → Nat → Int) (w : World) (hT : TC w g c pa pc sv V ga gu) (hx : BdE x) (hy : BdE y) :
    Calls Try.prog 74 #[.pointer (some ⟨g, 0, none⟩), enV x, enV y] w fun r w' => r = .returned (.bool (meets c x y)) ∧ Below w.heap.size w w' := by
  obtain ⟨⟨hx1, hx2, hx3⟩, hx4, hx5⟩ := hx
  obtain ⟨⟨hy1, hy2, hy3⟩, hy4, hy5⟩ := hy
  have hb := (Below.refl w.heap.size w).alloc (Nat.le_refl _) (.cells #[.int .i64 x.lo, .int .i64 x.hi, .int .i64 x.pl] 59)
  have hX := Blk.new w 59 #[.int .i64 x.lo, .int .i64 x.hi, .int .i64 x.pl]
  have hT1 := hT.call hb
  have hz : (w.alloc (.cells #[.int .i64 x.lo, .int .i64 x.hi, .int .i64 x.pl] 59)).heap.size = w.heap.size + 1 := by simp
  have hg := hT.lt
  clear hT
  go_enter Try.func74, Try.ntmps74
  go_upto_region 1 with (fail)
  generalize w.alloc (.cells #[.int .i64 x.lo, .int .i64 x.hi, .int .i64 x.pl] 59) = W at *
  have hbA := (Below.refl W.heap.size W).alloc (Nat.le_refl _) (.cells #[.int .i64 y.lo, .int .i64 y.hi, .int .i64 y.pl] 59)
  have hY := Blk.new W 59 #[.int .i64 y.lo, .int .i64 y.hi, .int .i64 y.pl]
  rw [hz] at hY
  replace hT1 := hT1.call hbA
  replace hX := hX.call hbA
  replace hb := hb.trans (hbA.mono hb.size)
  clear hbA hz
  generalize W.alloc (.cells #[.int .i64 y.lo, .int .i64 y.hi, .int .i64 y.pl] 59) = W2 at *
  obtain ⟨q0, q1, q2, q3, q4⟩ := hT1.c5
  have x0 := hX.cell 0
  have x1 := hX.cell 1
  have x2 := hX.cell 2
  have y0 := hY.cell 0
  have y1 := hY.cell 1
  have y2 := hY.cell 2
  simp at x0 x1 x2 y0 y1 y2
  have e1 : IntKind.i64.wrap (y.pl - x.pl) = y.pl - x.pl := by rw [IntKind.wrap_i64]; omega
  have e2 : IntKind.i64.wrap (x.lo - y.hi) = x.lo - y.hi := by rw [IntKind.wrap_i64]; omega
  have e3 : IntKind.i64.wrap (y.lo - x.hi) = y.lo - x.hi := by rw [IntKind.wrap_i64]; omega
  have HQ : Hid (meets c x y = true ↔ ((x.lo - y.hi ≤ c.off ∧ y.lo - x.hi ≤ c.off) ∧ c.slo ≤ y.pl - x.pl) ∧ y.pl - x.pl ≤ c.shi) := by
    rw [Hid, meets]
    simp only [Bool.and_eq_true, decide_eq_true_eq]
  clear hX hY hT1 hx1 hx2 hx3 hx4 hx5 hy1 hy2 hy3 hy4 hy5
  go_wp2
  all_goals go_ret
  all_goals refine ⟨ret_b ?_, hb⟩
  all_goals (rw [Bool.eq_iff_iff, HQ.out]; simp; omega)
end Go.Proofs.Ytjjjockfppomdaa
