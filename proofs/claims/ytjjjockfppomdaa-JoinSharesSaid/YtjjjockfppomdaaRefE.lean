/- Contract of the reference: ends. Contract of the reference: fits. Contracts of the reference: Fits, CheckJoin. -/
import Derived.Test.YtjjjockfppomdaaChkA
import Derived.Test.YtjjjockfppomdaaRefB
import Derived.Test.YtjjjockfppomdaaRefA
namespace Go.Proofs.Ytjjjockfppomdaa
open Go.RowKit Go.Shelf
set_option linter.unusedVariables false

abbrev enV (e : En) : Value := .agg #[.int .i64 e.lo, .int .i64 e.hi, .int .i64 e.pl]

set_option maxRecDepth 100000 in
set_option maxHeartbeats 1600000 in
theorem ends_ok (v : Value) (c : Cyl) (k : Nat) (st : Bool) (w : World) (hv : CylV w w.heap.size v c) (hk : k < c.pcs.length) (hlen : c.pcs.length ≤ 8) :
    Calls Try.prog 66 #[v, .agg #[.int .i64 (k : Int), .bool st]] w fun r w' => r = .returned (.tuple #[enV (beg c ⟨k, st⟩), enV (fin c ⟨k, st⟩)]) ∧ Below w.heap.size w w' := by
  obtain ⟨pa, pc, rfl, hp⟩ := hv.open_
  have hC := CB.new hp
  have hB := (Below.refl w.heap.size w).alloc (Nat.le_refl _) (.cells #[.slice pa c.pcs.length pc, .int .i64 c.off, .int .i64 c.slo, .int .i64 c.shi] 26)
  go_enter Try.func66, Try.ntmps66
  go_upto_region 1 with (fail)
  have HWS : Hid ((w.alloc (.cells #[.slice pa c.pcs.length pc, .int .i64 c.off, .int .i64 c.slo, .int .i64 c.shi] 26)).heap.size = w.heap.size + 1) := by simp [Hid]
  generalize hW : w.alloc (.cells #[.slice pa c.pcs.length pc, .int .i64 c.off, .int .i64 c.slo, .int .i64 c.shi] 26) = W at *
  clear hW hp
  have hbA := (Below.refl W.heap.size W).alloc (Nat.le_refl _) (.cells #[.int .i64 (k : Int), .bool st] 28)
  have hS := Blk.new W 28 #[.int .i64 (k : Int), .bool st]
  have hz1 : (W.alloc (.cells #[.int .i64 (k : Int), .bool st] 28)).heap.size = W.heap.size + 1 := by simp
  rw [HWS.out] at hS hz1
  replace hC := hC.call hbA
  replace hB := hB.trans (hbA.mono hB.size)
  clear hbA
  generalize W.alloc (.cells #[.int .i64 (k : Int), .bool st] 28) = V at *
  have hbA := (Below.refl V.heap.size V).alloc (Nat.le_refl _) (.cells #[.int .i64 0, .int .i64 0, .int .i64 0] 59)
  have h4 := Blk.new V 59 #[.int .i64 0, .int .i64 0, .int .i64 0]
  have hz2 : (V.alloc (.cells #[.int .i64 0, .int .i64 0, .int .i64 0] 59)).heap.size = V.heap.size + 1 := by simp
  rw [hz1] at h4 hz2
  replace hC := hC.call hbA
  replace hS := hS.call hbA
  replace hB := hB.trans (hbA.mono hB.size)
  clear hbA
  generalize V.alloc (.cells #[.int .i64 0, .int .i64 0, .int .i64 0] 59) = V2 at *
  have hbA := (Below.refl V2.heap.size V2).alloc (Nat.le_refl _) (.cells #[.int .i64 0, .int .i64 0, .int .i64 0] 59)
  have h5 := Blk.new V2 59 #[.int .i64 0, .int .i64 0, .int .i64 0]
  have hz3 : (V2.alloc (.cells #[.int .i64 0, .int .i64 0, .int .i64 0] 59)).heap.size = V2.heap.size + 1 := by simp
  rw [hz2] at h5 hz3
  replace hC := hC.call hbA
  replace hS := hS.call hbA
  replace h4 := h4.call hbA
  replace hB := hB.trans (hbA.mono hB.size)
  clear hbA
  generalize V2.alloc (.cells #[.int .i64 0, .int .i64 0, .int .i64 0] 59) = V3 at *
  clear hz1 hz2
  obtain ⟨k0, k1, k2, k3⟩ := hC.c4
  have s0 := hS.cell 0
  have s1 := hS.cell 1
  simp at s0 s1
  obtain ⟨b, off, p, hpa, hpb, hp1, c0, c1, c2, c3, c4, c5, c6⟩ := piece_at hC.ps hk
  subst hpa
  have HBE : Hid (beg c ⟨k, st⟩ = if st = true then p.b else p.a) := by unfold beg pcAt; rw [Hid, Int.toNat_natCast, hp1]; rfl
  have HFI : Hid (fin c ⟨k, st⟩ = if st = true then p.a else p.b) := by unfold fin pcAt; rw [Hid, Int.toNat_natCast, hp1]; rfl
  have d1 : (k : Int) < (c.pcs.length : Int) := by omega
  clear hp1
  go_upto_region 2 with (fail)
  have hbA := (Below.refl V3.heap.size V3).alloc (Nat.le_refl _) (.cells #[.int .i64 p.a.lo, .int .i64 p.a.hi, .int .i64 p.a.pl, .int .i64 p.b.lo, .int .i64 p.b.hi, .int .i64 p.b.pl] 60)
  have h6 := Blk.new V3 60 #[.int .i64 p.a.lo, .int .i64 p.a.hi, .int .i64 p.a.pl, .int .i64 p.b.lo, .int .i64 p.b.hi, .int .i64 p.b.pl]
  rw [hz3] at h6
  replace hS := hS.call hbA
  replace h4 := h4.call hbA
  replace h5 := h5.call hbA
  replace hB := hB.trans (hbA.mono hB.size)
  clear hbA k0 k1 k2 k3 s0 s1 c0 c1 c2 c3 c4 c5 c6 hC hz3
  generalize V3.alloc (.cells #[.int .i64 p.a.lo, .int .i64 p.a.hi, .int .i64 p.a.pl, .int .i64 p.b.lo, .int .i64 p.b.hi, .int .i64 p.b.pl] 60) = V4 at *
  have k0 := hS.cell 0
  have k1 := hS.cell 1
  have f0 := h6.cell 0
  have f1 := h6.cell 1
  have f2 := h6.cell 2
  have f3 := h6.cell 3
  have f4 := h6.cell 4
  have f5 := h6.cell 5
  simp at k0 k1 f0 f1 f2 f3 f4 f5
  have k2 := True.intro
  have k3 := True.intro
  have s0 := True.intro
  have s1 := True.intro
  cases st
  · rw [if_neg (by simp)] at HBE HFI
    go_upto_region 4 with (fail)
    generalize hgg : w.heap.size + 1 + 1 + 1 + 1 = g6 at h6 f0 f1 f2 f3 f4 f5
    obtain ⟨F, hF⟩ : ∃ F : World → Prop, (∀ w', F w' ↔ Blk w' g6 60 #[.int .i64 p.a.lo, .int .i64 p.a.hi, .int .i64 p.a.pl, .int .i64 p.b.lo, .int .i64 p.b.hi, .int .i64 p.b.pl]) := ⟨_, fun _ => Iff.rfl⟩
    have hFd : F V4.drew := (hF _).2 h6.drew
    haveI : Nonempty (SubW F) := ⟨⟨_, hFd⟩⟩
    have f0 : ∀ y : SubW F, y.w.cell? ⟨g6, 0, none⟩ = some (.int .i64 p.a.lo) := fun y => by have := ((hF y.w).1 y.h).cell 0; simpa using this
    have f1 : ∀ y : SubW F, y.w.cell? ⟨g6, 1, none⟩ = some (.int .i64 p.a.hi) := fun y => by have := ((hF y.w).1 y.h).cell 1; simpa using this
    have f2 : ∀ y : SubW F, y.w.cell? ⟨g6, 2, none⟩ = some (.int .i64 p.a.pl) := fun y => by have := ((hF y.w).1 y.h).cell 2; simpa using this
    have f3 : ∀ y : SubW F, y.w.cell? ⟨g6, 3, none⟩ = some (.int .i64 p.b.lo) := fun y => by have := ((hF y.w).1 y.h).cell 3; simpa using this
    have f4 : ∀ y : SubW F, y.w.cell? ⟨g6, 4, none⟩ = some (.int .i64 p.b.hi) := fun y => by have := ((hF y.w).1 y.h).cell 4; simpa using this
    have f5 : ∀ y : SubW F, y.w.cell? ⟨g6, 5, none⟩ = some (.int .i64 p.b.pl) := fun y => by have := ((hF y.w).1 y.h).cell 5; simpa using this
    have hFx : F ((((V4.drew).setCell ⟨w.heap.size + 1 + 1, 0, none⟩ (.int .i64 p.a.lo)).setCell ⟨w.heap.size + 1 + 1, 1, none⟩ (.int .i64 p.a.hi)).setCell ⟨w.heap.size + 1 + 1, 2, none⟩ (.int .i64 p.a.pl)) := (hF _).2 (h6.drew.far3 (by omega) _ _ _)
    replace h4 := h4.drew
    replace h5 := h5.drew
    replace hB := hB.drew
    clear s0 s1 k0 k1 k2 k3 hF h6 hgg
    refine wp_region_sched (C := fun w' => ∃ y : SubW F, w' = y.w) [(0, true), (1, true), (2, true), (3, true), (4, false), (5, false)] (by kernel_rfl) (by kernel_rfl) ⟨⟨_, hFd⟩, rfl⟩ ?_
    generalize V4.drew = V5 at *
    have t0 := h4.cell 0
    have t1 := h4.cell 1
    have t2 := h4.cell 2
    have u0 := h5.cell 0
    have u1 := h5.cell 1
    have u2 := h5.cell 2
    simp at t0 t1 t2 u0 u1 u2
    have z4 := fun i => h4.frozen i
    have z5 := fun i => h5.frozen i
    have hne : w.heap.size + 1 + 1 ≠ w.heap.size + 1 + 1 + 1 := by omega
    refine sched_q (by rfl) (by rfl) ?_
    intro K hK
    go_big_quiet_op
    go_big_quiet_on
    refine sched_q (by rfl) (by rfl) ?_
    intro K hK
    go_big_quiet_op
    go_big_quiet_on
    refine sched_q (by rfl) (by rfl) ?_
    intro K hK
    go_big_quiet_op
    go_big_quiet_on
    refine sched_q (by rfl) (by rfl) ?_
    intro K hK
    go_big_quiet_op
    go_big_quiet_on
    refine sched_c (by rfl) (by rfl) ?_
    intro K' hK'
    go_wp2
    refine hK' _ _ ⟨.inr ⟨⟨_, hFx⟩, rfl⟩, ?_⟩
    clear hK' K' f0 f1 f2 f3 f4 f5
    have m4 := h4.put3 (.int .i64 p.a.lo) (.int .i64 p.a.hi) (.int .i64 p.a.pl)
    have m5 := h5.far3 (g := w.heap.size + 1 + 1) (by omega) (.int .i64 p.a.lo) (.int .i64 p.a.hi) (.int .i64 p.a.pl)
    have mB := below_put3 (g := w.heap.size + 1 + 1) hB (by omega) (.int .i64 p.a.lo) (.int .i64 p.a.hi) (.int .i64 p.a.pl)
    clear t0 t1 t2 u0 u1 u2 z4 z5 h4 h5 hB hFx hFd
    generalize (((V5.setCell ⟨w.heap.size + 1 + 1, 0, none⟩ (.int .i64 p.a.lo)).setCell ⟨w.heap.size + 1 + 1, 1, none⟩ (.int .i64 p.a.hi)).setCell ⟨w.heap.size + 1 + 1, 2, none⟩ (.int .i64 p.a.pl)) = V6 at *
    have u0 := m5.cell 0
    have u1 := m5.cell 1
    have u2 := m5.cell 2
    simp at u0 u1 u2
    have z5 := fun i => m5.frozen i
    refine sched_c (by rfl) (by rfl) ?_
    intro K' hK'
    go_wp2
    refine hK' _ _ ⟨(by first | exact .inl rfl | exact .inl trivial), ?_⟩
    clear hK' K'
    refine sched_nil ?_
    have n5 := m5.put3 (.int .i64 p.b.lo) (.int .i64 p.b.hi) (.int .i64 p.b.pl)
    have n4 := m4.far3 (g := w.heap.size + 1 + 1 + 1) (by omega) (.int .i64 p.b.lo) (.int .i64 p.b.hi) (.int .i64 p.b.pl)
    have nB := below_put3 (g := w.heap.size + 1 + 1 + 1) mB (by omega) (.int .i64 p.b.lo) (.int .i64 p.b.hi) (.int .i64 p.b.pl)
    clear u0 u1 u2 z5 m4 m5 mB this
    generalize (((V6.setCell ⟨w.heap.size + 1 + 1 + 1, 0, none⟩ (.int .i64 p.b.lo)).setCell ⟨w.heap.size + 1 + 1 + 1, 1, none⟩ (.int .i64 p.b.hi)).setCell ⟨w.heap.size + 1 + 1 + 1, 2, none⟩ (.int .i64 p.b.pl)) = V7 at *
    have t0 := n4.cell 0
    have t1 := n4.cell 1
    have t2 := n4.cell 2
    have u0 := n5.cell 0
    have u1 := n5.cell 1
    have u2 := n5.cell 2
    simp at t0 t1 t2 u0 u1 u2
    go_wp2
    exact bodyPost_ret (v := .tuple #[enV p.a, enV p.b]) (by simp [results, Try.results66, go_sem, t0, t1, t2, u0, u1, u2, enV]) rfl ⟨by rw [HBE.out, HFI.out], nB⟩
  · rw [if_pos rfl] at HBE HFI
    go_upto_region 3 with (fail)
    generalize hgg : w.heap.size + 1 + 1 + 1 + 1 = g6 at h6 f0 f1 f2 f3 f4 f5
    obtain ⟨F, hF⟩ : ∃ F : World → Prop, (∀ w', F w' ↔ Blk w' g6 60 #[.int .i64 p.a.lo, .int .i64 p.a.hi, .int .i64 p.a.pl, .int .i64 p.b.lo, .int .i64 p.b.hi, .int .i64 p.b.pl]) := ⟨_, fun _ => Iff.rfl⟩
    have hFd : F V4.drew := (hF _).2 h6.drew
    haveI : Nonempty (SubW F) := ⟨⟨_, hFd⟩⟩
    have f0 : ∀ y : SubW F, y.w.cell? ⟨g6, 0, none⟩ = some (.int .i64 p.a.lo) := fun y => by have := ((hF y.w).1 y.h).cell 0; simpa using this
    have f1 : ∀ y : SubW F, y.w.cell? ⟨g6, 1, none⟩ = some (.int .i64 p.a.hi) := fun y => by have := ((hF y.w).1 y.h).cell 1; simpa using this
    have f2 : ∀ y : SubW F, y.w.cell? ⟨g6, 2, none⟩ = some (.int .i64 p.a.pl) := fun y => by have := ((hF y.w).1 y.h).cell 2; simpa using this
    have f3 : ∀ y : SubW F, y.w.cell? ⟨g6, 3, none⟩ = some (.int .i64 p.b.lo) := fun y => by have := ((hF y.w).1 y.h).cell 3; simpa using this
    have f4 : ∀ y : SubW F, y.w.cell? ⟨g6, 4, none⟩ = some (.int .i64 p.b.hi) := fun y => by have := ((hF y.w).1 y.h).cell 4; simpa using this
    have f5 : ∀ y : SubW F, y.w.cell? ⟨g6, 5, none⟩ = some (.int .i64 p.b.pl) := fun y => by have := ((hF y.w).1 y.h).cell 5; simpa using this
    have hFx : F ((((V4.drew).setCell ⟨w.heap.size + 1 + 1, 0, none⟩ (.int .i64 p.b.lo)).setCell ⟨w.heap.size + 1 + 1, 1, none⟩ (.int .i64 p.b.hi)).setCell ⟨w.heap.size + 1 + 1, 2, none⟩ (.int .i64 p.b.pl)) := (hF _).2 (h6.drew.far3 (by omega) _ _ _)
    replace h4 := h4.drew
    replace h5 := h5.drew
    replace hB := hB.drew
    clear s0 s1 k0 k1 k2 k3 hF h6 hgg
    refine wp_region_sched (C := fun w' => ∃ y : SubW F, w' = y.w) [(0, true), (1, true), (2, true), (3, true), (4, false), (5, false)] (by kernel_rfl) (by kernel_rfl) ⟨⟨_, hFd⟩, rfl⟩ ?_
    generalize V4.drew = V5 at *
    have t0 := h4.cell 0
    have t1 := h4.cell 1
    have t2 := h4.cell 2
    have u0 := h5.cell 0
    have u1 := h5.cell 1
    have u2 := h5.cell 2
    simp at t0 t1 t2 u0 u1 u2
    have z4 := fun i => h4.frozen i
    have z5 := fun i => h5.frozen i
    have hne : w.heap.size + 1 + 1 ≠ w.heap.size + 1 + 1 + 1 := by omega
    refine sched_q (by rfl) (by rfl) ?_
    intro K hK
    go_big_quiet_op
    go_big_quiet_on
    refine sched_q (by rfl) (by rfl) ?_
    intro K hK
    go_big_quiet_op
    go_big_quiet_on
    refine sched_q (by rfl) (by rfl) ?_
    intro K hK
    go_big_quiet_op
    go_big_quiet_on
    refine sched_q (by rfl) (by rfl) ?_
    intro K hK
    go_big_quiet_op
    go_big_quiet_on
    refine sched_c (by rfl) (by rfl) ?_
    intro K' hK'
    go_wp2
    refine hK' _ _ ⟨.inr ⟨⟨_, hFx⟩, rfl⟩, ?_⟩
    clear hK' K' f0 f1 f2 f3 f4 f5
    have m4 := h4.put3 (.int .i64 p.b.lo) (.int .i64 p.b.hi) (.int .i64 p.b.pl)
    have m5 := h5.far3 (g := w.heap.size + 1 + 1) (by omega) (.int .i64 p.b.lo) (.int .i64 p.b.hi) (.int .i64 p.b.pl)
    have mB := below_put3 (g := w.heap.size + 1 + 1) hB (by omega) (.int .i64 p.b.lo) (.int .i64 p.b.hi) (.int .i64 p.b.pl)
    clear t0 t1 t2 u0 u1 u2 z4 z5 h4 h5 hB hFx hFd
    generalize (((V5.setCell ⟨w.heap.size + 1 + 1, 0, none⟩ (.int .i64 p.b.lo)).setCell ⟨w.heap.size + 1 + 1, 1, none⟩ (.int .i64 p.b.hi)).setCell ⟨w.heap.size + 1 + 1, 2, none⟩ (.int .i64 p.b.pl)) = V6 at *
    have u0 := m5.cell 0
    have u1 := m5.cell 1
    have u2 := m5.cell 2
    simp at u0 u1 u2
    have z5 := fun i => m5.frozen i
    refine sched_c (by rfl) (by rfl) ?_
    intro K' hK'
    go_wp2
    refine hK' _ _ ⟨(by first | exact .inl rfl | exact .inl trivial), ?_⟩
    clear hK' K'
    refine sched_nil ?_
    have n5 := m5.put3 (.int .i64 p.a.lo) (.int .i64 p.a.hi) (.int .i64 p.a.pl)
    have n4 := m4.far3 (g := w.heap.size + 1 + 1 + 1) (by omega) (.int .i64 p.a.lo) (.int .i64 p.a.hi) (.int .i64 p.a.pl)
    have nB := below_put3 (g := w.heap.size + 1 + 1 + 1) mB (by omega) (.int .i64 p.a.lo) (.int .i64 p.a.hi) (.int .i64 p.a.pl)
    clear u0 u1 u2 z5 m4 m5 mB this
    generalize (((V6.setCell ⟨w.heap.size + 1 + 1 + 1, 0, none⟩ (.int .i64 p.a.lo)).setCell ⟨w.heap.size + 1 + 1 + 1, 1, none⟩ (.int .i64 p.a.hi)).setCell ⟨w.heap.size + 1 + 1 + 1, 2, none⟩ (.int .i64 p.a.pl)) = V7 at *
    have t0 := n4.cell 0
    have t1 := n4.cell 1
    have t2 := n4.cell 2
    have u0 := n5.cell 0
    have u1 := n5.cell 1
    have u2 := n5.cell 2
    simp at t0 t1 t2 u0 u1 u2
    go_wp2
    exact bodyPost_ret (v := .tuple #[enV p.b, enV p.a]) (by simp [results, Try.results66, go_sem, t0, t1, t2, u0, u1, u2, enV]) rfl ⟨by rw [HBE.out, HFI.out], nB⟩
end Go.Proofs.Ytjjjockfppomdaa

namespace Go.Proofs.Ytjjjockfppomdaa
open Go.RowKit Go.Shelf
set_option linter.unusedVariables false

/-- bounds of a valid cylinder -/
theorem cyl_bounds {c : Cyl} (h : checkCyl c = 0) : (1 ≤ c.pcs.length ∧ c.pcs.length ≤ 8) ∧ (0 ≤ c.off ∧ c.off ≤ 1000) ∧ (-100000 ≤ c.slo ∧ c.slo ≤ c.shi ∧ c.shi ≤ 100000) ∧ ∀ p ∈ c.pcs, okE p.a = true ∧ okE p.b = true := by
  unfold checkCyl at h
  split at h
  · simp at h
  · split at h
    · simp at h
    · split at h
      · simp at h
      · rename_i h1 h2 h3
        simp only [Bool.not_eq_false, Bool.and_eq_true] at h3
        obtain ⟨⟨h3, h4⟩, h5⟩ := h3
        simp only [okR, Bool.and_eq_true, decide_eq_true_eq] at h3 h4
        refine ⟨⟨by omega, by omega⟩, ⟨by omega, by omega⟩, ⟨by omega, by omega, by omega⟩, fun p hp => ?_⟩
        have := (List.all_eq_true.1 h5) p hp
        rw [okP_eq, Bool.and_eq_true] at this
        exact this
/-- bounds of an end -/
def BdE (e : En) : Prop := (0 ≤ e.lo ∧ e.lo ≤ e.hi ∧ e.hi ≤ 1000) ∧ 0 ≤ e.pl ∧ e.pl ≤ 100000
theorem bdE_of {e : En} (h : okE e = true) : BdE e := by
  simp only [okE, okR, Bool.and_eq_true, decide_eq_true_eq] at h
  exact ⟨⟨by omega, by omega, by omega⟩, by omega, by omega⟩
theorem bd_at {c : Cyl} (h : checkCyl c = 0) {k : Nat} (hk : k < c.pcs.length) (t : Bool) : BdE (beg c ⟨k, t⟩) ∧ BdE (fin c ⟨k, t⟩) := by
  have := (cyl_bounds h).2.2.2 c.pcs[k] (List.getElem_mem hk)
  have hp : pcAt c (k : Int) = c.pcs[k] := by unfold pcAt; rw [Int.toNat_natCast, List.getElem?_eq_getElem hk]; rfl
  unfold beg fin
  rw [hp]
  cases t
  · exact ⟨bdE_of this.1, bdE_of this.2⟩
  · exact ⟨bdE_of this.2, bdE_of this.1⟩

set_option maxRecDepth 100000 in
set_option maxHeartbeats 1600000 in
theorem fits_ok (v : Value) (c : Cyl) (k i : Nat) (st u : Bool) (w : World) (hv : CylV w w.heap.size v c) (h0 : checkCyl c = 0) (hk : k < c.pcs.length) (hi : i < c.pcs.length) :
    Calls Try.prog 45 #[v, .agg #[.int .i64 (k : Int), .bool st], .agg #[.int .i64 (i : Int), .bool u]] w fun r w' => r = .returned (.bool (fitsS c ⟨k, st⟩ ⟨i, u⟩)) ∧ Below w.heap.size w w' := by
  have hlen := (cyl_bounds h0).1.2
  obtain ⟨hx0, hx1, hx2⟩ := (bd_at h0 hk st).2
  obtain ⟨hy0, hy1, hy2⟩ := (bd_at h0 hi u).1
  have HQ : Hid (fitsS c ⟨k, st⟩ ⟨i, u⟩ = (decide ((k : Int) ≠ (i : Int)) && meets c (fin c ⟨k, st⟩) (beg c ⟨i, u⟩))) := rfl
  obtain ⟨pa, pc, rfl, hp⟩ := hv.open_
  have hC := CB.new hp
  have hB := (Below.refl w.heap.size w).alloc (Nat.le_refl _) (.cells #[.slice pa c.pcs.length pc, .int .i64 c.off, .int .i64 c.slo, .int .i64 c.shi] 26)
  go_enter Try.func45, Try.ntmps45
  go_upto_region 1 with (fail)
  have HWS : Hid ((w.alloc (.cells #[.slice pa c.pcs.length pc, .int .i64 c.off, .int .i64 c.slo, .int .i64 c.shi] 26)).heap.size = w.heap.size + 1) := by simp [Hid]
  generalize hW : w.alloc (.cells #[.slice pa c.pcs.length pc, .int .i64 c.off, .int .i64 c.slo, .int .i64 c.shi] 26) = W at *
  clear hW hp
  have hbA := (Below.refl W.heap.size W).alloc (Nat.le_refl _) (.cells #[.int .i64 (k : Int), .bool st] 28)
  have hS := Blk.new W 28 #[.int .i64 (k : Int), .bool st]
  have hz1 : (W.alloc (.cells #[.int .i64 (k : Int), .bool st] 28)).heap.size = W.heap.size + 1 := by simp
  rw [HWS.out] at hS hz1
  replace hC := hC.call hbA
  replace hB := hB.trans (hbA.mono hB.size)
  clear hbA
  generalize W.alloc (.cells #[.int .i64 (k : Int), .bool st] 28) = V at *
  have hbA := (Below.refl V.heap.size V).alloc (Nat.le_refl _) (.cells #[.int .i64 (i : Int), .bool u] 28)
  have hU := Blk.new V 28 #[.int .i64 (i : Int), .bool u]
  rw [hz1] at hU
  replace hC := hC.call hbA
  replace hS := hS.call hbA
  replace hB := hB.trans (hbA.mono hB.size)
  clear hbA hz1
  generalize V.alloc (.cells #[.int .i64 (i : Int), .bool u] 28) = V2 at *
  obtain ⟨k0, k1, k2, k3⟩ := hC.c4
  have s0 := hS.cell 0
  have s1 := hS.cell 1
  have u0 := hU.cell 0
  have u1 := hU.cell 1
  simp at s0 s1 u0 u1
  have HX := Lib.hid (rfl : fin c ⟨k, st⟩ = fin c ⟨k, st⟩)
  generalize hfx : fin c ⟨k, st⟩ = x at *
  generalize hfy : beg c ⟨i, u⟩ = y at *
  go_wp2_with fail
  refine (ends_ok _ c k st V2 hC.cyl hk hlen).mono ?_
  rintro e w1 ⟨rfl, hb1⟩
  replace hC := hC.call hb1
  replace hS := hS.call hb1
  replace hU := hU.call hb1
  replace hB := hB.trans (hb1.mono hB.size)
  clear hb1 k0 k1 k2 k3 s0 s1 u0 u1
  go_upto_region 2 with (fail)
  generalize beg c ⟨k, st⟩ = x0 at *
  have hbA := (Below.refl w1.heap.size w1).alloc (Nat.le_refl _) (.cells #[.int .i64 x0.lo, .int .i64 x0.hi, .int .i64 x0.pl] 59)
  have hz1 : (w1.alloc (.cells #[.int .i64 x0.lo, .int .i64 x0.hi, .int .i64 x0.pl] 59)).heap.size = w1.heap.size + 1 := by simp
  replace hC := hC.call hbA
  replace hS := hS.call hbA
  replace hU := hU.call hbA
  replace hB := hB.trans (hbA.mono hB.size)
  clear hbA
  generalize w1.alloc (.cells #[.int .i64 x0.lo, .int .i64 x0.hi, .int .i64 x0.pl] 59) = w2 at *
  have hbA := (Below.refl w2.heap.size w2).alloc (Nat.le_refl _) (.cells #[.int .i64 x.lo, .int .i64 x.hi, .int .i64 x.pl] 59)
  have hXb := Blk.new w2 59 #[.int .i64 x.lo, .int .i64 x.hi, .int .i64 x.pl]
  rw [hz1] at hXb
  replace hC := hC.call hbA
  replace hS := hS.call hbA
  replace hU := hU.call hbA
  replace hB := hB.trans (hbA.mono hB.size)
  clear hbA hz1
  generalize w2.alloc (.cells #[.int .i64 x.lo, .int .i64 x.hi, .int .i64 x.pl] 59) = w3 at *
  generalize w1.heap.size = g1 at *
  obtain ⟨k0, k1, k2, k3⟩ := hC.c4
  have s0 := hS.cell 0
  have s1 := hS.cell 1
  have u0 := hU.cell 0
  have u1 := hU.cell 1
  simp at s0 s1 u0 u1
  go_wp2_with fail
  refine (ends_ok _ c i u w3 hC.cyl hi hlen).mono ?_
  rintro e w4 ⟨rfl, hb4⟩
  replace hC := hC.call hb4
  replace hS := hS.call hb4
  replace hU := hU.call hb4
  replace hXb := hXb.call hb4
  replace hB := hB.trans (hb4.mono hB.size)
  clear hb4 k0 k1 k2 k3 s0 s1 u0 u1
  go_upto_region 3 with (fail)
  generalize fin c ⟨i, u⟩ = y0 at *
  have hbA := (Below.refl w4.heap.size w4).alloc (Nat.le_refl _) (.cells #[.int .i64 y.lo, .int .i64 y.hi, .int .i64 y.pl] 59)
  have hYb := Blk.new w4 59 #[.int .i64 y.lo, .int .i64 y.hi, .int .i64 y.pl]
  replace hC := hC.call hbA
  replace hS := hS.call hbA
  replace hU := hU.call hbA
  replace hXb := hXb.call hbA
  replace hB := hB.trans (hbA.mono hB.size)
  clear hbA
  generalize w4.alloc (.cells #[.int .i64 y.lo, .int .i64 y.hi, .int .i64 y.pl] 59) = w5 at *
  generalize w4.heap.size = g4 at *
  have hbA := (Below.refl w5.heap.size w5).alloc (Nat.le_refl _) (.cells #[.int .i64 y0.lo, .int .i64 y0.hi, .int .i64 y0.pl] 59)
  replace hC := hC.call hbA
  replace hS := hS.call hbA
  replace hU := hU.call hbA
  replace hXb := hXb.call hbA
  replace hYb := hYb.call hbA
  replace hB := hB.trans (hbA.mono hB.size)
  clear hbA
  generalize w5.alloc (.cells #[.int .i64 y0.lo, .int .i64 y0.hi, .int .i64 y0.pl] 59) = w6 at *
  obtain ⟨k0, k1, k2, k3⟩ := hC.c4
  have s0 := hS.cell 0
  have u0 := hU.cell 0
  have x0 := hXb.cell 0
  have x1 := hXb.cell 1
  have x2 := hXb.cell 2
  have y0 := hYb.cell 0
  have y1 := hYb.cell 1
  have y2 := hYb.cell 2
  simp at s0 u0 x0 x1 x2 y0 y1 y2
  have e1 : IntKind.i64.wrap (y.pl - x.pl) = y.pl - x.pl := by rw [IntKind.wrap_i64]; omega
  have e2 : IntKind.i64.wrap (x.lo - y.hi) = x.lo - y.hi := by rw [IntKind.wrap_i64]; omega
  have e3 : IntKind.i64.wrap (y.lo - x.hi) = y.lo - x.hi := by rw [IntKind.wrap_i64]; omega
  clear hC hS hU hXb hYb hx0 hx1 hx2 hy0 hy1 hy2
  by_cases g0 : (k : Int) = (i : Int)
  · have d0 : ((k : Int) != (i : Int)) = false := by simpa using g0
    have HE : Hid (fitsS c ⟨k, st⟩ ⟨i, u⟩ = false) := by rw [Hid, HQ.out]; simp [g0]
    go_wp2
    go_ret
    exact ⟨by rw [HE.out]; rfl, hB⟩
  · have d0 : ((k : Int) != (i : Int)) = true := by simpa using g0
    replace HQ : Hid (fitsS c ⟨k, st⟩ ⟨i, u⟩ = meets c x y) := by rw [Hid, HQ.out]; simp [g0]
    by_cases g1 : x.lo - y.hi ≤ c.off
    · have d1 : decide (x.lo - y.hi ≤ c.off) = true := by simpa using g1
      by_cases g2 : y.lo - x.hi ≤ c.off
      · have d2 : decide (y.lo - x.hi ≤ c.off) = true := by simpa using g2
        by_cases g3 : c.slo ≤ y.pl - x.pl
        · have d3 : decide (c.slo ≤ y.pl - x.pl) = true := by simpa using g3
          have HE : Hid (fitsS c ⟨k, st⟩ ⟨i, u⟩ = decide (y.pl - x.pl ≤ c.shi)) := by rw [Hid, HQ.out, meets, d1, d2, d3]; rfl
          clear g0 g1 g2 g3
          go_wp2
          go_ret
          exact ⟨by rw [HE.out]; rfl, hB⟩
        · have d3 : decide (c.slo ≤ y.pl - x.pl) = false := by simpa using g3
          have HE : Hid (fitsS c ⟨k, st⟩ ⟨i, u⟩ = false) := by rw [Hid, HQ.out, meets, d1, d2, d3]; rfl
          clear g0 g1 g2 g3
          go_wp2
          go_ret
          exact ⟨by rw [HE.out]; rfl, hB⟩
      · have d2 : decide (y.lo - x.hi ≤ c.off) = false := by simpa using g2
        have HE : Hid (fitsS c ⟨k, st⟩ ⟨i, u⟩ = false) := by rw [Hid, HQ.out, meets, d1, d2]; rfl
        clear g0 g1 g2
        go_wp2
        go_ret
        exact ⟨by rw [HE.out]; rfl, hB⟩
    · have d1 : decide (x.lo - y.hi ≤ c.off) = false := by simpa using g1
      have HE : Hid (fitsS c ⟨k, st⟩ ⟨i, u⟩ = false) := by rw [Hid, HQ.out, meets, d1]; rfl
      clear g0 g1
      go_wp2
      go_ret
      exact ⟨by rw [HE.out]; rfl, hB⟩
end Go.Proofs.Ytjjjockfppomdaa

namespace Go.Proofs.Ytjjjockfppomdaa
open Go.RowKit Go.Shelf
set_option linter.unusedVariables false

abbrev stV (x : St) : Value := .agg #[.int .i64 x.p, .bool x.t]
theorem isStep_num {c : Cyl} {x : St} (h : isStep c x = true) : ∃ k : Nat, x.p = (k : Int) ∧ k < c.pcs.length := by
  simp only [isStep, Bool.and_eq_true, decide_eq_true_eq] at h
  exact ⟨x.p.toNat, by omega, by omega⟩

set_option maxRecDepth 100000 in
set_option maxHeartbeats 1600000 in
theorem rfits_ok (v : Value) (c : Cyl) (x y : St) (w : World) (hv : CylV w w.heap.size v c) :
    Calls Try.prog 15 #[v, stV x, stV y] w fun r w' => r = .returned (.tuple #[.bool (fitsOf c x y).1, .int .i64 (fitsOf c x y).2]) ∧ Below w.heap.size w w' := by
  obtain ⟨xp, xt⟩ := x
  obtain ⟨yp, yt⟩ := y
  obtain ⟨pa, pc, rfl, hp⟩ := hv.open_
  have hC := CB.new hp
  have hB := (Below.refl w.heap.size w).alloc (Nat.le_refl _) (.cells #[.slice pa c.pcs.length pc, .int .i64 c.off, .int .i64 c.slo, .int .i64 c.shi] 26)
  go_enter Try.func15, Try.ntmps15
  go_upto_region 1 with (fail)
  have HWS : Hid ((w.alloc (.cells #[.slice pa c.pcs.length pc, .int .i64 c.off, .int .i64 c.slo, .int .i64 c.shi] 26)).heap.size = w.heap.size + 1) := by simp [Hid]
  generalize hW : w.alloc (.cells #[.slice pa c.pcs.length pc, .int .i64 c.off, .int .i64 c.slo, .int .i64 c.shi] 26) = W at *
  clear hW hp
  have hbA := (Below.refl W.heap.size W).alloc (Nat.le_refl _) (.cells #[.int .i64 xp, .bool xt] 28)
  have hS := Blk.new W 28 #[.int .i64 xp, .bool xt]
  have hz1 : (W.alloc (.cells #[.int .i64 xp, .bool xt] 28)).heap.size = W.heap.size + 1 := by simp
  rw [HWS.out] at hS hz1
  replace hC := hC.call hbA
  replace hB := hB.trans (hbA.mono hB.size)
  clear hbA
  generalize W.alloc (.cells #[.int .i64 xp, .bool xt] 28) = V at *
  have hbA := (Below.refl V.heap.size V).alloc (Nat.le_refl _) (.cells #[.int .i64 yp, .bool yt] 28)
  have hU := Blk.new V 28 #[.int .i64 yp, .bool yt]
  rw [hz1] at hU
  replace hC := hC.call hbA
  replace hS := hS.call hbA
  replace hB := hB.trans (hbA.mono hB.size)
  clear hbA hz1
  generalize V.alloc (.cells #[.int .i64 yp, .bool yt] 28) = V2 at *
  obtain ⟨k0, k1, k2, k3⟩ := hC.c4
  go_wp2_with fail
  refine (rcheckCyl_ok _ c V2 hC.cyl).mono ?_
  rintro e w1 ⟨rfl, hb1⟩
  replace hC := hC.call hb1
  replace hS := hS.call hb1
  replace hU := hU.call hb1
  replace hB := hB.trans (hb1.mono hB.size)
  clear hb1 k0 k1 k2 k3
  obtain ⟨k0, k1, k2, k3⟩ := hC.c4
  have s0 := hS.cell 0
  have s1 := hS.cell 1
  have u0 := hU.cell 0
  have u1 := hU.cell 1
  simp at s0 s1 u0 u1
  by_cases h0 : checkCyl c = 0
  · have d0 : (checkCyl c != 0) = false := by simp [h0]
    cases hx : isStep c ⟨xp, xt⟩
    · have HE : Hid (fitsOf c ⟨xp, xt⟩ ⟨yp, yt⟩ = (false, 2)) := by rw [Hid, fitsOf, if_neg (by simp [h0]), hx]; rfl
      go_wp2_with fail
      refine (isStep_ok _ c xp xt w1 hC.cyl).mono ?_
      rintro e w2 ⟨rfl, hb2⟩
      rw [hx]
      replace hB := hB.trans (hb2.mono hB.size)
      go_wp2
      exact bodyPost_ret (v := .tuple #[.bool false, .int .i64 2]) (by simp [results, Try.results15, go_sem]) rfl ⟨by rw [HE.out], hB⟩
    · go_wp2_with fail
      refine (isStep_ok _ c xp xt w1 hC.cyl).mono ?_
      rintro e w2 ⟨rfl, hb2⟩
      rw [hx]
      replace hC := hC.call hb2
      replace hS := hS.call hb2
      replace hU := hU.call hb2
      replace hB := hB.trans (hb2.mono hB.size)
      clear hb2 k0 k1 k2 k3 s0 s1 u0 u1
      obtain ⟨k0, k1, k2, k3⟩ := hC.c4
      have s0 := hS.cell 0
      have s1 := hS.cell 1
      have u0 := hU.cell 0
      have u1 := hU.cell 1
      simp at s0 s1 u0 u1
      cases hy : isStep c ⟨yp, yt⟩
      · have HE : Hid (fitsOf c ⟨xp, xt⟩ ⟨yp, yt⟩ = (false, 2)) := by rw [Hid, fitsOf, if_neg (by simp [h0]), hx, hy]; rfl
        go_wp2_with fail
        refine (isStep_ok _ c yp yt w2 hC.cyl).mono ?_
        rintro e w3 ⟨rfl, hb3⟩
        rw [hy]
        replace hB := hB.trans (hb3.mono hB.size)
        go_wp2
        exact bodyPost_ret (v := .tuple #[.bool false, .int .i64 2]) (by simp [results, Try.results15, go_sem]) rfl ⟨by rw [HE.out], hB⟩
      · have HE : Hid (fitsOf c ⟨xp, xt⟩ ⟨yp, yt⟩ = (fitsS c ⟨xp, xt⟩ ⟨yp, yt⟩, 0)) := by rw [Hid, fitsOf, if_neg (by simp [h0]), hx, hy]; rfl
        obtain ⟨kx, rfl, hkx⟩ := isStep_num hx
        obtain ⟨ky, rfl, hky⟩ := isStep_num hy
        go_wp2_with fail
        refine (isStep_ok _ c ky yt w2 hC.cyl).mono ?_
        rintro e w3 ⟨rfl, hb3⟩
        rw [hy]
        replace hC := hC.call hb3
        replace hS := hS.call hb3
        replace hU := hU.call hb3
        replace hB := hB.trans (hb3.mono hB.size)
        clear hb3 k0 k1 k2 k3 s0 s1 u0 u1
        obtain ⟨k0, k1, k2, k3⟩ := hC.c4
        have s0 := hS.cell 0
        have s1 := hS.cell 1
        have u0 := hU.cell 0
        have u1 := hU.cell 1
        simp at s0 s1 u0 u1
        go_wp2_with fail
        refine (fits_ok _ c kx ky xt yt w3 hC.cyl h0 hkx hky).mono ?_
        rintro e w4 ⟨rfl, hb4⟩
        replace hB := hB.trans (hb4.mono hB.size)
        go_wp2
        exact bodyPost_ret (v := .tuple #[.bool (fitsS c ⟨kx, xt⟩ ⟨ky, yt⟩), .int .i64 0]) (by simp [results, Try.results15, go_sem]) rfl ⟨by rw [HE.out], hB⟩
  · have d0 : (checkCyl c != 0) = true := by simp [h0]
    have HE : Hid (fitsOf c ⟨xp, xt⟩ ⟨yp, yt⟩ = (false, checkCyl c)) := by rw [Hid, fitsOf, if_pos h0]
    go_wp2_with fail
    refine (rcheckCyl_ok _ c w1 hC.cyl).mono ?_
    rintro e w2 ⟨rfl, hb2⟩
    replace hB := hB.trans (hb2.mono hB.size)
    go_wp2
    exact bodyPost_ret (v := .tuple #[.bool false, .int .i64 (checkCyl c)]) (by simp [results, Try.results15, go_sem]) rfl ⟨by rw [HE.out], hB⟩
end Go.Proofs.Ytjjjockfppomdaa
