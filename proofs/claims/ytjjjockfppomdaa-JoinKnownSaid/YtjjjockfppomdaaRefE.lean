/- Contract of the reference: ends. -/
import Derived.Test.YtjjjockfppomdaaChkA
import Derived.Test.YtjjjockfppomdaaRefD
namespace Go.Proofs.Ytjjjockfppomdaa
open Go.RowKit Go.Shelf
set_option linter.unusedVariables false

abbrev enV (e : En) : Value := .agg #[.int .i64 e.lo, .int .i64 e.hi, .int .i64 e.pl]

set_option maxRecDepth 100000 in
set_option maxHeartbeats 1600000 in
theorem ends_ok (v : Value) (c : Cyl) (k : Nat) (st : Bool) (w : World) (hv : CylV w w.heap.size v c) (hk : k < c.pcs.length) (hlen : c.pcs.length ≤ 8) :
    Calls Try.prog 66 #[v, .agg #[.int .i64 (k : Int), .bool st]] w fun r w' => r = .returned (.tuple #[enV (beg c ⟨k, st⟩), enV (fin c ⟨k, st⟩)]) ∧ Below w.heap.size w w' := by
  obtain ⟨pa, pc, rfl, hp⟩ := hv.open_
  have hC := CB.new hp
  have hB := (Below.refl w.heap.size w).alloc (Nat.le_refl _) (.cells #[.slice pa c.pcs.length pc, .int .i64 c.off, .int .i64 c.slo, .int .i64 c.shi] 26)
  go_enter Try.func66, Try.ntmps66
  go_upto_region 1 with (fail)
  have HWS : Hid ((w.alloc (.cells #[.slice pa c.pcs.length pc, .int .i64 c.off, .int .i64 c.slo, .int .i64 c.shi] 26)).heap.size = w.heap.size + 1) := by simp [Hid]
  generalize hW : w.alloc (.cells #[.slice pa c.pcs.length pc, .int .i64 c.off, .int .i64 c.slo, .int .i64 c.shi] 26) = W at *
  clear hW hp
  have hbA := (Below.refl W.heap.size W).alloc (Nat.le_refl _) (.cells #[.int .i64 (k : Int), .bool st] 28)
  have hS := Blk.new W 28 #[.int .i64 (k : Int), .bool st]
  have hz1 : (W.alloc (.cells #[.int .i64 (k : Int), .bool st] 28)).heap.size = W.heap.size + 1 := by simp
  rw [HWS.out] at hS hz1
  replace hC := hC.call hbA
  replace hB := hB.trans (hbA.mono hB.size)
  clear hbA
  generalize W.alloc (.cells #[.int .i64 (k : Int), .bool st] 28) = V at *
  have hbA := (Below.refl V.heap.size V).alloc (Nat.le_refl _) (.cells #[.int .i64 0, .int .i64 0, .int .i64 0] 59)
  have h4 := Blk.new V 59 #[.int .i64 0, .int .i64 0, .int .i64 0]
  have hz2 : (V.alloc (.cells #[.int .i64 0, .int .i64 0, .int .i64 0] 59)).heap.size = V.heap.size + 1 := by simp
  rw [hz1] at h4 hz2
  replace hC := hC.call hbA
  replace hS := hS.call hbA
  replace hB := hB.trans (hbA.mono hB.size)
  clear hbA
  generalize V.alloc (.cells #[.int .i64 0, .int .i64 0, .int .i64 0] 59) = V2 at *
  have hbA := (Below.refl V2.heap.size V2).alloc (Nat.le_refl _) (.cells #[.int .i64 0, .int .i64 0, .int .i64 0] 59)
  have h5 := Blk.new V2 59 #[.int .i64 0, .int .i64 0, .int .i64 0]
  have hz3 : (V2.alloc (.cells #[.int .i64 0, .int .i64 0, .int .i64 0] 59)).heap.size = V2.heap.size + 1 := by simp
  rw [hz2] at h5 hz3
  replace hC := hC.call hbA
  replace hS := hS.call hbA
  replace h4 := h4.call hbA
  replace hB := hB.trans (hbA.mono hB.size)
  clear hbA
  generalize V2.alloc (.cells #[.int .i64 0, .int .i64 0, .int .i64 0] 59) = V3 at *
  clear hz1 hz2
  obtain ⟨k0, k1, k2, k3⟩ := hC.c4
  have s0 := hS.cell 0
  have s1 := hS.cell 1
  simp at s0 s1
  obtain ⟨b, off, p, hpa, hpb, hp1, c0, c1, c2, c3, c4, c5, c6⟩ := piece_at hC.ps hk
  subst hpa
  have HBE : Hid (beg c ⟨k, st⟩ = if st = true then p.b else p.a) := by unfold beg pcAt; rw [Hid, Int.toNat_natCast, hp1]; rfl
  have HFI : Hid (fin c ⟨k, st⟩ = if st = true then p.a else p.b) := by unfold fin pcAt; rw [Hid, Int.toNat_natCast, hp1]; rfl
  have d1 : (k : Int) < (c.pcs.length : Int) := by omega
  clear hp1
  go_upto_region 2 with (fail)
  have hbA := (Below.refl V3.heap.size V3).alloc (Nat.le_refl _) (.cells #[.int .i64 p.a.lo, .int .i64 p.a.hi, .int .i64 p.a.pl, .int .i64 p.b.lo, .int .i64 p.b.hi, .int .i64 p.b.pl] 60)
  have h6 := Blk.new V3 60 #[.int .i64 p.a.lo, .int .i64 p.a.hi, .int .i64 p.a.pl, .int .i64 p.b.lo, .int .i64 p.b.hi, .int .i64 p.b.pl]
  rw [hz3] at h6
  replace hS := hS.call hbA
  replace h4 := h4.call hbA
  replace h5 := h5.call hbA
  replace hB := hB.trans (hbA.mono hB.size)
  clear hbA k0 k1 k2 k3 s0 s1 c0 c1 c2 c3 c4 c5 c6 hC hz3
  generalize V3.alloc (.cells #[.int .i64 p.a.lo, .int .i64 p.a.hi, .int .i64 p.a.pl, .int .i64 p.b.lo, .int .i64 p.b.hi, .int .i64 p.b.pl] 60) = V4 at *
  have k0 := hS.cell 0
  have k1 := hS.cell 1
  have f0 := h6.cell 0
  have f1 := h6.cell 1
  have f2 := h6.cell 2
  have f3 := h6.cell 3
  have f4 := h6.cell 4
  have f5 := h6.cell 5
  simp at k0 k1 f0 f1 f2 f3 f4 f5
  have k2 := True.intro
  have k3 := True.intro
  have s0 := True.intro
  have s1 := True.intro
  cases st
  · rw [if_neg (by simp)] at HBE HFI
    go_upto_region 4 with (fail)
    generalize hgg : w.heap.size + 1 + 1 + 1 + 1 = g6 at h6 f0 f1 f2 f3 f4 f5
    obtain ⟨F, hF⟩ : ∃ F : World → Prop, (∀ w', F w' ↔ Blk w' g6 60 #[.int .i64 p.a.lo, .int .i64 p.a.hi, .int .i64 p.a.pl, .int .i64 p.b.lo, .int .i64 p.b.hi, .int .i64 p.b.pl]) := ⟨_, fun _ => Iff.rfl⟩
    have hFd : F V4.drew := (hF _).2 h6.drew
    haveI : Nonempty (SubW F) := ⟨⟨_, hFd⟩⟩
    have f0 : ∀ y : SubW F, y.w.cell? ⟨g6, 0, none⟩ = some (.int .i64 p.a.lo) := fun y => by have := ((hF y.w).1 y.h).cell 0; simpa using this
    have f1 : ∀ y : SubW F, y.w.cell? ⟨g6, 1, none⟩ = some (.int .i64 p.a.hi) := fun y => by have := ((hF y.w).1 y.h).cell 1; simpa using this
    have f2 : ∀ y : SubW F, y.w.cell? ⟨g6, 2, none⟩ = some (.int .i64 p.a.pl) := fun y => by have := ((hF y.w).1 y.h).cell 2; simpa using this
    have f3 : ∀ y : SubW F, y.w.cell? ⟨g6, 3, none⟩ = some (.int .i64 p.b.lo) := fun y => by have := ((hF y.w).1 y.h).cell 3; simpa using this
    have f4 : ∀ y : SubW F, y.w.cell? ⟨g6, 4, none⟩ = some (.int .i64 p.b.hi) := fun y => by have := ((hF y.w).1 y.h).cell 4; simpa using this
    have f5 : ∀ y : SubW F, y.w.cell? ⟨g6, 5, none⟩ = some (.int .i64 p.b.pl) := fun y => by have := ((hF y.w).1 y.h).cell 5; simpa using this
    have hFx : F ((((V4.drew).setCell ⟨w.heap.size + 1 + 1, 0, none⟩ (.int .i64 p.a.lo)).setCell ⟨w.heap.size + 1 + 1, 1, none⟩ (.int .i64 p.a.hi)).setCell ⟨w.heap.size + 1 + 1, 2, none⟩ (.int .i64 p.a.pl)) := (hF _).2 (h6.drew.far3 (by omega) _ _ _)
    replace h4 := h4.drew
    replace h5 := h5.drew
    replace hB := hB.drew
    clear s0 s1 k0 k1 k2 k3 hF h6 hgg
    refine wp_region_sched (C := fun w' => ∃ y : SubW F, w' = y.w) [(0, true), (1, true), (2, true), (3, true), (4, false), (5, false)] (by kernel_rfl) (by kernel_rfl) ⟨⟨_, hFd⟩, rfl⟩ ?_
    generalize V4.drew = V5 at *
    have t0 := h4.cell 0
    have t1 := h4.cell 1
    have t2 := h4.cell 2
    have u0 := h5.cell 0
    have u1 := h5.cell 1
    have u2 := h5.cell 2
    simp at t0 t1 t2 u0 u1 u2
    have z4 := fun i => h4.frozen i
    have z5 := fun i => h5.frozen i
    have hne : w.heap.size + 1 + 1 ≠ w.heap.size + 1 + 1 + 1 := by omega
    refine sched_q (by rfl) (by rfl) ?_
    intro K hK
    go_big_quiet_op
    go_big_quiet_on
    refine sched_q (by rfl) (by rfl) ?_
    intro K hK
    go_big_quiet_op
    go_big_quiet_on
    refine sched_q (by rfl) (by rfl) ?_
    intro K hK
    go_big_quiet_op
    go_big_quiet_on
    refine sched_q (by rfl) (by rfl) ?_
    intro K hK
    go_big_quiet_op
    go_big_quiet_on
    refine sched_c (by rfl) (by rfl) ?_
    intro K' hK'
    go_wp2
    refine hK' _ _ ⟨.inr ⟨⟨_, hFx⟩, rfl⟩, ?_⟩
    clear hK' K' f0 f1 f2 f3 f4 f5
    have m4 := h4.put3 (.int .i64 p.a.lo) (.int .i64 p.a.hi) (.int .i64 p.a.pl)
    have m5 := h5.far3 (g := w.heap.size + 1 + 1) (by omega) (.int .i64 p.a.lo) (.int .i64 p.a.hi) (.int .i64 p.a.pl)
    have mB := below_put3 (g := w.heap.size + 1 + 1) hB (by omega) (.int .i64 p.a.lo) (.int .i64 p.a.hi) (.int .i64 p.a.pl)
    clear t0 t1 t2 u0 u1 u2 z4 z5 h4 h5 hB hFx hFd
    generalize (((V5.setCell ⟨w.heap.size + 1 + 1, 0, none⟩ (.int .i64 p.a.lo)).setCell ⟨w.heap.size + 1 + 1, 1, none⟩ (.int .i64 p.a.hi)).setCell ⟨w.heap.size + 1 + 1, 2, none⟩ (.int .i64 p.a.pl)) = V6 at *
    have u0 := m5.cell 0
    have u1 := m5.cell 1
    have u2 := m5.cell 2
    simp at u0 u1 u2
    have z5 := fun i => m5.frozen i
    refine sched_c (by rfl) (by rfl) ?_
    intro K' hK'
    go_wp2
    refine hK' _ _ ⟨(by first | exact .inl rfl | exact .inl trivial), ?_⟩
    clear hK' K'
    refine sched_nil ?_
    have n5 := m5.put3 (.int .i64 p.b.lo) (.int .i64 p.b.hi) (.int .i64 p.b.pl)
    have n4 := m4.far3 (g := w.heap.size + 1 + 1 + 1) (by omega) (.int .i64 p.b.lo) (.int .i64 p.b.hi) (.int .i64 p.b.pl)
    have nB := below_put3 (g := w.heap.size + 1 + 1 + 1) mB (by omega) (.int .i64 p.b.lo) (.int .i64 p.b.hi) (.int .i64 p.b.pl)
    clear u0 u1 u2 z5 m4 m5 mB this
    generalize (((V6.setCell ⟨w.heap.size + 1 + 1 + 1, 0, none⟩ (.int .i64 p.b.lo)).setCell ⟨w.heap.size + 1 + 1 + 1, 1, none⟩ (.int .i64 p.b.hi)).setCell ⟨w.heap.size + 1 + 1 + 1, 2, none⟩ (.int .i64 p.b.pl)) = V7 at *
    have t0 := n4.cell 0
    have t1 := n4.cell 1
    have t2 := n4.cell 2
    have u0 := n5.cell 0
    have u1 := n5.cell 1
    have u2 := n5.cell 2
    simp at t0 t1 t2 u0 u1 u2
    go_wp2
    exact bodyPost_ret (v := .tuple #[enV p.a, enV p.b]) (by simp [results, Try.results66, go_sem, t0, t1, t2, u0, u1, u2, enV]) rfl ⟨by rw [HBE.out, HFI.out], nB⟩
  · rw [if_pos rfl] at HBE HFI
    go_upto_region 3 with (fail)
    generalize hgg : w.heap.size + 1 + 1 + 1 + 1 = g6 at h6 f0 f1 f2 f3 f4 f5
    obtain ⟨F, hF⟩ : ∃ F : World → Prop, (∀ w', F w' ↔ Blk w' g6 60 #[.int .i64 p.a.lo, .int .i64 p.a.hi, .int .i64 p.a.pl, .int .i64 p.b.lo, .int .i64 p.b.hi, .int .i64 p.b.pl]) := ⟨_, fun _ => Iff.rfl⟩
    have hFd : F V4.drew := (hF _).2 h6.drew
    haveI : Nonempty (SubW F) := ⟨⟨_, hFd⟩⟩
    have f0 : ∀ y : SubW F, y.w.cell? ⟨g6, 0, none⟩ = some (.int .i64 p.a.lo) := fun y => by have := ((hF y.w).1 y.h).cell 0; simpa using this
    have f1 : ∀ y : SubW F, y.w.cell? ⟨g6, 1, none⟩ = some (.int .i64 p.a.hi) := fun y => by have := ((hF y.w).1 y.h).cell 1; simpa using this
    have f2 : ∀ y : SubW F, y.w.cell? ⟨g6, 2, none⟩ = some (.int .i64 p.a.pl) := fun y => by have := ((hF y.w).1 y.h).cell 2; simpa using this
    have f3 : ∀ y : SubW F, y.w.cell? ⟨g6, 3, none⟩ = some (.int .i64 p.b.lo) := fun y => by have := ((hF y.w).1 y.h).cell 3; simpa using this
    have f4 : ∀ y : SubW F, y.w.cell? ⟨g6, 4, none⟩ = some (.int .i64 p.b.hi) := fun y => by have := ((hF y.w).1 y.h).cell 4; simpa using this
    have f5 : ∀ y : SubW F, y.w.cell? ⟨g6, 5, none⟩ = some (.int .i64 p.b.pl) := fun y => by have := ((hF y.w).1 y.h).cell 5; simpa using this
    have hFx : F ((((V4.drew).setCell ⟨w.heap.size + 1 + 1, 0, none⟩ (.int .i64 p.b.lo)).setCell ⟨w.heap.size + 1 + 1, 1, none⟩ (.int .i64 p.b.hi)).setCell ⟨w.heap.size + 1 + 1, 2, none⟩ (.int .i64 p.b.pl)) := (hF _).2 (h6.drew.far3 (by omega) _ _ _)
    replace h4 := h4.drew
    replace h5 := h5.drew
    replace hB := hB.drew
    clear s0 s1 k0 k1 k2 k3 hF h6 hgg
    refine wp_region_sched (C := fun w' => ∃ y : SubW F, w' = y.w) [(0, true), (1, true), (2, true), (3, true), (4, false), (5, false)] (by kernel_rfl) (by kernel_rfl) ⟨⟨_, hFd⟩, rfl⟩ ?_
    generalize V4.drew = V5 at *
    have t0 := h4.cell 0
    have t1 := h4.cell 1
    have t2 := h4.cell 2
    have u0 := h5.cell 0
    have u1 := h5.cell 1
    have u2 := h5.cell 2
    simp at t0 t1 t2 u0 u1 u2
    have z4 := fun i => h4.frozen i
    have z5 := fun i => h5.frozen i
    have hne : w.heap.size + 1 + 1 ≠ w.heap.size + 1 + 1 + 1 := by omega
    refine sched_q (by rfl) (by rfl) ?_
    intro K hK
    go_big_quiet_op
    go_big_quiet_on
    refine sched_q (by rfl) (by rfl) ?_
    intro K hK
    go_big_quiet_op
    go_big_quiet_on
    refine sched_q (by rfl) (by rfl) ?_
    intro K hK
    go_big_quiet_op
    go_big_quiet_on
    refine sched_q (by rfl) (by rfl) ?_
    intro K hK
    go_big_quiet_op
    go_big_quiet_on
    refine sched_c (by rfl) (by rfl) ?_
    intro K' hK'
    go_wp2
    refine hK' _ _ ⟨.inr ⟨⟨_, hFx⟩, rfl⟩, ?_⟩
    clear hK' K' f0 f1 f2 f3 f4 f5
    have m4 := h4.put3 (.int .i64 p.b.lo) (.int .i64 p.b.hi) (.int .i64 p.b.pl)
    have m5 := h5.far3 (g := w.heap.size + 1 + 1) (by omega) (.int .i64 p.b.lo) (.int .i64 p.b.hi) (.int .i64 p.b.pl)
    have mB := below_put3 (g := w.heap.size + 1 + 1) hB (by omega) (.int .i64 p.b.lo) (.int .i64 p.b.hi) (.int .i64 p.b.pl)
    clear t0 t1 t2 u0 u1 u2 z4 z5 h4 h5 hB hFx hFd
    generalize (((V5.setCell ⟨w.heap.size + 1 + 1, 0, none⟩ (.int .i64 p.b.lo)).setCell ⟨w.heap.size + 1 + 1, 1, none⟩ (.int .i64 p.b.hi)).setCell ⟨w.heap.size + 1 + 1, 2, none⟩ (.int .i64 p.b.pl)) = V6 at *
    have u0 := m5.cell 0
    have u1 := m5.cell 1
    have u2 := m5.cell 2
    simp at u0 u1 u2
    have z5 := fun i => m5.frozen i
    refine sched_c (by rfl) (by rfl) ?_
    intro K' hK'
    go_wp2
    refine hK' _ _ ⟨(by first | exact .inl rfl | exact .inl trivial), ?_⟩
    clear hK' K'
    refine sched_nil ?_
    have n5 := m5.put3 (.int .i64 p.a.lo) (.int .i64 p.a.hi) (.int .i64 p.a.pl)
    have n4 := m4.far3 (g := w.heap.size + 1 + 1 + 1) (by omega) (.int .i64 p.a.lo) (.int .i64 p.a.hi) (.int .i64 p.a.pl)
    have nB := below_put3 (g := w.heap.size + 1 + 1 + 1) mB (by omega) (.int .i64 p.a.lo) (.int .i64 p.a.hi) (.int .i64 p.a.pl)
    clear u0 u1 u2 z5 m4 m5 mB this
    generalize (((V6.setCell ⟨w.heap.size + 1 + 1 + 1, 0, none⟩ (.int .i64 p.a.lo)).setCell ⟨w.heap.size + 1 + 1 + 1, 1, none⟩ (.int .i64 p.a.hi)).setCell ⟨w.heap.size + 1 + 1 + 1, 2, none⟩ (.int .i64 p.a.pl)) = V7 at *
    have t0 := n4.cell 0
    have t1 := n4.cell 1
    have t2 := n4.cell 2
    have u0 := n5.cell 0
    have u1 := n5.cell 1
    have u2 := n5.cell 2
    simp at t0 t1 t2 u0 u1 u2
    go_wp2
    exact bodyPost_ret (v := .tuple #[enV p.b, enV p.a]) (by simp [results, Try.results66, go_sem, t0, t1, t2, u0, u1, u2, enV]) rfl ⟨by rw [HBE.out, HFI.out], nB⟩
end Go.Proofs.Ytjjjockfppomdaa
