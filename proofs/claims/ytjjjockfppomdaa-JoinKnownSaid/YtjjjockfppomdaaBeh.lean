/- Contracts of the table: behind, and its first inner function. -/
import Derived.Test.YtjjjockfppomdaaArrEq
import Derived.Laws.EntriesVeiled
namespace Go.Proofs.Ytjjjockfppomdaa
open Go.RowKit Go.Shelf
set_option linter.unusedVariables false

abbrev behV (bt : Nat) : Value := .func (.func 71) #[] #[.pointer (some ⟨bt + 1, 0, none⟩), .pointer (some ⟨bt, 0, none⟩), .pointer (some ⟨bt + 2, 0, none⟩)]
/-- what behind lays: the table, the state, the test -/
structure BehB (W : World) (g bt u : Nat) (o : Int) : Prop where
  t : Blk W bt 72 #[.pointer (some ⟨g, 0, none⟩)]
  s : Blk W (bt + 1) 94 #[.int .i64 (u : Int), .int .i64 o]
  f : Blk W (bt + 2) 105 #[.func (.func 70) #[] #[.pointer (some ⟨bt + 1, 0, none⟩), .pointer (some ⟨bt, 0, none⟩)]]
theorem BehB.keep {W W' : World} {g bt u N ga gu : Nat} {o : Int} (h : BehB W g bt u o) (hk : KeepB N bt ga gu W W') (h1 : ga < bt) (h2 : gu < bt) : BehB W' g bt u o :=
  ⟨(hk.block _ (by omega) (by omega) (by omega)).trans h.t, (hk.block _ (by omega) (by omega) (by omega)).trans h.s, (hk.block _ (by omega) (by omega) (by omega)).trans h.f⟩
theorem BehB.grown {W W' : World} {g bt u : Nat} {o : Int} {row : Option Nat} (h : BehB W g bt u o) (hg : W.grownBy W' row) (hr : ∀ r, row = some r → bt + 3 ≤ r) : BehB W' g bt u o :=
  ⟨h.t.grown hg (fun e => by have := hr _ e.symm; omega), h.s.grown hg (fun e => by have := hr _ e.symm; omega), h.f.grown hg (fun e => by have := hr _ e.symm; omega)⟩
theorem BehB.call {W W' : World} {g bt u : Nat} {o : Int} (h : BehB W g bt u o) (hb : Below W.heap.size W W') : BehB W' g bt u o := ⟨h.t.call hb, h.s.call hb, h.f.call hb⟩
theorem BehB.chg {W W' : World} {g bt u ga gu : Nat} {o : Int} (h : BehB W g bt u o) (hb : Chg ga gu W W') (h1 : ga < bt) (h2 : gu < bt) : BehB W' g bt u o :=
  ⟨hb.blk h.t (by omega) (by omega), hb.blk h.s (by omega) (by omega), hb.blk h.f (by omega) (by omega)⟩
theorem BehB.lt {W : World} {g bt u : Nat} {o : Int} (h : BehB W g bt u o) : bt + 2 < W.heap.size := h.f.lt

set_option maxRecDepth 100000 in
set_option maxHeartbeats 1600000 in
theorem behind_ok (g u : Nat) (o : Int) (w : World) :
    Calls Try.prog 53 #[.pointer (some ⟨g, 0, none⟩), stateV u o] w fun r w' => r = .returned (behV w.heap.size) ∧ BehB w' g w.heap.size u o ∧ w'.heap.size = w.heap.size + 3 ∧ Below w.heap.size w w' := by
  have hx1 := Blk.new w 72 #[.pointer (some ⟨g, 0, none⟩)]
  have hb1 := (Below.refl w.heap.size w).alloc (Nat.le_refl _) (.cells #[.pointer (some ⟨g, 0, none⟩)] 72)
  have hz1 : (w.alloc (.cells #[.pointer (some ⟨g, 0, none⟩)] 72)).heap.size = w.heap.size + 1 := by simp
  go_enter Try.func53, Try.ntmps53
  go_upto_region 1 with (fail)
  generalize w.alloc (.cells #[.pointer (some ⟨g, 0, none⟩)] 72) = w1 at *
  have hx2 := Blk.new w1 94 #[.int .i64 (u : Int), .int .i64 o]
  have hbA := (Below.refl w1.heap.size w1).alloc (Nat.le_refl _) (.cells #[.int .i64 (u : Int), .int .i64 o] 94)
  have hz2 : (w1.alloc (.cells #[.int .i64 (u : Int), .int .i64 o] 94)).heap.size = w.heap.size + 2 := by simp [hz1]
  rw [hz1] at hx2
  replace hx1 := hx1.call hbA
  have hb2 := hb1.trans (hbA.mono hb1.size)
  clear hbA hb1 hz1
  generalize w1.alloc (.cells #[.int .i64 (u : Int), .int .i64 o] 94) = w2 at *
  have hx3 := Blk.new w2 105 #[.func (.func 70) #[] #[.pointer (some ⟨w.heap.size + 1, 0, none⟩), .pointer (some ⟨w.heap.size, 0, none⟩)]]
  have hbA := (Below.refl w2.heap.size w2).alloc (Nat.le_refl _) (.cells #[.func (.func 70) #[] #[.pointer (some ⟨w.heap.size + 1, 0, none⟩), .pointer (some ⟨w.heap.size, 0, none⟩)]] 105)
  have hz3 : (w2.alloc (.cells #[.func (.func 70) #[] #[.pointer (some ⟨w.heap.size + 1, 0, none⟩), .pointer (some ⟨w.heap.size, 0, none⟩)]] 105)).heap.size = w.heap.size + 3 := by simp [hz2]
  rw [hz2] at hx3
  replace hx1 := hx1.call hbA
  replace hx2 := hx2.call hbA
  have hb3 := hb2.trans (hbA.mono hb2.size)
  go_wp2
  go_ret
  exact ⟨rfl, ⟨hx1, hx2, hx3⟩, hz3, hb3⟩

set_option maxRecDepth 100000 in
set_option maxHeartbeats 1600000 in
theorem free_ok (x : TX) (c : Cyl) (u k bt : Nat) (o : Int) (w : World) (hT : TF w x c) (hB : BehB w x.g bt u o) (hk : k < (stepsOf c).length) (hu : u < 2 ^ c.pcs.length) :
    Calls Try.prog 70 #[.int .i64 (k : Int), .pointer (some ⟨bt + 1, 0, none⟩), .pointer (some ⟨bt, 0, none⟩)] w fun r w' => r = .returned (.bool (!u.testBit (pieceN c k))) ∧ Below w.heap.size w w' := by
  have hp8 := pieceN_lt hk
  have h8 := hT.bounds.2
  have h16 := hT.small
  have hu2 : u < 256 := Nat.lt_of_lt_of_le hu (pow8 h8)
  obtain ⟨st, hs1, hs2, s0, s1⟩ := hT.step hk
  obtain ⟨q0, q1, q2, q3, q4⟩ := hT.tc.c5
  have t0 := hB.t.cell 0
  have a0 := hB.s.cell 0
  simp at t0 a0
  have k1 : (k : Int) < ((stepsOf c).length : Int) := by omega
  have e1 : IntKind.i64.wrap (k : Int) = k := wrap_id _ (by omega) (by omega)
  have f0 := Ext.of s0
  have f1 := Ext.of q4
  have f2 := Ext.of t0
  have f3 := Ext.of a0
  go_enter Try.func70, Try.ntmps70
  go_upto_region 1 with (fail)
  clear hT hB hs1 hs2 s0 s1 q0 q1 q2 q3 q4 t0 a0
  have hbt := bit_one u (pieceN c k) hu2
  cases htb : u.testBit (pieceN c k)
  · rw [htb] at hbt
    simp only [Bool.false_eq_true, if_false] at hbt
    have HTB := Lib.hid htb
    clear htb
    refine wp_region_ext (by kernel_rfl) (by kernel_rfl) ?_
    repeat (go_big_quiet_step (fail))
    refine wpQuiet_nil ?_
    intro _ hw'
    obtain ⟨xr, hw''⟩ := hw'
    subst hw''
    go_wp2
    go_ret
    exact ⟨by rw [HTB.out]; rfl, xr.h⟩
  · rw [htb] at hbt
    simp only [if_true] at hbt
    have HTB := Lib.hid htb
    clear htb
    refine wp_region_ext (by kernel_rfl) (by kernel_rfl) ?_
    repeat (go_big_quiet_step (fail))
    refine wpQuiet_nil ?_
    intro _ hw'
    obtain ⟨xr, hw''⟩ := hw'
    subst hw''
    go_wp2
    go_ret
    exact ⟨by rw [HTB.out]; rfl, xr.h⟩
end Go.Proofs.Ytjjjockfppomdaa
