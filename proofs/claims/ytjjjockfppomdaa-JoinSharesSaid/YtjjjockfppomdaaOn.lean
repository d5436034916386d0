/- Two rows of sixteen numbers, compared. Contracts of the table: on, behind. Contracts of the table: behind, and its first inner function. -/
import Derived.Test.YtjjjockfppomdaaTabS
import Derived.Laws.StructEq
import Derived.Laws.EntriesVeiled
namespace Go.Proofs.Ytjjjockfppomdaa
open Go.RowKit Go.Shelf
set_option linter.unusedVariables false

theorem pow_bit (c : Cyl) (k : Nat) (h8 : c.pcs.length ≤ 8) (hk : k < (stepsOf c).length) : ∃ pw : Nat, IntKind.i64.wrap (2 ^ pieceN c k) = (pw : Int) ∧ 2 ^ pieceN c k = pw ∧ pw ≤ 256 := by
  have h := pieceN_lt hk
  have hpw : 2 ^ pieceN c k ≤ 256 := pow8 (by omega)
  refine ⟨2 ^ pieceN c k, ?_, rfl, hpw⟩
  have h1 : (2 : Int) ^ pieceN c k = ((2 ^ pieceN c k : Nat) : Int) := by simp
  generalize 2 ^ pieceN c k = q at *
  rw [h1, wrap_id _ (by omega) (by omega)]
abbrev stateV (u : Nat) (o : Int) : Value := .agg #[.int .i64 (u : Int), .int .i64 o]

set_option maxRecDepth 100000 in
set_option maxHeartbeats 1600000 in
theorem on_ok (x : TX) (c : Cyl) (u k : Nat) (o : Int) (w : World) (hT : TF w x c) (hk : k < (stepsOf c).length) (hu : u < 2 ^ c.pcs.length) :
    Calls Try.prog 55 #[.pointer (some ⟨x.g, 0, none⟩), stateV u o, .int .i64 (k : Int)] w fun r w' => r = .returned (stateV (onN c u k) (k : Int)) ∧ Below w.heap.size w w' := by
  have hp8 := pieceN_lt hk
  have h8 := hT.bounds.2
  have h16 := hT.small
  have hu2 : u < 256 := Nat.lt_of_lt_of_le hu (pow8 h8)
  have hb1 := (Below.refl w.heap.size w).alloc (Nat.le_refl _) (.cells #[.int .i64 (u : Int), .int .i64 o] 94)
  have hS := Blk.new w 94 #[.int .i64 (u : Int), .int .i64 o]
  have hT1 := hT.call hb1
  have hz : (w.alloc (.cells #[.int .i64 (u : Int), .int .i64 o] 94)).heap.size = w.heap.size + 1 := by simp
  clear hT
  go_enter Try.func55, Try.ntmps55
  go_upto_region 1 with (fail)
  generalize w.alloc (.cells #[.int .i64 (u : Int), .int .i64 o] 94) = W at *
  have hbA := (Below.refl W.heap.size W).alloc (Nat.le_refl _) (.cells #[.int .i64 0, .int .i64 0] 94)
  have hR := Blk.new W 94 #[.int .i64 0, .int .i64 0]
  rw [hz] at hR
  replace hT1 := hT1.call hbA
  replace hS := hS.call hbA
  replace hb := hb1.trans (hbA.mono hb1.size)
  clear hbA hz hb1
  generalize W.alloc (.cells #[.int .i64 0, .int .i64 0] 94) = W2 at *
  obtain ⟨st, hs1, hs2, s0, s1⟩ := hT1.step hk
  obtain ⟨q0, q1, q2, q3, q4⟩ := hT1.tc.c5
  have a0 := hS.cell 0
  have a1 := hS.cell 1
  have r0 := hR.cell 0
  have r1 := hR.cell 1
  simp at a0 a1 r0 r1
  have hrz := fun i => hR.frozen i
  have hgl := hT1.gl
  have hgL := hT1.le
  have k1 : (k : Int) < ((stepsOf c).length : Int) := by omega
  have e1 : IntKind.i64.wrap (k : Int) = k := wrap_id _ (by omega) (by omega)
  obtain ⟨pw, e3, e4, e5⟩ := pow_bit c k h8 hk
  have e2 : bits .or .i64 (u : Int) (pw : Int) = (onN c u k : Int) := by rw [bits_or u pw (by omega) (by omega), ← e4]; rfl
  have HE4 := Lib.hid e4
  clear e4
  clear hT1 hS hs1 hs2
  go_wp2_with fail
  go_still_tail 14, (by kernel_rfl)
  change wpList _ _ _ _ _ (W2).drew
  go_wp2
  have hR2 := ((hR.set_ 0 (.int .i64 (onN c u k : Int))).set_ 1 (.int .i64 (k : Int))).drew
  have hb2 := ((hb.setCell (p := ⟨w.heap.size + 1, 0, none⟩) (by simp) (.int .i64 (onN c u k : Int))).setCell (p := ⟨w.heap.size + 1, 1, none⟩) (by simp) (.int .i64 (k : Int))).drew
  clear r0 r1
  generalize ((W2.setCell ⟨w.heap.size + 1, 0, none⟩ (.int .i64 (onN c u k : Int))).setCell ⟨w.heap.size + 1, 1, none⟩ (.int .i64 (k : Int))).drew = W3 at *
  have r0 := hR2.cell 0
  have r1 := hR2.cell 1
  simp at r0 r1
  exact bodyPost_ret (v := stateV (onN c u k) (k : Int)) (by simp [results, Try.results55, go_sem, r0, r1]) rfl ⟨rfl, hb2⟩
end Go.Proofs.Ytjjjockfppomdaa

namespace Go.Proofs.Ytjjjockfppomdaa
open Go.RowKit Go.Shelf
set_option linter.unusedVariables false

theorem part_int (xs : Array Value) (i : Nat) (x : Int) (h : xs[i]? = some (.int .i64 x)) (w : World) : (Go.part 3 xs (i * 1)).run Try.prog w = .ok (.int .i64 x) w := by
  have hu : Try.prog.underlying 3 = some (.int .i64) := Try.underlying3
  have hi : (Try.prog.info? 3).map (·.size) = some 1 := by kernel_rfl
  cases hq : Try.prog.info? 3 with
  | none => simp [hq] at hi
  | some ii =>
    have hs : ii.size = 1 := by simpa [hq] using hi
    unfold Go.part
    simp only [Sem.run_bind, sizeOf, typeInfo, run_program, Result.andThen_ok, hq, Nat.mul_one, Sem.run_pure]
    simp [isAgg, run_underlying hu, hs, h]

theorem row_loop (xs ys : Array Value) (f g : Nat → Int) (hx : ∀ i, i < 16 → xs[i]? = some (.int .i64 (f i))) (hy : ∀ i, i < 16 → ys[i]? = some (.int .i64 (g i))) (w : World) : ∀ l : List Nat, (∀ i ∈ l, i < 16) →
    (forIn l (none, ()) fun i (__s : Option Bool × Unit) => do
              let __do_lift ← Go.part 3 xs (i * 1)
              let __do_lift_1 ← Go.part 3 ys (i * 1)
              let __do_lift ← Op.equalIn 9999 3 __do_lift __do_lift_1
              if (!__do_lift) = true then pure (ForInStep.done (some false, ())) else pure (ForInStep.yield (none, ())) : Sem (Option Bool × Unit)).run Try.prog w = .ok (if l.all (fun i => f i == g i) = true then (none, ()) else (some false, ())) w
  | [], _ => by simp
  | i :: r, h => by
    have hi := h i List.mem_cons_self
    have he : (Op.equalIn 9999 3 (.int .i64 (f i)) (.int .i64 (g i))).run Try.prog w = .ok (f i == g i) w := by simp [go_sem]
    rw [List.forIn_cons]
    simp only [Sem.run_bind, part_int xs i _ (hx i hi), part_int ys i _ (hy i hi), he, Result.andThen_ok]
    cases hq : (f i == g i)
    · simp [hq]
    · simp only [Bool.not_true, Bool.false_eq_true, if_false, Sem.run_pure, Result.andThen_ok, List.all_cons, hq, Bool.true_and]
      exact row_loop xs ys f g hx hy w r fun j hj => h j (List.mem_cons_of_mem _ hj)
theorem eq_row (xs ys : Array Value) (f g : Nat → Int) (hx : ∀ i, i < 16 → xs[i]? = some (.int .i64 (f i))) (hy : ∀ i, i < 16 → ys[i]? = some (.int .i64 (g i))) (w : World) : (Op.equalIn 10000 76 (.agg xs) (.agg ys)).run Try.prog w = .ok ((List.range 16).all fun i => f i == g i) w := by
  show (Op.equalIn (9999+1) 76 _ _).run _ _ = _
  unfold Op.equalIn
  have hu := Try.underlying76
  have hi : (Try.prog.info? 3).map (·.size) = some 1 := by kernel_rfl
  cases hq : Try.prog.info? 3 with
  | none => simp [hq] at hi
  | some ii =>
    have hs : ii.size = 1 := by simpa [hq] using hi
    have hsz : (sizeOf 3).run Try.prog w = .ok 1 w := by simp [sizeOf, typeInfo, hq, hs]
    simp only [Sem.run_bind, run_underlying hu, Result.andThen_ok, hsz, Std.Legacy.Range.forIn_eq_forIn_range']
    have hl := row_loop xs ys f g hx hy w (List.range' 0 16) (by simp)
    have h16 : (List.range 16) = List.range' 0 16 := by decide
    rw [h16]
    simp only [Std.Legacy.Range.size, Nat.sub_zero, Nat.add_sub_cancel, Nat.div_one]
    rw [hl]
    cases (List.range' 0 16).all fun i => f i == g i <;> simp
end Go.Proofs.Ytjjjockfppomdaa

namespace Go.Proofs.Ytjjjockfppomdaa
open Go.RowKit Go.Shelf
set_option linter.unusedVariables false

abbrev behV (bt : Nat) : Value := .func (.func 71) #[] #[.pointer (some ⟨bt + 1, 0, none⟩), .pointer (some ⟨bt, 0, none⟩), .pointer (some ⟨bt + 2, 0, none⟩)]
/-- what behind lays: the table, the state, the test -/
structure BehB (W : World) (g bt u : Nat) (o : Int) : Prop where
  t : Blk W bt 72 #[.pointer (some ⟨g, 0, none⟩)]
  s : Blk W (bt + 1) 94 #[.int .i64 (u : Int), .int .i64 o]
  f : Blk W (bt + 2) 105 #[.func (.func 70) #[] #[.pointer (some ⟨bt + 1, 0, none⟩), .pointer (some ⟨bt, 0, none⟩)]]
theorem BehB.keep {W W' : World} {g bt u N ga gu : Nat} {o : Int} (h : BehB W g bt u o) (hk : KeepB N bt ga gu W W') (h1 : ga < bt) (h2 : gu < bt) : BehB W' g bt u o :=
  ⟨(hk.block _ (by omega) (by omega) (by omega)).trans h.t, (hk.block _ (by omega) (by omega) (by omega)).trans h.s, (hk.block _ (by omega) (by omega) (by omega)).trans h.f⟩
theorem BehB.grown {W W' : World} {g bt u : Nat} {o : Int} {row : Option Nat} (h : BehB W g bt u o) (hg : W.grownBy W' row) (hr : ∀ r, row = some r → bt + 3 ≤ r) : BehB W' g bt u o :=
  ⟨h.t.grown hg (fun e => by have := hr _ e.symm; omega), h.s.grown hg (fun e => by have := hr _ e.symm; omega), h.f.grown hg (fun e => by have := hr _ e.symm; omega)⟩
theorem BehB.call {W W' : World} {g bt u : Nat} {o : Int} (h : BehB W g bt u o) (hb : Below W.heap.size W W') : BehB W' g bt u o := ⟨h.t.call hb, h.s.call hb, h.f.call hb⟩
theorem BehB.chg {W W' : World} {g bt u ga gu : Nat} {o : Int} (h : BehB W g bt u o) (hb : Chg ga gu W W') (h1 : ga < bt) (h2 : gu < bt) : BehB W' g bt u o :=
  ⟨hb.blk h.t (by omega) (by omega), hb.blk h.s (by omega) (by omega), hb.blk h.f (by omega) (by omega)⟩
theorem BehB.lt {W : World} {g bt u : Nat} {o : Int} (h : BehB W g bt u o) : bt + 2 < W.heap.size := h.f.lt

set_option maxRecDepth 100000 in
set_option maxHeartbeats 1600000 in
theorem behind_ok (g u : Nat) (o : Int) (w : World) :
    Calls Try.prog 53 #[.pointer (some ⟨g, 0, none⟩), stateV u o] w fun r w' => r = .returned (behV w.heap.size) ∧ BehB w' g w.heap.size u o ∧ w'.heap.size = w.heap.size + 3 ∧ Below w.heap.size w w' := by
  have hx1 := Blk.new w 72 #[.pointer (some ⟨g, 0, none⟩)]
  have hb1 := (Below.refl w.heap.size w).alloc (Nat.le_refl _) (.cells #[.pointer (some ⟨g, 0, none⟩)] 72)
  have hz1 : (w.alloc (.cells #[.pointer (some ⟨g, 0, none⟩)] 72)).heap.size = w.heap.size + 1 := by simp
  go_enter Try.func53, Try.ntmps53
  go_upto_region 1 with (fail)
  generalize w.alloc (.cells #[.pointer (some ⟨g, 0, none⟩)] 72) = w1 at *
  have hx2 := Blk.new w1 94 #[.int .i64 (u : Int), .int .i64 o]
  have hbA := (Below.refl w1.heap.size w1).alloc (Nat.le_refl _) (.cells #[.int .i64 (u : Int), .int .i64 o] 94)
  have hz2 : (w1.alloc (.cells #[.int .i64 (u : Int), .int .i64 o] 94)).heap.size = w.heap.size + 2 := by simp [hz1]
  rw [hz1] at hx2
  replace hx1 := hx1.call hbA
  have hb2 := hb1.trans (hbA.mono hb1.size)
  clear hbA hb1 hz1
  generalize w1.alloc (.cells #[.int .i64 (u : Int), .int .i64 o] 94) = w2 at *
  have hx3 := Blk.new w2 105 #[.func (.func 70) #[] #[.pointer (some ⟨w.heap.size + 1, 0, none⟩), .pointer (some ⟨w.heap.size, 0, none⟩)]]
  have hbA := (Below.refl w2.heap.size w2).alloc (Nat.le_refl _) (.cells #[.func (.func 70) #[] #[.pointer (some ⟨w.heap.size + 1, 0, none⟩), .pointer (some ⟨w.heap.size, 0, none⟩)]] 105)
  have hz3 : (w2.alloc (.cells #[.func (.func 70) #[] #[.pointer (some ⟨w.heap.size + 1, 0, none⟩), .pointer (some ⟨w.heap.size, 0, none⟩)]] 105)).heap.size = w.heap.size + 3 := by simp [hz2]
  rw [hz2] at hx3
  replace hx1 := hx1.call hbA
  replace hx2 := hx2.call hbA
  have hb3 := hb2.trans (hbA.mono hb2.size)
  go_wp2
  go_ret
  exact ⟨rfl, ⟨hx1, hx2, hx3⟩, hz3, hb3⟩

set_option maxRecDepth 100000 in
set_option maxHeartbeats 1600000 in
theorem free_ok (x : TX) (c : Cyl) (u k bt : Nat) (o : Int) (w : World) (hT : TF w x c) (hB : BehB w x.g bt u o) (hk : k < (stepsOf c).length) (hu : u < 2 ^ c.pcs.length) :
    Calls Try.prog 70 #[.int .i64 (k : Int), .pointer (some ⟨bt + 1, 0, none⟩), .pointer (some ⟨bt, 0, none⟩)] w fun r w' => r = .returned (.bool (!u.testBit (pieceN c k))) ∧ Below w.heap.size w w' := by
  have hp8 := pieceN_lt hk
  have h8 := hT.bounds.2
  have h16 := hT.small
  have hu2 : u < 256 := Nat.lt_of_lt_of_le hu (pow8 h8)
  obtain ⟨st, hs1, hs2, s0, s1⟩ := hT.step hk
  obtain ⟨q0, q1, q2, q3, q4⟩ := hT.tc.c5
  have t0 := hB.t.cell 0
  have a0 := hB.s.cell 0
  simp at t0 a0
  have k1 : (k : Int) < ((stepsOf c).length : Int) := by omega
  have e1 : IntKind.i64.wrap (k : Int) = k := wrap_id _ (by omega) (by omega)
  have f0 := Ext.of s0
  have f1 := Ext.of q4
  have f2 := Ext.of t0
  have f3 := Ext.of a0
  go_enter Try.func70, Try.ntmps70
  go_upto_region 1 with (fail)
  clear hT hB hs1 hs2 s0 s1 q0 q1 q2 q3 q4 t0 a0
  have hbt := bit_one u (pieceN c k) hu2
  cases htb : u.testBit (pieceN c k)
  · rw [htb] at hbt
    simp only [Bool.false_eq_true, if_false] at hbt
    have HTB := Lib.hid htb
    clear htb
    refine wp_region_ext (by kernel_rfl) (by kernel_rfl) ?_
    repeat (go_big_quiet_step (fail))
    refine wpQuiet_nil ?_
    intro _ hw'
    obtain ⟨xr, hw''⟩ := hw'
    subst hw''
    go_wp2
    go_ret
    exact ⟨by rw [HTB.out]; rfl, xr.h⟩
  · rw [htb] at hbt
    simp only [if_true] at hbt
    have HTB := Lib.hid htb
    clear htb
    refine wp_region_ext (by kernel_rfl) (by kernel_rfl) ?_
    repeat (go_big_quiet_step (fail))
    refine wpQuiet_nil ?_
    intro _ hw'
    obtain ⟨xr, hw''⟩ := hw'
    subst hw''
    go_wp2
    go_ret
    exact ⟨by rw [HTB.out]; rfl, xr.h⟩
end Go.Proofs.Ytjjjockfppomdaa
