/- Contracts of the table: on, behind. -/
import Derived.Test.YtjjjockfppomdaaTabS
namespace Go.Proofs.Ytjjjockfppomdaa
open Go.RowKit Go.Shelf
set_option linter.unusedVariables false

theorem pow_bit (c : Cyl) (k : Nat) (h8 : c.pcs.length ≤ 8) (hk : k < (stepsOf c).length) : ∃ pw : Nat, IntKind.i64.wrap (2 ^ pieceN c k) = (pw : Int) ∧ 2 ^ pieceN c k = pw ∧ pw ≤ 256 := by
  have h := pieceN_lt hk
  have hpw : 2 ^ pieceN c k ≤ 256 := pow8 (by omega)
  refine ⟨2 ^ pieceN c k, ?_, rfl, hpw⟩
  have h1 : (2 : Int) ^ pieceN c k = ((2 ^ pieceN c k : Nat) : Int) := by simp
  generalize 2 ^ pieceN c k = q at *
  rw [h1, wrap_id _ (by omega) (by omega)]
abbrev stateV (u : Nat) (o : Int) : Value := .agg #[.int .i64 (u : Int), .int .i64 o]

set_option maxRecDepth 100000 in
set_option maxHeartbeats 1600000 in
theorem on_ok (x : TX) (c : Cyl) (u k : Nat) (o : Int) (w : World) (hT : TF w x c) (hk : k < (stepsOf c).length) (hu : u < 2 ^ c.pcs.length) :
    Calls Try.prog 55 #[.pointer (some ⟨x.g, 0, none⟩), stateV u o, .int .i64 (k : Int)] w fun r w' => r = .returned (stateV (onN c u k) (k : Int)) ∧ Below w.heap.size w w' := by
  have hp8 := pieceN_lt hk
  have h8 := hT.bounds.2
  have h16 := hT.small
  have hu2 : u < 256 := Nat.lt_of_lt_of_le hu (pow8 h8)
  have hb1 := (Below.refl w.heap.size w).alloc (Nat.le_refl _) (.cells #[.int .i64 (u : Int), .int .i64 o] 94)
  have hS := Blk.new w 94 #[.int .i64 (u : Int), .int .i64 o]
  have hT1 := hT.call hb1
  have hz : (w.alloc (.cells #[.int .i64 (u : Int), .int .i64 o] 94)).heap.size = w.heap.size + 1 := by simp
  clear hT
  go_enter Try.func55, Try.ntmps55
  go_upto_region 1 with (fail)
  generalize w.alloc (.cells #[.int .i64 (u : Int), .int .i64 o] 94) = W at *
  have hbA := (Below.refl W.heap.size W).alloc (Nat.le_refl _) (.cells #[.int .i64 0, .int .i64 0] 94)
  have hR := Blk.new W 94 #[.int .i64 0, .int .i64 0]
  rw [hz] at hR
  replace hT1 := hT1.call hbA
  replace hS := hS.call hbA
  replace hb := hb1.trans (hbA.mono hb1.size)
  clear hbA hz hb1
  generalize W.alloc (.cells #[.int .i64 0, .int .i64 0] 94) = W2 at *
  obtain ⟨st, hs1, hs2, s0, s1⟩ := hT1.step hk
  obtain ⟨q0, q1, q2, q3, q4⟩ := hT1.tc.c5
  have a0 := hS.cell 0
  have a1 := hS.cell 1
  have r0 := hR.cell 0
  have r1 := hR.cell 1
  simp at a0 a1 r0 r1
  have hrz := fun i => hR.frozen i
  have hgl := hT1.gl
  have hgL := hT1.le
  have k1 : (k : Int) < ((stepsOf c).length : Int) := by omega
  have e1 : IntKind.i64.wrap (k : Int) = k := wrap_id _ (by omega) (by omega)
  obtain ⟨pw, e3, e4, e5⟩ := pow_bit c k h8 hk
  have e2 : bits .or .i64 (u : Int) (pw : Int) = (onN c u k : Int) := by rw [bits_or u pw (by omega) (by omega), ← e4]; rfl
  have HE4 := Lib.hid e4
  clear e4
  clear hT1 hS hs1 hs2
  go_wp2_with fail
  go_still_tail 14, (by kernel_rfl)
  change wpList _ _ _ _ _ (W2).drew
  go_wp2
  have hR2 := ((hR.set_ 0 (.int .i64 (onN c u k : Int))).set_ 1 (.int .i64 (k : Int))).drew
  have hb2 := ((hb.setCell (p := ⟨w.heap.size + 1, 0, none⟩) (by simp) (.int .i64 (onN c u k : Int))).setCell (p := ⟨w.heap.size + 1, 1, none⟩) (by simp) (.int .i64 (k : Int))).drew
  clear r0 r1
  generalize ((W2.setCell ⟨w.heap.size + 1, 0, none⟩ (.int .i64 (onN c u k : Int))).setCell ⟨w.heap.size + 1, 1, none⟩ (.int .i64 (k : Int))).drew = W3 at *
  have r0 := hR2.cell 0
  have r1 := hR2.cell 1
  simp at r0 r1
  exact bodyPost_ret (v := stateV (onN c u k) (k : Int)) (by simp [results, Try.results55, go_sem, r0, r1]) rfl ⟨rfl, hb2⟩
end Go.Proofs.Ytjjjockfppomdaa
