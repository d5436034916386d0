/- Contracts: CheckJoin, Count. -/
import Derived.Test.YtjjjockfppomdaaInd
namespace Go.Proofs.Ytjjjockfppomdaa
open Go.RowKit Go.Shelf
set_option linter.unusedVariables false

theorem openE_nil (c : Cyl) : openE c [] = checkCyl c := by
  unfold openE
  by_cases h : checkCyl c ≠ 0
  · rw [if_pos h]
  · rw [if_neg h]; simp at h ⊢; exact h.symm

set_option maxRecDepth 100000 in
set_option maxHeartbeats 1600000 in
theorem checkJoin_ok (v lv : Value) (c : Cyl) (l : List St) (w : World) (hv : CylV w w.heap.size v c) (hl : Arr w w.heap.size 2 lv l stcell) :
    Calls Try.prog 18 #[v, lv] w fun r w' => r = .returned (.int .i64 (checkJoin c l)) ∧ Below w.heap.size w w' := by
  obtain ⟨la, lc, rfl, hl1, hl2, -⟩ := id hl
  obtain ⟨pa, pc, rfl, hp⟩ := hv.open_
  have hC := CB.new hp
  have hB := (Below.refl w.heap.size w).alloc (Nat.le_refl _) (.cells #[.slice pa c.pcs.length pc, .int .i64 c.off, .int .i64 c.slo, .int .i64 c.shi] 26)
  go_enter Try.func18, Try.ntmps18
  go_upto_region 1 with (fail)
  have HWS : Hid ((w.alloc (.cells #[.slice pa c.pcs.length pc, .int .i64 c.off, .int .i64 c.slo, .int .i64 c.shi] 26)).heap.size = w.heap.size + 1) := by simp [Hid]
  generalize hW : w.alloc (.cells #[.slice pa c.pcs.length pc, .int .i64 c.off, .int .i64 c.slo, .int .i64 c.shi] 26) = W at *
  clear hW hp
  obtain ⟨k0, k1, k2, k3⟩ := hC.c4
  go_wp2_with fail
  refine (indexed_ok _ _ c l W hC.cyl ((hl.below hB).more hB.size)).mono ?_
  rintro e w1 ⟨hb1, hpost⟩
  have hB1 := hB.trans (hb1.mono hB.size)
  clear hC hB hb1 k0 k1 k2 k3 hl
  rcases hpost with ⟨hne, rfl⟩ | ⟨he, h0, x, A, cap, rfl, -⟩
  · clear hne
    go_wp2
    go_ret
    exact ⟨rfl, hB1⟩
  · have HE := Lib.hid he
    clear he h0
    go_wp2
    go_ret
    exact ⟨by rw [HE.out]; rfl, hB1⟩

def countM (c : Cyl) : Int × Int := if checkCyl c ≠ 0 then (0, checkCyl c) else (((joinsN c).length : Int), 0)
set_option maxRecDepth 100000 in
set_option maxHeartbeats 1600000 in
theorem count_ok (v : Value) (c : Cyl) (w : World) (hv : CylV w w.heap.size v c) :
    Calls Try.prog 21 #[v] w fun r w' => r = .returned (.tuple #[.int .i64 (countM c).1, .int .i64 (countM c).2]) ∧ Below w.heap.size w w' := by
  obtain ⟨pa, pc, rfl, hp⟩ := hv.open_
  have hC := CB.new hp
  have hB := (Below.refl w.heap.size w).alloc (Nat.le_refl _) (.cells #[.slice pa c.pcs.length pc, .int .i64 c.off, .int .i64 c.slo, .int .i64 c.shi] 26)
  go_enter Try.func21, Try.ntmps21
  go_upto_region 1 with (fail)
  have HWS : Hid ((w.alloc (.cells #[.slice pa c.pcs.length pc, .int .i64 c.off, .int .i64 c.slo, .int .i64 c.shi] 26)).heap.size = w.heap.size + 1) := by simp [Hid]
  generalize hW : w.alloc (.cells #[.slice pa c.pcs.length pc, .int .i64 c.off, .int .i64 c.slo, .int .i64 c.shi] 26) = W at *
  clear hW hp
  obtain ⟨k0, k1, k2, k3⟩ := hC.c4
  go_wp2_with fail
  refine (open_ok _ _ c [] W hC.cyl Arr.nil_).mono ?_
  rintro e w1 ⟨hb1, hpost⟩
  rw [openE_nil] at hpost
  have hgx := hB.size
  have hB1 := hB.trans (hb1.mono hB.size)
  clear k0 k1 k2 k3 hC hB hb1
  rcases hpost with ⟨hne, rfl⟩ | ⟨-, h0, x, rfl, hT, hga, hgu⟩
  · have d0 : (checkCyl c != 0) = true := by simp [hne]
    have HE : Hid (countM c = (0, checkCyl c)) := if_pos hne
    clear hne
    have hB := hB1
    go_wp2
    exact bodyPost_ret (v := .tuple #[.int .i64 0, .int .i64 (checkCyl c)]) (by simp [results, Try.results21, go_sem]) rfl ⟨by rw [HE.out], hB⟩
  · have HE : Hid (countM c = (((joinsN c).length : Int), 0)) := if_neg (by simp [h0])
    clear h0
    go_wp2_with fail
    refine (all_ok x c w1 hT).mono ?_
    rintro e w2 ⟨rfl, hT2, hC2⟩
    have hB : Below w.heap.size w w2 := hB1.trans (hC2.below hB1.size (by omega) (by omega))
    go_wp2
    exact bodyPost_ret (v := .tuple #[.int .i64 ((joinsN c).length : Int), .int .i64 0]) (by simp [results, Try.results21, go_sem]) rfl ⟨by rw [HE.out], hB⟩
end Go.Proofs.Ytjjjockfppomdaa
