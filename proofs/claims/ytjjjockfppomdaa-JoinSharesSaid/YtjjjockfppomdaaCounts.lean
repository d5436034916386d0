/- Contracts: the laws' many, and the law JoinCounts: true. -/
import Derived.Test.YtjjjockfppomdaaRfn
import Derived.Test.YtjjjockfppomdaaWrk
namespace Go.Proofs.Ytjjjockfppomdaa
open Go.RowKit Go.Shelf
set_option linter.unusedVariables false

def manyB (n : Nat) : Bool := (decide (5 < n) && decide (n ≤ 8)) || decide (12 < n)
theorem many_small {c : Cyl} (h : manyB c.pcs.length = false) (h0 : checkCyl c = 0) : c.pcs.length ≤ 5 := by
  have := (good_len h0).2
  unfold manyB at h
  simp only [Bool.or_eq_false_iff, Bool.and_eq_false_iff, decide_eq_false_iff_not] at h
  omega
set_option maxRecDepth 100000 in
theorem many_ok (v : Value) (c : Cyl) (w : World) (hv : CylV w w.heap.size v c) :
    Calls Try.prog 20 #[v, .int .i64 5] w fun r w' => r = .returned (.bool (manyB c.pcs.length)) ∧ Below w.heap.size w w' := by
  obtain ⟨pa, pc, rfl, hp⟩ := hv.open_
  have hC := CB.new hp
  have hB := (Below.refl w.heap.size w).alloc (Nat.le_refl _) (.cells #[.slice pa c.pcs.length pc, .int .i64 c.off, .int .i64 c.slo, .int .i64 c.shi] 26)
  go_enter Try.func20, Try.ntmps20
  go_upto_region 1 with (fail)
  have HWS : Hid ((w.alloc (.cells #[.slice pa c.pcs.length pc, .int .i64 c.off, .int .i64 c.slo, .int .i64 c.shi] 26)).heap.size = w.heap.size + 1) := by simp [Hid]
  generalize hW : w.alloc (.cells #[.slice pa c.pcs.length pc, .int .i64 c.off, .int .i64 c.slo, .int .i64 c.shi] 26) = W at *
  clear hW hp
  clear hv HWS
  obtain ⟨k0, k1, k2, k3⟩ := hC.c4
  obtain ⟨n, hn⟩ : ∃ n, n = c.pcs.length := ⟨_, rfl⟩
  have HN := Lib.hid hn
  rw [← hn] at k0 ⊢
  clear hn hC
  by_cases h1 : 5 < n
  · have d1 : decide ((5 : Int) < (n : Int)) = true := decide_eq_true (by omega)
    have d1' : decide (5 < n) = true := decide_eq_true h1
    by_cases h2 : n ≤ 8
    · have d2 : decide ((n : Int) ≤ 8) = true := decide_eq_true (by omega)
      have d2' : decide (n ≤ 8) = true := decide_eq_true h2
      have HE : Hid (manyB n = true) := by rw [Hid, manyB, d1', d2']; rfl
      clear h1 h2
      go_wp2
      go_ret
      exact ⟨by rw [← HN.out, HE.out]; rfl, hB⟩
    · have d2 : decide ((n : Int) ≤ 8) = false := decide_eq_false (by omega)
      have d2' : decide (n ≤ 8) = false := decide_eq_false h2
      have HE : Hid (manyB n = decide (12 < n)) := by rw [Hid, manyB, d1', d2']; rfl
      by_cases h3 : 12 < n
      · have d3 : decide ((12 : Int) < (n : Int)) = true := decide_eq_true (by omega)
        have d3' : decide (12 < n) = true := decide_eq_true h3
        have HE2 : Hid (manyB n = true) := by rw [Hid, HE.out, d3']
        clear h1 h2 h3
        go_wp2
        go_ret
        exact ⟨by rw [← HN.out, HE2.out]; rfl, hB⟩
      · have d3 : decide ((12 : Int) < (n : Int)) = false := decide_eq_false (by omega)
        have d3' : decide (12 < n) = false := decide_eq_false h3
        have HE2 : Hid (manyB n = false) := by rw [Hid, HE.out, d3']
        clear h1 h2 h3
        go_wp2
        go_ret
        exact ⟨by rw [← HN.out, HE2.out]; rfl, hB⟩
  · have d1 : decide ((5 : Int) < (n : Int)) = false := decide_eq_false (by omega)
    have d1' : decide (5 < n) = false := decide_eq_false h1
    have d3 : decide ((12 : Int) < (n : Int)) = false := decide_eq_false (by omega)
    have d3' : decide (12 < n) = false := decide_eq_false (by omega)
    have HE : Hid (manyB n = false) := by rw [Hid, manyB, d1', d3']; rfl
    clear h1
    go_wp2
    go_ret
    exact ⟨by rw [← HN.out, HE.out]; rfl, hB⟩

set_option maxRecDepth 100000 in
set_option maxHeartbeats 6400000 in
theorem counts_ok (v lv : Value) (c : Cyl) (num : Int) (l : List St) (w : World) (hv : CylV w w.heap.size v c) (hl : Arr w w.heap.size 2 lv l stcell) (hnw : (Lit.int .i64 num).wf = true) :
    Calls Try.prog 4 #[v, .int .i64 num, lv] w fun r w' => r = .returned (.bool true) ∧ Below w.heap.size w w' := by
  clear hnw
  obtain ⟨la, lc, rfl, hl1, hl2, -⟩ := id hl
  clear hl1 hl2
  obtain ⟨pa, pc, rfl, hp⟩ := hv.open_
  have hC := CB.new hp
  have hB := (Below.refl w.heap.size w).alloc (Nat.le_refl _) (.cells #[.slice pa c.pcs.length pc, .int .i64 c.off, .int .i64 c.slo, .int .i64 c.shi] 26)
  go_enter Try.func4, Try.ntmps4
  go_upto_region 1 with (fail)
  have HWS : Hid ((w.alloc (.cells #[.slice pa c.pcs.length pc, .int .i64 c.off, .int .i64 c.slo, .int .i64 c.shi] 26)).heap.size = w.heap.size + 1) := by simp [Hid]
  generalize hW : w.alloc (.cells #[.slice pa c.pcs.length pc, .int .i64 c.off, .int .i64 c.slo, .int .i64 c.shi] 26) = W at *
  clear hW hp
  clear hv HWS
  replace hl := (hl.below hB).more hB.size
  obtain ⟨k0, k1, k2, k3⟩ := hC.c4
  go_wp2_with fail
  refine (many_ok _ c W hC.cyl).mono ?_
  rintro e w1 hp
  clear k0 k1 k2 k3
  obtain ⟨rfl, hb⟩ := hp
  replace hC := hC.call hb
  replace hB := hB.trans ((hb).mono hB.size)
  replace hl := (hl.below hb).more (hb).size
  clear hb
  by_cases hm : manyB c.pcs.length = true
  · rw [hm]
    clear hm hl
    go_wp2_with fail
    refine (works_ok w1).mono ?_
    rintro e w2 ⟨rfl, hb⟩
    replace hB := hB.trans (hb.mono hB.size)
    clear hb
    go_wp2
    go_ret
    exact ⟨rfl, hB⟩
  · have hmf : manyB c.pcs.length = false := by simpa using hm
    have h5 := many_small hmf
    rw [hmf]
    have H5 := Lib.hid h5
    clear hm hmf h5
    by_cases hlong : 12 < l.length
    · have d2 : decide ((12 : Int) < (l.length : Int)) = true := by simp; omega
      have d2' : decide (12 < l.length) = true := by simpa using hlong
      clear hlong hl
      go_wp2_with fail
      refine (works_ok w1).mono ?_
      rintro e w2 ⟨rfl, hb⟩
      replace hB := hB.trans (hb.mono hB.size)
      clear hb
      go_wp2
      go_ret
      exact ⟨rfl, hB⟩
    · have d2 : decide ((12 : Int) < (l.length : Int)) = false := by simp; omega
      have d2' : decide (12 < l.length) = false := by simp; omega
      clear hlong
      obtain ⟨n, e1, hcn⟩ : ∃ n e1, countM c = (n, e1) := ⟨_, _, rfl⟩
      obtain ⟨x, e2, hnx⟩ : ∃ x e2, nthM c num = (x, e2) := ⟨_, _, rfl⟩
      obtain ⟨k, e3, hrk⟩ : ∃ k e3, rankM c l = (k, e3) := ⟨_, _, rfl⟩
      obtain ⟨o, e4, hon⟩ : ∃ o e4, onlyM c = (o, e4) := ⟨_, _, rfl⟩
      obtain ⟨k0, k1, k2, k3⟩ := hC.c4
      go_wp2_with fail
      refine (count_ok _ c w1 hC.cyl).mono ?_
      rintro e w2 hp
      clear k0 k1 k2 k3
      rw [hcn] at hp
      obtain ⟨rfl, hb⟩ := hp
      replace hC := hC.call hb
      replace hB := hB.trans ((hb).mono hB.size)
      replace hl := (hl.below hb).more (hb).size
      clear hb
      obtain ⟨k0, k1, k2, k3⟩ := hC.c4
      go_wp2_with fail
      refine (rcount_ok _ c w2 hC.cyl H5.out).mono ?_
      rintro e w3 hp
      clear k0 k1 k2 k3
      rw [hcn] at hp
      obtain ⟨rfl, hb⟩ := hp
      replace hC := hC.call hb
      replace hB := hB.trans ((hb).mono hB.size)
      replace hl := (hl.below hb).more (hb).size
      clear hb
      obtain ⟨k0, k1, k2, k3⟩ := hC.c4
      go_wp2_with fail
      refine (nthP_ok _ c num w3 hC.cyl).mono ?_
      rintro e w4 hp
      clear k0 k1 k2 k3
      obtain ⟨xA, xc, rfl, hX, hb⟩ := hp.at_ hnx
      replace hC := hC.call hb
      replace hB := hB.trans ((hb).mono hB.size)
      replace hl := (hl.below hb).more (hb).size
      clear hb hp
      obtain ⟨k0, k1, k2, k3⟩ := hC.c4
      go_wp2_with fail
      refine (rnth_ok _ c num w4 hC.cyl H5.out).mono ?_
      rintro e w5 hp
      clear k0 k1 k2 k3
      obtain ⟨yA, yc, rfl, hY, hb⟩ := hp.at_ hnx
      replace hC := hC.call hb
      replace hB := hB.trans ((hb).mono hB.size)
      replace hl := (hl.below hb).more (hb).size
      replace hX := (hX.below hb).more (hb).size
      clear hb hp
      obtain ⟨k0, k1, k2, k3⟩ := hC.c4
      go_wp2_with fail
      refine (rank_ok _ _ c l w5 hC.cyl hl).mono ?_
      rintro e w6 hp
      clear k0 k1 k2 k3
      rw [hrk] at hp
      obtain ⟨rfl, hb⟩ := hp
      replace hC := hC.call hb
      replace hB := hB.trans ((hb).mono hB.size)
      replace hl := (hl.below hb).more (hb).size
      replace hX := (hX.below hb).more (hb).size
      replace hY := (hY.below hb).more (hb).size
      clear hb
      obtain ⟨k0, k1, k2, k3⟩ := hC.c4
      go_wp2_with fail
      refine (rrank_ok _ _ c l w6 hC.cyl hl H5.out).mono ?_
      rintro e w7 hp
      clear k0 k1 k2 k3
      rw [hrk] at hp
      obtain ⟨rfl, hb⟩ := hp
      replace hC := hC.call hb
      replace hB := hB.trans ((hb).mono hB.size)
      replace hX := (hX.below hb).more (hb).size
      replace hY := (hY.below hb).more (hb).size
      clear hb hl
      obtain ⟨k0, k1, k2, k3⟩ := hC.c4
      go_wp2_with fail
      refine (only_ok _ c w7 hC.cyl).mono ?_
      rintro e w8 hp
      clear k0 k1 k2 k3
      obtain ⟨oA, oc, rfl, hO, hb⟩ := hp.at_ hon
      replace hC := hC.call hb
      replace hB := hB.trans ((hb).mono hB.size)
      replace hX := (hX.below hb).more (hb).size
      replace hY := (hY.below hb).more (hb).size
      clear hb hp
      obtain ⟨k0, k1, k2, k3⟩ := hC.c4
      go_wp2_with fail
      refine (ronly_ok _ c w8 hC.cyl H5.out).mono ?_
      rintro e w9 hp
      clear k0 k1 k2 k3
      obtain ⟨pA, pc2, rfl, hP, hb⟩ := hp.at_ hon
      replace hB := hB.trans (hb.mono hB.size)
      replace hX := (hX.below hb).more (hb).size
      replace hY := (hY.below hb).more (hb).size
      replace hO := (hO.below hb).more (hb).size
      clear hb hp hC hcn hnx hrk hon
      go_wp2_with fail
      refine (sameT _ _ _ w9 hX hY).mono ?_
      rintro e w10 ⟨rfl, hb⟩
      replace hB := hB.trans (hb.mono hB.size)
      replace hO := (hO.below hb).more (hb).size
      replace hP := (hP.below hb).more (hb).size
      clear hb hX hY
      go_wp2_with fail
      refine (sameT _ _ _ w10 hO hP).mono ?_
      rintro e w11 ⟨rfl, hb⟩
      replace hB := hB.trans (hb.mono hB.size)
      clear hb hO hP
      go_wp2_with fail
      refine (works_ok w11).mono ?_
      rintro e w12 ⟨rfl, hb⟩
      replace hB := hB.trans (hb.mono hB.size)
      clear hb
      go_wp2
      go_ret
      exact ⟨rfl, hB⟩
end Go.Proofs.Ytjjjockfppomdaa
