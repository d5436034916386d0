/- Contract: CheckLevels. -/
import Derived.Test.YtgngpdnppdbgoaaPub
import Derived.Test.YtgngpdnppdbgoaaMinW
import Derived.WalkMore
namespace Go.Proofs.Ytgngpdnppdbgoaa
open Go.RowKit Go.Shelf
set_option linter.unusedVariables false

def badAt (b : List (Int × Int)) (ls : List (List Int)) (lv : List Int) (i k : Nat) : Bool := decide (lv.getD i 0 ≤ lv.getD k 0) && bfN b ls k i
theorem badLv_eq (ls : List (List Int)) (ms : List (List Nat)) (lv : List Int) : badLv ls ms lv = ((lv.any fun n => decide (n < 1)) || (List.range ms.length).any fun i => (List.range ms.length).any fun k => befL ls (ms.getD k []) (ms.getD i []) && decide (lv.getD i 0 ≤ lv.getD k 0)) := rfl
theorem badLv_yes {b : List (Int × Int)} {ls : List (List Int)} {lv : List Int} {i k : Nat} (hi : i < (matsOf b ls).length) (hk : k < (matsOf b ls).length) (h : badAt b ls lv i k = true) : badLv ls (matsOf b ls) lv = true := by
  unfold badAt at h
  rw [Bool.and_eq_true] at h
  rw [badLv_eq, Bool.or_eq_true]
  right
  rw [List.any_eq_true]
  refine ⟨i, List.mem_range.2 hi, ?_⟩
  rw [List.any_eq_true]
  refine ⟨k, List.mem_range.2 hk, ?_⟩
  rw [Bool.and_eq_true]
  exact ⟨h.2, h.1⟩
theorem badLv_low {b : List (Int × Int)} {ls : List (List Int)} {lv : List Int} (h : (lv.any fun n => decide (n < 1)) = true) : badLv ls (matsOf b ls) lv = true := by
  rw [badLv_eq, h]
  rfl
theorem badLv_no {b : List (Int × Int)} {ls : List (List Int)} {lv : List Int} (hg : Good b ls) (h1 : (lv.any fun n => decide (n < 1)) = false) (h : ∀ i, i < (matsOf b ls).length → ∀ k, k < i → badAt b ls lv i k = false) : badLv ls (matsOf b ls) lv = false := by
  rw [badLv_eq, h1, Bool.false_or, List.any_eq_false]
  intro i hi
  rw [Bool.not_eq_true, List.any_eq_false]
  intro k hk
  rw [List.mem_range] at hi hk
  intro hc
  rw [Bool.and_eq_true] at hc
  have hki := bfN_lt hg hk hi hc.1
  have := h i hi k hki
  unfold badAt at this
  have h2 : bfN b ls k i = true := hc.1
  rw [hc.2, h2] at this
  cases this
theorem max_fold {l : List Int} (hne : l ≠ []) (h : (l.any fun n => decide (n < 1)) = false) : l.foldl max 0 = maxL l := by
  cases l with
  | nil => exact absurd rfl hne
  | cons x r =>
    rw [List.any_eq_false] at h
    have := h x (List.mem_cons_self ..)
    simp at this
    show r.foldl max (max 0 x) = r.foldl max x
    rw [show max 0 x = x by omega]

attribute [local go_sem] Oper.semAt_some
set_option maxRecDepth 100000 in
set_option maxHeartbeats 1600000 in
theorem checkLv_ok (v lv qv : Value) (b : List (Int × Int)) (ls : List (List Int)) (q : List Int) (w : World) (hv : BookV w w.heap.size v b) (hl : LLi w lv ls) (hq : Arr w w.heap.size 1 qv q icell) :
    Calls Try.prog 27 #[v, lv, qv] w fun r w' => r = .returned (.tuple #[.int .i64 (checkLv b ls q).1, .int .i64 (checkLv b ls q).2]) ∧ Below w.heap.size w w' := by
  obtain ⟨qA, qc, rfl, -⟩ := id hq
  obtain ⟨pa, pc, rfl, hp⟩ := hv.open_
  obtain ⟨la, lc, rfl, -, -⟩ := hl.form
  have hC := BB.new hp
  have hB := (Below.refl w.heap.size w).alloc (Nat.le_refl _) (.cells #[.slice pa b.length pc] 24)
  go_enter Try.func27, Try.ntmps27
  go_upto_region 1 with (fail)
  generalize w.alloc (.cells #[.slice pa b.length pc] 24) = W at *
  have k0 := hC.c0
  go_step3
  go_wp2_with fail
  refine (newSong_ok _ b ls la lc W hC.bv ((hl.below hB).more hB.size)).mono ?_
  rintro e w1 ⟨hb1, hpost⟩
  have hB1 := hB.trans (hb1.mono hB.size)
  clear hC hB hb1 k0 hp hv
  rcases hpost with ⟨hne, rfl⟩ | ⟨he, gs, d, A, c, rfl, hs⟩
  · have d0 : (checkLines b ls != 0) = true := by simp [hne]
    have HE : Hid (checkLv b ls q = (0, checkLines b ls)) := if_pos hne
    clear hne
    go_wp2
    try rw [Exit.noGoto_ret]
    exact bodyPost_ret (v := .tuple #[.int .i64 0, .int .i64 (checkLines b ls)]) (by simp [results, Try.results27, go_sem]) rfl ⟨by rw [HE.out], hB1⟩
  · have HC : Hid (checkLv b ls q = if q.length ≠ (matsOf b ls).length then (0, 15) else if badLv ls (matsOf b ls) q = true then (0, 14) else (q.foldl max 0, 0)) := if_neg (by simp [he])
    have HG := Lib.hid hs.1.good
    have hms := mats_4096 HG.out
    obtain ⟨n, hn⟩ : ∃ n, n = (matsOf b ls).length := ⟨_, rfl⟩
    have HNN := Lib.hid hn
    obtain ⟨q0, q1, q2⟩ := hs.1.c3
    rw [← hn] at q2 hms
    clear hn he hl
    by_cases h1 : q.length = n
    · have d1 : ((q.length : Int) != (n : Int)) = false := by simp; omega
      replace HC : Hid (checkLv b ls q = if badLv ls (matsOf b ls) q = true then (0, 14) else (q.foldl max 0, 0)) := by rw [Hid, HC.out, if_neg (by rw [← HNN.out]; exact fun h => h h1)]
      have HQN := Lib.hid h1
      by_cases h0 : q.length = 0
      · have d2 : ((q.length : Int) == 0) = true := by rw [beq_iff_eq]; omega
        have HE : Hid (checkLv b ls q = (0, 0)) := by
          have hq0 : q = [] := List.length_eq_zero_iff.1 h0
          rw [Hid, HC.out, badLv_no HG.out (by rw [hq0]; rfl) (fun i hi => by rw [← HNN.out] at hi; exact absurd hi (by omega)), hq0]
          rfl
        clear h0 h1
        go_wp2
        try rw [Exit.noGoto_ret]
        exact bodyPost_ret (v := .tuple #[.int .i64 0, .int .i64 0]) (by simp [results, Try.results27, go_sem]) rfl ⟨by rw [HE.out], hB1⟩
      · have d2 : ((q.length : Int) == 0) = false := beq_false_of_ne (by omega)
        have hqne : q ≠ [] := fun e => h0 (by rw [e]; rfl)
        have hq1 := (hq.below hB1).more hB1.size
        have hmi := min_ok _ q w1 hqne hq1
        have HML := Lib.hid (minL_lt 1 q hqne)
        clear h0 h1
        go_wp2_with fail
        refine hmi.mono ?_
        rintro e w2 ⟨rfl, hb2⟩
        have hB2 := hB1.trans (hb2.mono hB1.size)
        have hs2 := hs.call hb2
        have hq2 := (hq1.below hb2).more hb2.size
        clear hmi hB1 hs hq1 hb2 q0 q1 q2
        cases hlow : decide (minL q < 1)
        · have HQ0 : Hid ((q.any fun n => decide (n < 1)) = false) := by rw [Hid, ← HML.out]; exact hlow
          obtain ⟨q0, q1, q2⟩ := hs2.1.c3
          rw [← HNN.out] at q2
          obtain ⟨lb, lo, rfl, hlb, hlc⟩ := num_all hq2 (List.length_pos_iff.2 hqne)
          have HLV : Hid (∀ W, Below w2.heap.size w2 W → ∀ k, k < n → W.cell? ⟨lb, lo + k, none⟩ = some (.int .i64 (q.getD k 0))) := fun W hb k hk => (hb.cell (p := ⟨lb, lo + k, none⟩) hlb).trans (hlc k (by rw [HQN.out]; exact hk))
          have HQR := Lib.hid hq2
          clear HML hlc hq hq2
          go_wp2
          go_step3
          go_wp2
          clear hlow
          go_loopw [10, 47] (fun u i wr => ∃ k : Nat, k ≤ n ∧ i = .int .i64 k ∧ u = .bool false ∧ Hid (∀ i, i < k → ∀ j, j < i → badAt b ls q i j = false) ∧ Below w2.heap.size w2 wr) (fun _ i _ => n - (intOf i).toNat)
          case atStart => exact ⟨0, Nat.zero_le _, rfl, rfl, fun i hi => absurd hi (Nat.not_lt_zero _), Below.refl _ _⟩
          case round =>
            clear q0 q1 q2
            obtain ⟨k, hk, rfl, rfl, hok, hb⟩ := hrel
            by_cases hlt : k < n
            · have d4 : decide (k < n) = true := decide_eq_true hlt
              have d4' : decide ((k : Int) < (n : Int)) = true := decide_eq_true (by omega)
              have hki : (k : Int) < (n : Int) := by omega
              obtain ⟨xb, xo, rfl, hxb, hxc⟩ := pl_all hs2.2 (by rw [← HNN.out]; omega)
              have HX : Hid (∀ W, Below w2.heap.size w2 W → ∀ k, k < n → W.cell? ⟨xb, xo + k * 4, none⟩ = some (.int .i64 (at0 (xAt b ls k) 0 : Int)) ∧ W.cell? ⟨xb, xo + k * 4 + 1, none⟩ = some (.int .i64 (at0 (xAt b ls k) 1 : Int)) ∧ W.cell? ⟨xb, xo + k * 4 + 2, none⟩ = some (.int .i64 (at0 (xAt b ls k) 2 : Int)) ∧ W.cell? ⟨xb, xo + k * 4 + 3, none⟩ = some (.int .i64 (at0 (xAt b ls k) 3 : Int))) := fun W hb k hk =>
                ⟨(hb.cell hxb).trans (hxc k (by rw [← HNN.out]; exact hk) 0 (by omega)), (hb.cell hxb).trans (hxc k (by rw [← HNN.out]; exact hk) 1 (by omega)), (hb.cell hxb).trans (hxc k (by rw [← HNN.out]; exact hk) 2 (by omega)), (hb.cell hxb).trans (hxc k (by rw [← HNN.out]; exact hk) 3 (by omega))⟩
              clear hxc
              obtain ⟨c0, c1, c2, c3⟩ := HX.out _ hb k hlt
              go_upto_region 14 with (fail)
              have e : wr.alloc (.cells #[.int .i64 (at0 (xAt b ls k) 0 : Int), .int .i64 (at0 (xAt b ls k) 1 : Int), .int .i64 (at0 (xAt b ls k) 2 : Int), .int .i64 (at0 (xAt b ls k) 3 : Int)] 88) = wr.alloc (.cells (plC (xAt b ls k)) 88) := rfl
              rw [e]
              clear e c0 c1 c2 c3
              have hX := Blk.new wr 88 (plC (xAt b ls k))
              have hb1 := hb.trans ((((Below.refl wr.heap.size wr).alloc (Nat.le_refl _) (.cells (plC (xAt b ls k)) 88))).mono hb.size)
              clear hb
              generalize wr.alloc (.cells (plC (xAt b ls k)) 88) = W1 at *
              generalize wr.heap.size = xg at *
              obtain ⟨q0, q1, q2⟩ := (hs2.call hb1).1.c3
              rw [← HNN.out] at q2
              have hcc := hs2.2.len_
              have hkc : k ≤ c := by have := HNN.out; omega
              clear hcc
              go_wp2
              go_loopw [10, 60] (fun u i wr => ∃ j : Nat, j ≤ k ∧ i = .int .i64 j ∧ u = .bool false ∧ Hid (∀ t, t < j → badAt b ls q k t = false) ∧ Below w2.heap.size w2 wr ∧ Blk wr xg 88 (plC (xAt b ls k))) (fun _ i _ => k - (intOf i).toNat)
              case atStart => exact ⟨0, Nat.zero_le _, rfl, rfl, fun t ht => absurd ht (Nat.not_lt_zero _), hb1, hX⟩
              case round =>
                clear hb1 hX q0 q1 q2
                obtain ⟨j, hj, rfl, rfl, hok2, hb, hX⟩ := hrel
                by_cases hjk : j < k
                · have d5 : decide (j < k) = true := decide_eq_true hjk
                  have d5' : decide ((j : Int) < (k : Int)) = true := decide_eq_true (by omega)
                  have hjki : (j : Int) < (k : Int) := by omega
                  have hji : (j : Int) < (n : Int) := by omega
                  obtain ⟨c0, c1, c2, c3⟩ := HX.out _ hb j (by omega)
                  go_upto_region 17 with (fail)
                  have e : wr.alloc (.cells #[.int .i64 (at0 (xAt b ls j) 0 : Int), .int .i64 (at0 (xAt b ls j) 1 : Int), .int .i64 (at0 (xAt b ls j) 2 : Int), .int .i64 (at0 (xAt b ls j) 3 : Int)] 88) = wr.alloc (.cells (plC (xAt b ls j)) 88) := rfl
                  rw [e]
                  clear e c0 c1 c2 c3
                  have hY := Blk.new wr 88 (plC (xAt b ls j))
                  have hbA := (Below.refl wr.heap.size wr).alloc (Nat.le_refl _) (.cells (plC (xAt b ls j)) 88)
                  have hb3 := hb.trans (hbA.mono hb.size)
                  have hX3 := hX.call hbA
                  clear hb hX hbA
                  generalize wr.alloc (.cells (plC (xAt b ls j)) 88) = W3 at *
                  generalize wr.heap.size = yb at *
                  have hsW := hs2.call hb3
                  have HA : Hid (∀ y : Ext W3, Calls Try.prog 63 #[.pointer (some ⟨gs, 0, none⟩), plV (xAt b ls j), plV (xAt b ls k)] y.w fun r w' => r = .returned (.bool (bfN b ls j k)) ∧ ∃ z : Ext W3, w' = z.w) := fun y => ext_call y (before_ok W.heap.size gs d b ls la lc _ (xAt b ls j) (xAt b ls k) y.w (hsW.1.call y.h))
                  have f0 := Ext.of (HLV.out _ hb3 j (by omega))
                  have f1 := Ext.of (HLV.out _ hb3 k hlt)
                  have f2 := Ext.of (show W3.cell? ⟨xg, 0, none⟩ = some (.int .i64 (at0 (xAt b ls k) 0 : Int)) by rw [hX3.cell]; rfl)
                  have f3 := Ext.of (show W3.cell? ⟨xg, 1, none⟩ = some (.int .i64 (at0 (xAt b ls k) 1 : Int)) by rw [hX3.cell]; rfl)
                  have f4 := Ext.of (show W3.cell? ⟨xg, 2, none⟩ = some (.int .i64 (at0 (xAt b ls k) 2 : Int)) by rw [hX3.cell]; rfl)
                  have f5 := Ext.of (show W3.cell? ⟨xg, 3, none⟩ = some (.int .i64 (at0 (xAt b ls k) 3 : Int)) by rw [hX3.cell]; rfl)
                  have f6 := Ext.of (show W3.cell? ⟨yb, 0, none⟩ = some (.int .i64 (at0 (xAt b ls j) 0 : Int)) by rw [hY.cell]; rfl)
                  have f7 := Ext.of (show W3.cell? ⟨yb, 1, none⟩ = some (.int .i64 (at0 (xAt b ls j) 1 : Int)) by rw [hY.cell]; rfl)
                  have f8 := Ext.of (show W3.cell? ⟨yb, 2, none⟩ = some (.int .i64 (at0 (xAt b ls j) 2 : Int)) by rw [hY.cell]; rfl)
                  have f9 := Ext.of (show W3.cell? ⟨yb, 3, none⟩ = some (.int .i64 (at0 (xAt b ls j) 3 : Int)) by rw [hY.cell]; rfl)
                  have hqj : (j : Int) < (q.length : Int) := by have := HQN.out; omega
                  have hqk : (k : Int) < (q.length : Int) := by have := HQN.out; omega
                  obtain ⟨vj, hvj⟩ : ∃ vj, vj = q.getD j 0 := ⟨_, rfl⟩
                  obtain ⟨vk, hvk⟩ : ∃ vk, vk = q.getD k 0 := ⟨_, rfl⟩
                  rw [← hvj] at f0
                  rw [← hvk] at f1
                  have HB : Hid (badAt b ls q k j = (decide (vk ≤ vj) && bfN b ls j k)) := by rw [Hid, hvj, hvk]; rfl
                  clear hY hsW hvj hvk
                  by_cases hle : vk ≤ vj
                  · have d6 : decide (vk ≤ vj) = true := decide_eq_true hle
                    rw [d6] at HB
                    cases hbf : bfN b ls j k
                    · have HOK : Hid (∀ t, t < j + 1 → badAt b ls q k t = false) := fun t ht => by
                        by_cases e : t = j
                        · rw [e, HB.out, hbf]; rfl
                        · exact hok2.out t (by omega)
                      rw [hbf] at HA
                      clear hbf hle hok2
                      refine wp_region_ext (by kernel_rfl) (by kernel_rfl) ?_
                      repeat (go_big_quiet_step ((go_at_call 63; with_reducible exact HA.out _)))
                      refine wpQuiet_nil ?_
                      intro _ hw'
                      obtain ⟨xr, hw''⟩ := hw'
                      subst hw''
                      have hb4 := hb3.trans (xr.h.mono hb3.size)
                      have hX4 := hX3.call xr.h
                      go_wp2
                      go_roundw
                      case rel => exact ⟨j + 1, by omega, by go_num, rfl, HOK, hb4, hX4⟩
                      case measure => (simp [intOf]; try omega)
                    · have HE : Hid (checkLv b ls q = (0, 14)) := by rw [Hid, HC.out, if_pos (badLv_yes (i := k) (k := j) (by rw [← HNN.out]; exact hlt) (by rw [← HNN.out]; omega) (by rw [HB.out, hbf]; rfl))]
                      rw [hbf] at HA
                      clear hbf hle hok2 hok
                      refine wp_region_ext (by kernel_rfl) (by kernel_rfl) ?_
                      repeat (go_big_quiet_step ((go_at_call 63; with_reducible exact HA.out _)))
                      refine wpQuiet_nil ?_
                      intro _ hw'
                      obtain ⟨xr, hw''⟩ := hw'
                      subst hw''
                      have hb4 := hB2.trans ((hb3.trans (xr.h.mono hb3.size)).mono hB2.size)
                      go_wp2
                      try rw [Exit.noGoto_ret]
                      exact bodyPost_ret (v := .tuple #[.int .i64 0, .int .i64 14]) (by simp [results, Try.results27, go_sem]) rfl ⟨by rw [HE.out], hb4⟩
                  · have d6 : decide (vk ≤ vj) = false := decide_eq_false hle
                    have HOK : Hid (∀ t, t < j + 1 → badAt b ls q k t = false) := fun t ht => by
                      by_cases e : t = j
                      · rw [e, HB.out, d6]; rfl
                      · exact hok2.out t (by omega)
                    clear hle hok2
                    refine wp_region_ext (by kernel_rfl) (by kernel_rfl) ?_
                    repeat (go_big_quiet_step (fail))
                    refine wpQuiet_nil ?_
                    intro _ hw'
                    obtain ⟨xr, hw''⟩ := hw'
                    subst hw''
                    have hb4 := hb3.trans (xr.h.mono hb3.size)
                    have hX4 := hX3.call xr.h
                    go_wp2
                    go_roundw
                    case rel => exact ⟨j + 1, by omega, by go_num, rfl, HOK, hb4, hX4⟩
                    case measure => (simp [intOf]; try omega)
                · obtain rfl : k = j := by omega
                  have d5 : decide (k < k) = false := by simp
                  have HOK : Hid (∀ i, i < k + 1 → ∀ j, j < i → badAt b ls q i j = false) := fun i hi t ht => by
                    by_cases e : i = k
                    · subst e; exact hok2.out t ht
                    · exact hok.out i (by omega) t ht
                  go_wp2
                  go_roundw
                  case rel => exact ⟨k + 1, by omega, by go_num, rfl, HOK, hb⟩
                  case measure => (simp [intOf]; try omega)
            · obtain rfl : n = k := by omega
              have d4 : decide (n < n) = false := by simp
              have HBN : Hid (badLv ls (matsOf b ls) q = false) := badLv_no HG.out HQ0.out (fun i hi => hok.out i (by rw [HNN.out]; exact hi))
              have HE : Hid (checkLv b ls q = (maxL q, 0)) := by rw [Hid, HC.out, if_neg (by rw [HBN.out]; exact Bool.false_ne_true), max_fold hqne HQ0.out]
              have hq3 : Arr wr wr.heap.size 1 (.slice (some ⟨lb, lo, none⟩) q.length qc) q icell := (HQR.out.below hb).more hb.size
              have hmx := max_ok _ q wr hqne hq3
              have hB3 := hB2.trans (hb.mono hB2.size)
              clear hk hlt hok
              go_wp2_with fail
              refine hmx.mono ?_
              rintro e w4 ⟨rfl, hb4⟩
              have hB4 := hB3.trans (hb4.mono hB3.size)
              go_wp2
              try rw [Exit.noGoto_ret]
              exact bodyPost_ret (v := .tuple #[.int .i64 (maxL q), .int .i64 0]) (by simp [results, Try.results27, go_sem]) rfl ⟨by rw [HE.out], hB4⟩
        · have HE : Hid (checkLv b ls q = (0, 14)) := by rw [Hid, HC.out, if_pos (badLv_low (by rw [← HML.out]; exact hlow))]
          go_wp2
          try rw [Exit.noGoto_ret]
          exact bodyPost_ret (v := .tuple #[.int .i64 0, .int .i64 14]) (by simp [results, Try.results27, go_sem]) rfl ⟨by rw [HE.out], hB2⟩
    · have d1 : ((q.length : Int) != (n : Int)) = true := by simp; omega
      have HE : Hid (checkLv b ls q = (0, 15)) := by rw [Hid, HC.out, if_pos (by rw [← HNN.out]; exact h1)]
      clear h1
      go_wp2
      try rw [Exit.noGoto_ret]
      exact bodyPost_ret (v := .tuple #[.int .i64 0, .int .i64 15]) (by simp [results, Try.results27, go_sem]) rfl ⟨by rw [HE.out], hB1⟩
end Go.Proofs.Ytgngpdnppdbgoaa
