/- Contracts: through, count. -/
import Derived.Test.YtgngpdnppdbgoaaWys
namespace Go.Proofs.Ytgngpdnppdbgoaa
open Go.RowKit Go.Shelf
set_option linter.unusedVariables false

theorem through_ok (u v : Nat) (h : u * v ≤ 268435456) (w : World) : Calls Try.prog 76 #[.agg #[.int .i64 (u : Int), .int .i64 (v : Int)]] w fun r w' => r = .returned (.int .i64 ((u * v : Nat) : Int)) ∧ Below w.heap.size w w' := by
  have e1 : IntKind.i64.wrap ((u : Int) * (v : Int)) = ((u * v : Nat) : Int) := by rw [show (u : Int) * (v : Int) = ((u * v : Nat) : Int) by simp]; exact wrap_id _ (by omega) (by omega)
  clear h
  go_enter Try.func76, Try.ntmps76
  go_upto_region 1 with (fail)
  have hX := Blk.new w 101 #[.int .i64 (u : Int), .int .i64 (v : Int)]
  have hb := (Below.refl w.heap.size w).alloc (Nat.le_refl _) (.cells #[.int .i64 (u : Int), .int .i64 (v : Int)] 101)
  generalize w.alloc (.cells #[.int .i64 (u : Int), .int .i64 (v : Int)] 101) = W at *
  have c0 := hX.cell 0
  have c1 := hX.cell 1
  simp at c0 c1
  go_wp2
  go_ret
  exact ⟨by rfl, hb⟩
/-- how many longest passages have their first match among the first ones -/
def csum (b : List (Int × Int)) (ls : List (List Int)) (k : Nat) : Nat := ((List.range k).map fun i => if lvN b ls i = 1 then upN b ls i * dnN b ls i else 0).sum
theorem csum_succ (b : List (Int × Int)) (ls : List (List Int)) (k : Nat) : csum b ls (k + 1) = csum b ls k + if lvN b ls k = 1 then upN b ls k * dnN b ls k else 0 := by
  unfold csum
  rw [List.range_succ, List.map_append, List.sum_append]
  simp
theorem csum_le {b : List (Int × Int)} {ls : List (List Int)} (hg : Good b ls) : ∀ k, k ≤ (matsOf b ls).length → csum b ls k ≤ k * 268435456
  | 0, _ => by simp [csum]
  | k + 1, h => by
    have := csum_le hg k (by omega)
    have h2 := (ways_leN hg (i := k) h).2.2
    rw [csum_succ]
    have h3 : (if lvN b ls k = 1 then upN b ls k * dnN b ls k else 0) ≤ 268435456 := by
      split
      · exact h2
      · exact Nat.zero_le _
    rw [Nat.succ_mul]
    exact Nat.add_le_add this h3
theorem csum_all {b : List (Int × Int)} {ls : List (List Int)} (hg : Good b ls) (hne : 0 < (matsOf b ls).length) : csum b ls (matsOf b ls).length = (longOf b ls).length := by
  unfold longOf
  rw [(levOf hg).count (List.ne_nil_of_length_pos hne), sum_idx _ []]
  rfl
theorem count_nil {b : List (Int × Int)} {ls : List (List Int)} (hg : Good b ls) (he : (matsOf b ls).length = 0) : (longOf b ls).length = 1 := by
  unfold longOf
  rw [(levOf hg).count_nil (List.length_eq_zero_iff.1 he)]
  rfl
theorem long_le {b : List (Int × Int)} {ls : List (List Int)} (hg : Good b ls) : (longOf b ls).length ≤ 1099511627776 := by
  have hms := mats_len hg.ds8 (by rw [dsOf_len]; exact hg.four : (dsOf ls).length ≤ 4) (mt := mtB b ls)
  change (matsOf b ls).length ≤ 4096 at hms
  by_cases h : (matsOf b ls).length = 0
  · rw [count_nil hg h]; omega
  · rw [← csum_all hg (by omega)]
    have := csum_le hg _ (Nat.le_refl (matsOf b ls).length)
    omega

attribute [local go_sem] Oper.semAt_some
set_option maxRecDepth 100000 in
set_option maxHeartbeats 1600000 in
theorem count_ok (B gs d : Nat) (b : List (Int × Int)) (ls : List (List Int)) (la : Option Addr) (lc : Nat) (A : Option Addr) (c : Nat) (rb : Nat) (w : World) (hs : SongM w B gs d b ls la lc A c) (hr : WRow w rb (matsOf b ls).length (upN b ls) (dnN b ls)) :
    Calls Try.prog 74 #[.pointer (some ⟨gs, 0, none⟩), .slice (some ⟨rb, 0, none⟩) (matsOf b ls).length (matsOf b ls).length] w fun r w' => r = .returned (.int .i64 ((longOf b ls).length : Int)) ∧ Below w.heap.size w w' := by
  have hgd := hs.1.good
  have hms := mats_len hgd.ds8 (by rw [dsOf_len]; exact hgd.four : (dsOf ls).length ≤ 4) (mt := mtB b ls)
  change (matsOf b ls).length ≤ 4096 at hms
  have HG := Lib.hid hgd
  obtain ⟨n, hn⟩ : ∃ n, n = (matsOf b ls).length := ⟨_, rfl⟩
  have hlv := levels_ok B gs d b ls la lc A c w hs
  rw [← hn] at hlv hms hr
  rw [← hn]
  have HNN := Lib.hid hn
  clear hgd hn hs
  go_enter Try.func74, Try.ntmps74
  by_cases h0 : n = 0
  · have d0 : ((n : Int) == 0) = true := by simp; omega
    have HE : Hid ((longOf b ls).length = 1) := count_nil HG.out (by rw [← HNN.out]; exact h0)
    clear h0
    go_wp2
    go_ret
    exact ⟨by rw [HE.out]; rfl, Below.refl _ _⟩
  · have d0 : ((n : Int) == 0) = false := beq_false_of_ne (by omega)
    go_wp2_with fail
    refine hlv.mono ?_
    rintro e w1 ⟨lA, lcc, rfl, hL, hb1⟩
    have hr1 := hr.call hb1
    obtain ⟨lb, lo, rfl, hlb, hlc⟩ := num_all hL (by have := HNN.out; simp [lvsI]; omega)
    have HLV : Hid (∀ W, Below w1.heap.size w1 W → ∀ k, k < n → W.cell? ⟨lb, lo + k, none⟩ = some (.int .i64 (lvN b ls k : Int))) := fun W hb k hk => by
      have := (hb.cell (p := ⟨lb, lo + k, none⟩) hlb).trans (hlc k (by have := HNN.out; simp [lvsI]; omega))
      rw [lvs_getD (by rw [← HNN.out]; exact hk)] at this
      exact this
    clear hlv hlc hr hL
    go_wp2
    go_loopw [5, 14] (fun s i wr => ∃ k : Nat, k ≤ n ∧ i = .int .i64 k ∧ s = .int .i64 (csum b ls k : Int) ∧ Below w1.heap.size w1 wr) (fun _ i _ => n - (intOf i).toNat)
    case atStart => exact ⟨0, Nat.zero_le _, rfl, rfl, Below.refl _ _⟩
    case round =>
      obtain ⟨k, hk, rfl, rfl, hb2⟩ := hrel
      by_cases hlt : k < n
      · have d1 : decide (k < n) = true := decide_eq_true hlt
        have d1' : decide ((k : Int) < (n : Int)) = true := decide_eq_true (by omega)
        have hki : (k : Int) < (n : Int) := by omega
        have c0 := HLV.out _ hb2 k hlt
        have HCS := Lib.hid (csum_succ b ls k)
        have hcl := csum_le HG.out k (by rw [← HNN.out]; exact hk)
        have hwl := (ways_leN HG.out (i := k) (by rw [← HNN.out]; exact hlt)).2.2
        obtain ⟨o0, o1⟩ := (hr1.call hb2).at_ hlt
        rcases Decidable.em (lvN b ls k = 1) with h1 | h1
        · rw [h1] at c0
          have HS : Hid (csum b ls (k + 1) = csum b ls k + upN b ls k * dnN b ls k) := by rw [Hid, HCS.out, if_pos h1]
          have hth := through_ok (upN b ls k) (dnN b ls k) hwl wr
          obtain ⟨P, hP⟩ : ∃ P, P = upN b ls k * dnN b ls k := ⟨_, rfl⟩
          rw [← hP] at hth HS hwl
          have e1 : IntKind.i64.wrap ((csum b ls k : Int) + (P : Int)) = (csum b ls k : Int) + (P : Int) := wrap_id _ (by omega) (by omega)
          clear h1 HCS hcl hwl hP
          go_wp2_with fail
          refine hth.mono ?_
          rintro e w3 ⟨rfl, hb3⟩
          have hb4 := hb2.trans (hb3.mono hb2.size)
          clear hth o0 o1 c0 hb3
          go_wp2
          go_roundw
          case rel => exact ⟨k + 1, by omega, by go_num, by rw [HS.out]; simp, hb4⟩
          case measure => (simp [intOf]; try omega)
        · have d2 : ((lvN b ls k : Int) == 1) = false := beq_false_of_ne (by omega)
          have HS : Hid (csum b ls (k + 1) = csum b ls k) := by rw [Hid, HCS.out, if_neg h1]; rfl
          clear h1 HCS hcl hwl o0 o1
          go_wp2
          go_roundw
          case rel => exact ⟨k + 1, by omega, by go_num, by rw [HS.out], hb2⟩
          case measure => (simp [intOf]; try omega)
      · obtain rfl : n = k := by omega
        have d1 : decide (n < n) = false := by simp
        have HE : Hid (csum b ls n = (longOf b ls).length) := by
          have := csum_all HG.out (by rw [← HNN.out]; omega)
          rw [← HNN.out] at this
          exact this
        have hbf := hb1.trans (hb2.mono hb1.size)
        go_wp2
        go_ret
        exact ⟨by rw [← HE.out]; rfl, hbf⟩
end Go.Proofs.Ytgngpdnppdbgoaa
