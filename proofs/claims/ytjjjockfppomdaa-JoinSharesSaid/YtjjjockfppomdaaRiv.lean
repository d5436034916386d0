/- Contract: Rivals. -/
import Derived.Test.YtjjjockfppomdaaPas
namespace Go.Proofs.Ytjjjockfppomdaa
open Go.RowKit Go.Shelf
set_option linter.unusedVariables false

def rivL (c : Cyl) (Q : Nat → Nat → Nat) (i k : Nat) : List St := ((List.range k).filter fun k => decide (0 < Q i k)).map (stepAt c)
def rivM (c : Cyl) (s : St) : List St × Int := if checkCyl c ≠ 0 then ([], checkCyl c) else if isStep c s = false then ([], 2) else if joinedN c (numS c s).toNat = false then ([], 5) else (rivL c (pOut c (stepsOf c).length) (numS c s).toNat (stepsOf c).length, 0)
theorem rivL_succ (c : Cyl) (Q : Nat → Nat → Nat) (i k : Nat) : rivL c Q i (k + 1) = rivL c Q i k ++ if 0 < Q i k then [stepAt c k] else [] := by
  unfold rivL
  rw [List.range_succ, List.filter_append, List.map_append]
  congr 1
  simp only [List.filter_cons, List.filter_nil, decide_eq_true_eq]
  split <;> rfl
theorem rivL_len (c : Cyl) (Q : Nat → Nat → Nat) (i k : Nat) : (rivL c Q i k).length ≤ k := by
  unfold rivL
  rw [List.length_map]
  exact Nat.le_trans (List.length_filter_le _ _) (by simp)

set_option maxRecDepth 100000 in
set_option maxHeartbeats 1600000 in
theorem rivals_ok (v : Value) (c : Cyl) (s : St) (w : World) (hv : CylV w w.heap.size v c) :
    Calls Try.prog 32 #[v, stV2 s] w (StPost w (rivM c s)) := by
  obtain ⟨sp, stt⟩ := s
  obtain ⟨rm, hrm⟩ : ∃ rm, rm = rivM c ⟨sp, stt⟩ := ⟨_, rfl⟩
  rw [← hrm]
  have HRM := Lib.hid hrm
  clear hrm
  obtain ⟨pa, pc, rfl, hp⟩ := hv.open_
  have hC := CB.new hp
  have hB := (Below.refl w.heap.size w).alloc (Nat.le_refl _) (.cells #[.slice pa c.pcs.length pc, .int .i64 c.off, .int .i64 c.slo, .int .i64 c.shi] 26)
  go_enter Try.func32, Try.ntmps32
  go_upto_region 1 with (fail)
  have HWS : Hid ((w.alloc (.cells #[.slice pa c.pcs.length pc, .int .i64 c.off, .int .i64 c.slo, .int .i64 c.shi] 26)).heap.size = w.heap.size + 1) := by simp [Hid]
  generalize hW : w.alloc (.cells #[.slice pa c.pcs.length pc, .int .i64 c.off, .int .i64 c.slo, .int .i64 c.shi] 26) = W at *
  clear hW hp
  have hbA := (Below.refl W.heap.size W).alloc (Nat.le_refl _) (.cells #[.int .i64 sp, .bool stt] 28)
  have hS := Blk.new W 28 #[.int .i64 sp, .bool stt]
  have hz1 : (W.alloc (.cells #[.int .i64 sp, .bool stt] 28)).heap.size = W.heap.size + 1 := by simp
  rw [HWS.out] at hS hz1
  replace hC := hC.call hbA
  replace hB := hB.trans (hbA.mono hB.size)
  clear hbA hz1
  generalize W.alloc (.cells #[.int .i64 sp, .bool stt] 28) = V2 at *
  obtain ⟨k0, k1, k2, k3⟩ := hC.c4
  have s0 := hS.cell 0
  have s1 := hS.cell 1
  simp at s0 s1
  have hR := Blk.new V2 28 #[.int .i64 sp, .bool stt]
  have hbA := (Below.refl V2.heap.size V2).alloc (Nat.le_refl _) (.cells #[.int .i64 sp, .bool stt] 28)
  have hz2 : (V2.alloc (.cells #[.int .i64 sp, .bool stt] 28)).heap.size = V2.heap.size + 1 := by simp
  have hC1 := hC.call hbA
  have hS1 := hS.call hbA
  have hB1 := hB.trans (hbA.mono hB.size)
  go_wp2_with fail
  generalize V2.alloc (.cells #[.int .i64 sp, .bool stt] 28) = V3 at *
  have harr : Arr V3 V3.heap.size 2 (.slice (some ⟨V2.heap.size, 0, none⟩) 1 1) [⟨sp, stt⟩] stcell := Arr.lit hR (by omega) rfl (by simp) (by omega) (by simp [cellsOf, List.range_succ, stcell])
  refine (open_ok _ _ c [⟨sp, stt⟩] V3 hC1.cyl harr).mono ?_
  rintro e w1 ⟨hb4, hpost⟩
  have hS4 := hS1.call hb4
  have hB4 := hB1.trans (hb4.mono hB1.size)
  have hgx := hB1.size
  clear hS1 hC1 hC hS hR harr hbA k0 k1 k2 k3 s0 s1 hb4 hB hB1
  rcases hpost with ⟨hne, rfl⟩ | ⟨heq, h0, x, rfl, hT, hga, hgu⟩
  · have d0 : (openE c [⟨sp, stt⟩] != 0) = true := by simp [hne]
    have HE : Hid (rm = ([], openE c [⟨sp, stt⟩])) := by
      rw [Hid, HRM.out, rivM, openE]
      unfold openE at hne
      by_cases hc : checkCyl c ≠ 0
      · rw [if_pos hc, if_pos hc]
      · rw [if_neg hc] at hne ⊢
        rw [if_neg hc]
        simp only [List.all_cons, List.all_nil, Bool.and_true] at hne ⊢
        split at hne
        · rename_i hh
          rw [if_pos hh, if_pos hh]
        · exact absurd rfl hne
    clear hne
    generalize openE c [⟨sp, stt⟩] = er at *
    go_wp2
    exact bodyPost_ret (v := .tuple #[.slice none 0 0, .int .i64 er]) (by simp [results, Try.results32, go_sem]) rfl (StPost.nil_ hB4 HE.out)
  · unfold openE at heq
    rw [if_neg (by simp [h0])] at heq
    simp only [List.all_cons, List.all_nil, Bool.and_true] at heq
    have hst : isStep c ⟨sp, stt⟩ = true := by
      cases hh : isStep c ⟨sp, stt⟩
      · rw [hh] at heq; simp at heq
      · rfl
    obtain ⟨i, hi1, hi2⟩ := numS_got hst
    have hil := (List.getElem?_eq_some_iff.1 hi2).1
    have HE : Hid (rm = if joinedN c i = false then ([], 5) else (rivL c (pOut c (stepsOf c).length) i (stepsOf c).length, 0)) := by
      rw [Hid, HRM.out, rivM, if_neg (by simp [h0]), if_neg (by rw [hst]; simp), hi1, Int.toNat_natCast]
    have hidx := index_ok x c ⟨sp, stt⟩ w1 hT.f
    rw [hi1] at hidx
    clear heq hst hi1 hi2 h0
    have s0 := hS4.cell 0
    have s1 := hS4.cell 1
    simp at s0 s1
    go_wp2_with fail
    refine hidx.mono ?_
    rintro e w2 ⟨rfl, hb2⟩
    have hT2 := hT.call hb2
    have hB2 := hB4.trans (hb2.mono hB4.size)
    clear hidx hT hB4 s0 s1 hS4 hb2
    go_wp2_with fail
    refine (joined_ok x c i w2 hT2 hil).mono ?_
    rintro e w3 ⟨rfl, hT3, hC3⟩
    have hB3 : Below w.heap.size w w3 := hB2.trans (hC3.below hB2.size (by omega) (by omega))
    clear hT2 hB2 hC3
    cases hj : joinedN c i
    · have HE2 : Hid (rm = ([], 5)) := by rw [Hid, HE.out, if_pos hj]
      clear hj HE
      go_wp2
      exact bodyPost_ret (v := .tuple #[.slice none 0 0, .int .i64 5]) (by simp [results, Try.results32, go_sem]) rfl (StPost.nil_ hB3 HE2.out)
    · have HE2 : Hid (rm = (rivL c (pOut c (stepsOf c).length) i (stepsOf c).length, 0)) := by rw [Hid, HE.out, if_neg (by rw [hj]; simp)]
      clear hj HE
      go_wp2_with fail
      refine (pairs_ok x c w3 hT3).mono ?_
      rintro e w4 ⟨rfl, hMP, hT4, hC4, hgm, hNg⟩
      have hB4 : Below w.heap.size w w4 := hB3.trans (hC4.below hB3.size (by omega) (by omega))
      clear hT3 hB3 hC4
      generalize w3.heap.size + 1 = gm at *
      have h16 := hT4.f.small
      obtain ⟨Q, hQ⟩ : ∃ Q, Q = pOut c (stepsOf c).length := ⟨_, rfl⟩
      rw [← hQ] at hMP HE2
      clear hQ
      have q4 := hT4.f.tc.c5.2.2.2.2
      go_wp2
      go_loopw [10, 37] (fun out k' wr => ∃ (k : Nat) (A : Option Addr) (cap : Nat), k ≤ (stepsOf c).length ∧ k' = .int .i64 k ∧ out = .slice A (rivL c Q i k).length cap ∧ wr.ownsRow w4.heap.size 28 2 (.slice A (rivL c Q i k).length cap) (rivL c Q i k).length ((rivL c Q i k).flatMap (cellsOf 2 stcell)) ∧ Below w4.heap.size w4 wr) (fun _ k' _ => (stepsOf c).length - (intOf k').toNat)
      case atStart => exact ⟨0, none, 0, Nat.zero_le _, rfl, rfl, by simpa [rivL] using World.ownsRow_nil _ _ _ _, Below.refl _ _⟩
      case round =>
        obtain ⟨k, A, cap, hk, rfl, rfl, hown, hb⟩ := hrel
        clear q4
        have hTk := hT4.call hb
        by_cases hlk : k < (stepsOf c).length
        · have d5 : decide (k < (stepsOf c).length) = true := by simpa using hlk
          have d5' : decide ((k : Int) < ((stepsOf c).length : Int)) = true := by simp; omega
          obtain ⟨tk, hsk, s0, s1⟩ := hTk.f.stepAt_ hlk
          have q4 := hTk.f.tc.c5.2.2.2.2
          have HSK := Lib.hid hsk
          clear hsk
          go_upto_region 12 with (fail)
          have hY := Blk.new wr 28 #[.int .i64 (pieceN c k : Int), .bool tk]
          have hbA := (Below.refl wr.heap.size wr).alloc (Nat.le_refl _) (.cells #[.int .i64 (pieceN c k : Int), .bool tk] 28)
          have hown1 := own_call hown hbA
          have hb2 := hb.trans (hbA.mono hb.size)
          clear hown hb hbA hTk q4 s0 s1
          generalize wr.alloc (.cells #[.int .i64 (pieceN c k : Int), .bool tk] 28) = w3' at *
          generalize wr.heap.size = yb at *
          have hMk := hMP.heap (hb2.block gm hgm)
          obtain ⟨lm, clm, hml, hmr⟩ := hMk
          have hlk1 := hml.of.lookup1 keyPair Try.underlying100 (i : Int) (k : Int) (z := .int .i64 0) (by kernel_rfl)
          rw [hmr, mapP_nat] at hlk1
          have hrs := rivL_succ c Q i k
          have hrl := rivL_len c Q i k
          have hcap := own_cap hown1
          clear hml hmr
          by_cases hq : 0 < Q i k
          · have d6 : decide ((0 : Int) < (Q i k : Int)) = true := by simp; omega
            have d6' : decide (0 < Q i k) = true := by simpa using hq
            rw [if_pos hq] at hrs
            have HRS := Lib.hid hrs
            clear hrs hq
            generalize rivL c Q i k = L at *
            have y0 := hY.cell 0
            have y1 := hY.cell 1
            simp at y0 y1
            go_wp2_with (at_builtin; refine wpList_app1 slT_st rfl (.tmp 48) (.tmp 50) rfl (A := A) (cc := cap) rfl ⟨cap, hown1, .inl rfl⟩ rfl rfl one_st hb2.size ?_ ?_ ?_)
            any_goals omega
            intro v' w5 hown4 hb4 hkeep
            have hown5 := own_snoc (cell := stcell) (x := stepAt c k) (vals := #[.int .i64 (pieceN c k : Int), .bool tk]) rfl (by rw [HSK.out]; simp [cellsOf, List.range_succ, stcell]) hown4
            rw [← HRS.out] at hown5
            obtain ⟨A', cap', rfl⟩ := own_form hown5
            have hb5 := hb2.trans hb4
            clear hkeep hown4 hown1 hb4 hY hcap
            go_wp2
            go_roundw
            case rel => exact ⟨k + 1, A', cap', by omega, by go_num, rfl, hown5, hb5⟩
            case measure => (simp [intOf]; try omega)
          · have d6 : decide ((0 : Int) < (Q i k : Int)) = false := by simp; omega
            have d6' : decide (0 < Q i k) = false := by simpa using hq
            rw [if_neg hq, List.append_nil] at hrs
            have HRS := Lib.hid hrs
            clear hrs hq
            go_wp2
            go_roundw
            case rel => exact ⟨k + 1, A, cap, by omega, by go_num, by rw [HRS.out], by rw [HRS.out]; exact hown1, hb2⟩
            case measure => (simp [intOf]; try omega)
        · obtain rfl : k = (stepsOf c).length := by omega
          have d5 : decide ((stepsOf c).length < (stepsOf c).length) = false := by simp
          have hBf := hB4.trans (hb.mono hB4.size)
          go_wp2
          refine bodyPost_ret (v := .tuple #[.slice A (rivL c Q i (stepsOf c).length).length cap, .int .i64 0]) (by simp [results, Try.results32, go_sem]) rfl ?_
          rw [HE2.out]
          exact ⟨A, cap, rfl, Arr.of_own hown, hBf⟩
end Go.Proofs.Ytjjjockfppomdaa
