/- The iterator that behind returns. -/
import Derived.Test.YtjjjockfppomdaaOn
namespace Go.Proofs.Ytjjjockfppomdaa
open Go.RowKit Go.Shelf
set_option linter.unusedVariables false

theorem row_eq (c : Cyl) (i : Nat) (w : World) : (Op.equalIn 10000 76 (.agg #[.int .i64 (fitV c i 0), .int .i64 (fitV c i 1), .int .i64 (fitV c i 2), .int .i64 (fitV c i 3), .int .i64 (fitV c i 4), .int .i64 (fitV c i 5), .int .i64 (fitV c i 6), .int .i64 (fitV c i 7), .int .i64 (fitV c i 8), .int .i64 (fitV c i 9), .int .i64 (fitV c i 10), .int .i64 (fitV c i 11), .int .i64 (fitV c i 12), .int .i64 (fitV c i 13), .int .i64 (fitV c i 14), .int .i64 (fitV c i 15)]) (.agg #[.int .i64 0, .int .i64 0, .int .i64 0, .int .i64 0, .int .i64 0, .int .i64 0, .int .i64 0, .int .i64 0, .int .i64 0, .int .i64 0, .int .i64 0, .int .i64 0, .int .i64 0, .int .i64 0, .int .i64 0, .int .i64 0])).run Try.prog w = .ok ((List.range 16).all fun k => fitV c i k == 0) w := by
  refine eq_row _ _ (fitV c i) (fun _ => 0) (fun k hk => ?_) (fun k hk => ?_) w
  · rcases k with _ | _ | _ | _ | _ | _ | _ | _ | _ | _ | _ | _ | _ | _ | _ | _ | k <;> first | rfl | omega
  · rcases k with _ | _ | _ | _ | _ | _ | _ | _ | _ | _ | _ | _ | _ | _ | _ | _ | k <;> first | rfl | omega
theorem range_pre {k m : Nat} (h : k ≤ m) : List.range k <+: List.range m := by
  have := List.take_prefix k (List.range m)
  rwa [List.take_range, Nat.min_eq_left h] at this
abbrev VNx (c : Cyl) (u : Nat) (o : Option Nat) := {k : Nat // k ∈ nextN c u o}
def encNx (c : Cyl) (u : Nat) (o : Option Nat) (s : VNx c u o) : Array Value := #[stateV (onN c u s.1) (s.1 : Int)]
theorem row_none {c : Cyl} {i : Nat} (h : ((List.range 16).all fun k => fitV c i k == 0) = true) (hm : (stepsOf c).length ≤ 16) (u : Nat) : nextN c u (some i) = [] := by
  unfold nextN
  rw [List.filter_eq_nil_iff]
  intro k hk
  rw [List.mem_range] at hk
  have := List.all_eq_true.1 h k (List.mem_range.2 (by omega))
  simp only [fitV, beq_iff_eq] at this
  intro hc
  simp only [canGo, Bool.and_eq_true] at hc
  rw [if_pos hc.2] at this
  omega

attribute [local go_sem] Oper.semAt_some
set_option maxRecDepth 100000 in
set_option maxHeartbeats 1600000 in
theorem behind2_stops (n : Nat) (x : TX) (c : Cyl) (u bt : Nat) (o : Option Nat) (w : World) (hT : TF w x c) (hB : BehB w x.g bt u (lastI o)) (hu : u < 2 ^ c.pcs.length) (ho : ∀ i, o = some i → i < (stepsOf c).length) (hxN : x.N ≤ bt) :
    SeqStopsK Fence.wide (n + 3) Try.prog 71 #[.pointer (some ⟨bt + 1, 0, none⟩), .pointer (some ⟨bt, 0, none⟩), .pointer (some ⟨bt + 2, 0, none⟩)] (encNx c u o) (KeepB x.N bt x.ga x.gu) (fun xs => xs.map (·.1) = nextN c u o) (fun pre => pre.map (·.1) <+: nextN c u o) (nextN c u o).length w := by
  intro l J Jx W hW hJ hJx hY h0
  have hT1 := hT.call hW
  have hB1 := hB.call hW
  have h8 := hT.bounds.2
  have h16 := hT.small
  have hu2 : u < 256 := Nat.lt_of_lt_of_le hu (pow8 h8)
  have hga := hT.al
  have hgu := hT.ul
  clear hT hB
  refine callsIn_of_wp Try.func71 rfl trivial ?_ rfl
  simp only [Try.ntmps71, List.size_toArray, List.length_cons, List.length_nil, Nat.reduceAdd, Nat.reduceSub, Array.replicate_succ, Array.replicate_zero, List.push_toArray, List.append_toArray, List.nil_append, List.cons_append]
  refine wpIn_wide.2 ?_
  have t0 := hB1.t.cell 0
  have a0 := hB1.s.cell 0
  have a1 := hB1.s.cell 1
  have b0 := hB1.f.cell 0
  simp at t0 a0 a1 b0
  obtain ⟨q0, q1, q2, q3, q4⟩ := hT1.tc.c5
  have k1 : 0 ≤ ((stepsOf c).length : Int) := by omega
  have f0 := Ext.of t0
  have f1 := Ext.of a1
  by_cases hz : ∃ i, o = some i ∧ ((List.range 16).all fun k => fitV c i k == 0) = true
  · obtain ⟨i, rfl, hz⟩ := hz
    have hi := ho i rfl
    have hnx := row_none hz h16 u
    have hq := row_eq c i
    rw [hz] at hq
    simp only [lastI] at f1
    go_upto_region 0 with (fail)
    have r0 := Ext.of (hT1.tc.at_ (i := i) (k := 0) (by omega) (by omega))
    have r1 := Ext.of (hT1.tc.at_ (i := i) (k := 1) (by omega) (by omega))
    have r2 := Ext.of (hT1.tc.at_ (i := i) (k := 2) (by omega) (by omega))
    have r3 := Ext.of (hT1.tc.at_ (i := i) (k := 3) (by omega) (by omega))
    have r4 := Ext.of (hT1.tc.at_ (i := i) (k := 4) (by omega) (by omega))
    have r5 := Ext.of (hT1.tc.at_ (i := i) (k := 5) (by omega) (by omega))
    have r6 := Ext.of (hT1.tc.at_ (i := i) (k := 6) (by omega) (by omega))
    have r7 := Ext.of (hT1.tc.at_ (i := i) (k := 7) (by omega) (by omega))
    have r8 := Ext.of (hT1.tc.at_ (i := i) (k := 8) (by omega) (by omega))
    have r9 := Ext.of (hT1.tc.at_ (i := i) (k := 9) (by omega) (by omega))
    have r10 := Ext.of (hT1.tc.at_ (i := i) (k := 10) (by omega) (by omega))
    have r11 := Ext.of (hT1.tc.at_ (i := i) (k := 11) (by omega) (by omega))
    have r12 := Ext.of (hT1.tc.at_ (i := i) (k := 12) (by omega) (by omega))
    have r13 := Ext.of (hT1.tc.at_ (i := i) (k := 13) (by omega) (by omega))
    have r14 := Ext.of (hT1.tc.at_ (i := i) (k := 14) (by omega) (by omega))
    have r15 := Ext.of (hT1.tc.at_ (i := i) (k := 15) (by omega) (by omega))
    rw [Nat.add_zero] at r0
    have k2 : ((i : Int) != -1) = true := by simp
    have k3 : (i : Int) < 16 := by omega
    have e1 : IntKind.i64.wrap (i : Int) = i := wrap_id _ (by omega) (by omega)
    have HNX := Lib.hid hnx
    clear t0 a0 a1 b0 q0 q1 q2 q3 q4 hz hnx
    refine wp_region_ext (by kernel_rfl) (by kernel_rfl) ?_
    repeat (go_big_quiet_step (fail))
    refine wpQuiet_nil ?_
    intro _ hw'
    obtain ⟨xr, hw''⟩ := hw'
    subst hw''
    go_wp2
    refine bodyPost_ret (results_none rfl _ _ _) rfl ?_
    exact ⟨⟨_, rfl⟩, .inl ⟨[], HNX.out.symm, hJ [] _ _ none h0 (grown_call xr.h _) (by simp)⟩⟩
  · go_upto_region 0 with (fail)
    go_cut [19] from 58 (fun p wx => p = .bool false ∧ Below W.heap.size W wx)
    case first =>
      cases o with
      | none =>
        simp only [lastI] at f1
        clear t0 a0 a1 b0 q0 q1 q2 q3 q4
        refine wp_region_ext (by kernel_rfl) (by kernel_rfl) ?_
        repeat (go_big_quiet_step (fail))
        refine wpQuiet_nil ?_
        intro _ hw'
        obtain ⟨xr, hw''⟩ := hw'
        subst hw''
        go_wp2
        go_meet
        case rel => exact ⟨rfl, xr.h⟩
      | some i =>
        have hi := ho i rfl
        have hzf : ((List.range 16).all fun k => fitV c i k == 0) = false := by
          cases hh : (List.range 16).all fun k => fitV c i k == 0
          · rfl
          · exact absurd ⟨i, rfl, hh⟩ hz
        have hq := row_eq c i
        rw [hzf] at hq
        simp only [lastI] at f1
        have r0 := Ext.of (hT1.tc.at_ (i := i) (k := 0) (by omega) (by omega))
        have r1 := Ext.of (hT1.tc.at_ (i := i) (k := 1) (by omega) (by omega))
        have r2 := Ext.of (hT1.tc.at_ (i := i) (k := 2) (by omega) (by omega))
        have r3 := Ext.of (hT1.tc.at_ (i := i) (k := 3) (by omega) (by omega))
        have r4 := Ext.of (hT1.tc.at_ (i := i) (k := 4) (by omega) (by omega))
        have r5 := Ext.of (hT1.tc.at_ (i := i) (k := 5) (by omega) (by omega))
        have r6 := Ext.of (hT1.tc.at_ (i := i) (k := 6) (by omega) (by omega))
        have r7 := Ext.of (hT1.tc.at_ (i := i) (k := 7) (by omega) (by omega))
        have r8 := Ext.of (hT1.tc.at_ (i := i) (k := 8) (by omega) (by omega))
        have r9 := Ext.of (hT1.tc.at_ (i := i) (k := 9) (by omega) (by omega))
        have r10 := Ext.of (hT1.tc.at_ (i := i) (k := 10) (by omega) (by omega))
        have r11 := Ext.of (hT1.tc.at_ (i := i) (k := 11) (by omega) (by omega))
        have r12 := Ext.of (hT1.tc.at_ (i := i) (k := 12) (by omega) (by omega))
        have r13 := Ext.of (hT1.tc.at_ (i := i) (k := 13) (by omega) (by omega))
        have r14 := Ext.of (hT1.tc.at_ (i := i) (k := 14) (by omega) (by omega))
        have r15 := Ext.of (hT1.tc.at_ (i := i) (k := 15) (by omega) (by omega))
        rw [Nat.add_zero] at r0
        have k2 : ((i : Int) != -1) = true := by simp
        have k3 : (i : Int) < 16 := by omega
        have e1 : IntKind.i64.wrap (i : Int) = i := wrap_id _ (by omega) (by omega)
        clear t0 a0 a1 b0 q0 q1 q2 q3 q4 hz hzf
        refine wp_region_ext (by kernel_rfl) (by kernel_rfl) ?_
        repeat (go_big_quiet_step (fail))
        refine wpQuiet_nil ?_
        intro _ hw'
        obtain ⟨xr, hw''⟩ := hw'
        subst hw''
        go_wp2
        go_meet
        case rel => exact ⟨rfl, xr.h⟩
    case rest =>
      obtain ⟨rfl, hb1⟩ := hcut
      replace hT1 := hT1.call hb1
      replace hB1 := hB1.call hb1
      replace h0 := hJ [] _ _ none h0 (grown_call hb1 _) (by simp)
      obtain ⟨wd, hwd⟩ : ∃ wd : World, wd = wc := ⟨_, rfl⟩
      rw [← hwd] at hT1 hB1 h0 hb1 ⊢
      clear hwd wc t0 a0 a1 b0 q0 q1 q2 q3 q4 f0 f1 hz
      have t0 := hB1.t.cell 0
      simp at t0
      obtain ⟨q0, q1, q2, q3, q4⟩ := hT1.tc.c5
      go_wp2
      go_loopw [5, 25] (fun s i wr => ∃ (k : Nat) (pre : List (VNx c u o)), k ≤ (stepsOf c).length ∧ i = .int .i64 k ∧ pre.map (·.1) = (List.range k).filter (canGo c u o) ∧ J pre wr ∧ TF wr x c ∧ BehB wr x.g bt u (lastI o)) (fun _ i _ => (stepsOf c).length - (intOf i).toNat)
      case atStart => exact ⟨0, [], by omega, rfl, rfl, h0, hT1, hB1⟩
      case round =>
        obtain ⟨k, pre, hk, rfl, hpre, hJ0, hTr, hBr⟩ := hrel
        have HPRE := Lib.hid hpre
        clear hpre t0 q0 q1 q2 q3 q4 hT1 hB1
        by_cases hlt : k < (stepsOf c).length
        · have d3 : decide (k < (stepsOf c).length) = true := by simpa using hlt
          have d3' : decide ((k : Int) < ((stepsOf c).length : Int)) = true := by simp; omega
          have HN : Hid ((List.range (k + 1)).filter (canGo c u o) = (List.range k).filter (canGo c u o) ++ if canGo c u o k = true then [k] else []) := by
            rw [Hid, List.range_succ, List.filter_append]
            simp only [List.filter_cons, List.filter_nil]
          have HO : Hid (∀ y : Ext wr, Calls Try.prog 55 #[.pointer (some ⟨x.g, 0, none⟩), stateV u (lastI o), .int .i64 (k : Int)] y.w fun r w' => r = .returned (stateV (onN c u k) (k : Int)) ∧ ∃ z : Ext wr, w' = z.w) := fun y => ext_call y (on_ok x c u k (lastI o) y.w (hTr.call y.h) hlt hu)
          have t0 := hBr.t.cell 0
          have a0 := hBr.s.cell 0
          have a1 := hBr.s.cell 1
          have b0 := hBr.f.cell 0
          simp at t0 a0 a1 b0
          have f0 := Ext.of t0
          have f1 := Ext.of a0
          have f2 := Ext.of a1
          have f3 := Ext.of b0
          have hgab : x.ga < bt := by omega
          have hgub : x.gu < bt := by omega
          clear t0 a0 a1 b0
          go_upto_region 4 with (fail)
          refine (wpIn_wide (n := n + 3)).1 ?_
          cases htb : u.testBit (pieceN c k)
          · have HF : Hid (∀ y : Ext wr, Calls Try.prog 70 #[.int .i64 (k : Int), .pointer (some ⟨bt + 1, 0, none⟩), .pointer (some ⟨bt, 0, none⟩)] y.w fun r w' => r = .returned (.bool true) ∧ ∃ z : Ext wr, w' = z.w) := fun y => ext_call y (by have := free_ok x c u k bt (lastI o) y.w (hTr.call y.h) (hBr.call y.h) hlt hu; rwa [htb] at this)
            by_cases hof : (o.map fun i => fitN c i k) = none ∨ (o.map fun i => fitN c i k) = some true
            · have hcg : canGo c u o k = true := by
                unfold canGo
                rw [htb]
                cases o with
                | none => rfl
                | some i =>
                  rcases hof with h | h
                  · cases h
                  · simpa using h
              have HC : Hid (canGo c u o k = true) := hcg
              have HM : Hid (k ∈ nextN c u o) := mem_next.2 ⟨hlt, hcg⟩
              have hpf : (pre.map (·.1)) ++ [k] <+: nextN c u o := by
                rw [HPRE.out]
                have h1 : (List.range k).filter (canGo c u o) ++ [k] = (List.range (k + 1)).filter (canGo c u o) := by rw [HN.out, if_pos hcg]
                rw [h1]
                unfold nextN
                exact List.IsPrefix.filter _ (range_pre (by omega))
              have HP : Hid ((pre ++ [(⟨k, HM.out⟩ : VNx c u o)]).map (·.1) <+: nextN c u o) := by rw [Hid, List.map_append]; exact hpf
              have HL : Hid (pre.length < (nextN c u o).length) := by
                have := hpf.length_le
                simp at this
                exact this
              clear hcg hpf htb
              cases o with
              | none =>
                simp only [lastI] at f2 HO HF
                refine wide_region_tail (C := fun w' => ∃ x : Ext wr, w' = x.w) 26 (by kernel_rfl) (by kernel_rfl) ⟨⟨(wr).drew, ⟨rfl, rfl, rfl, Nat.le_refl _, fun _ _ => rfl⟩⟩, rfl⟩ ?_
                simp only [List.take_succ_cons, List.take_zero, List.drop_succ_cons, List.drop_zero]
                repeat (go_big_quiet_step (first | (go_at_call 70; with_reducible exact HF.out _) | (go_at_call 55; with_reducible exact HO.out _)))
                refine wpQuiet_nil ?_
                intro _ hw'
                obtain ⟨xr, hw''⟩ := hw'
                subst hw''
                have hJ1 := hJ pre wr xr.w none hJ0 (grown_call xr.h _) (by simp)
                have hT1 := hTr.call xr.h
                have hB1 := hBr.call xr.h
                obtain ⟨fn, tmps, assign, body, hy, hR⟩ := hY pre ⟨k, HM.out⟩ xr.w hJ1 HL.out
                dsimp only [encNx] at hy
                gi_wp2
                refine hR.mono ?_
                rintro e W3 (⟨rfl, hJ3, hk3⟩ | ⟨rfl, hJx3⟩)
                · have hT3 := hT1.keep hk3.tab
                  have hB3 := hB1.keep hk3 hgab hgub
                  gi_wp2
                  go_wp2
                  go_roundw
                  case rel => exact ⟨k + 1, pre ++ [⟨k, HM.out⟩], by omega, by go_num, by rw [List.map_append, HPRE.out, HN.out, HC.out]; simp, hJ3, hT3, hB3⟩
                  case measure => (simp [intOf]; try omega)
                · gi_wp2
                  go_wp2
                  refine bodyPost_ret (results_none rfl _ _ _) rfl ?_
                  exact ⟨⟨_, rfl⟩, .inr ⟨pre ++ [⟨k, HM.out⟩], HP.out, hJx3⟩⟩
              | some i =>
                have hi := ho i rfl
                have hfi : fitN c i k = true := by
                  rcases hof with h | h
                  · cases h
                  · simpa using h
                have hv : fitV c i k = 1 := by unfold fitV; rw [if_pos hfi]
                have f4 := Ext.of (hTr.tc.at_ (i := i) (k := k) (by omega) (by omega))
                rw [hv] at f4
                have k2 : ((i : Int) == -1) = false := by simp
                have k3 : (i : Int) < 16 := by omega
                have k4 : (k : Int) < 16 := by omega
                have e1 : IntKind.i64.wrap (i : Int) = i := wrap_id _ (by omega) (by omega)
                have e2 : IntKind.i64.wrap (k : Int) = k := wrap_id _ (by omega) (by omega)
                simp only [lastI] at f2 HO HF
                clear hof hfi hv
                refine wide_region_tail (C := fun w' => ∃ x : Ext wr, w' = x.w) 26 (by kernel_rfl) (by kernel_rfl) ⟨⟨(wr).drew, ⟨rfl, rfl, rfl, Nat.le_refl _, fun _ _ => rfl⟩⟩, rfl⟩ ?_
                simp only [List.take_succ_cons, List.take_zero, List.drop_succ_cons, List.drop_zero]
                repeat (go_big_quiet_step (first | (go_at_call 70; with_reducible exact HF.out _) | (go_at_call 55; with_reducible exact HO.out _)))
                refine wpQuiet_nil ?_
                intro _ hw'
                obtain ⟨xr, hw''⟩ := hw'
                subst hw''
                have hJ1 := hJ pre wr xr.w none hJ0 (grown_call xr.h _) (by simp)
                have hT1 := hTr.call xr.h
                have hB1 := hBr.call xr.h
                obtain ⟨fn, tmps, assign, body, hy, hR⟩ := hY pre ⟨k, HM.out⟩ xr.w hJ1 HL.out
                dsimp only [encNx] at hy
                gi_wp2
                refine hR.mono ?_
                rintro e W3 (⟨rfl, hJ3, hk3⟩ | ⟨rfl, hJx3⟩)
                · have hT3 := hT1.keep hk3.tab
                  have hB3 := hB1.keep hk3 hgab hgub
                  gi_wp2
                  go_wp2
                  go_roundw
                  case rel => exact ⟨k + 1, pre ++ [⟨k, HM.out⟩], by omega, by go_num, by rw [List.map_append, HPRE.out, HN.out, HC.out]; simp, hJ3, hT3, hB3⟩
                  case measure => (simp [intOf]; try omega)
                · gi_wp2
                  go_wp2
                  refine bodyPost_ret (results_none rfl _ _ _) rfl ?_
                  exact ⟨⟨_, rfl⟩, .inr ⟨pre ++ [⟨k, HM.out⟩], HP.out, hJx3⟩⟩
            · obtain ⟨i, rfl⟩ : ∃ i, o = some i := by
                cases o with
                | none => exact absurd (.inl rfl) hof
                | some i => exact ⟨i, rfl⟩
              have hi := ho i rfl
              have hfi : fitN c i k = false := by
                cases h : fitN c i k
                · rfl
                · exact absurd (.inr (by simp [h])) hof
              have HC : Hid (canGo c u (some i) k = false) := by unfold canGo; simp [Hid, hfi]
              have hv : fitV c i k = 0 := by unfold fitV; rw [hfi]; rfl
              have f4 := Ext.of (hTr.tc.at_ (i := i) (k := k) (by omega) (by omega))
              rw [hv] at f4
              have k2 : ((i : Int) == -1) = false := by simp
              have k3 : (i : Int) < 16 := by omega
              have k4 : (k : Int) < 16 := by omega
              have e1 : IntKind.i64.wrap (i : Int) = i := wrap_id _ (by omega) (by omega)
              have e2 : IntKind.i64.wrap (k : Int) = k := wrap_id _ (by omega) (by omega)
              simp only [lastI] at f2 HO HF
              clear hof hfi hv htb
              refine wide_region_tail (C := fun w' => ∃ x : Ext wr, w' = x.w) 26 (by kernel_rfl) (by kernel_rfl) ⟨⟨(wr).drew, ⟨rfl, rfl, rfl, Nat.le_refl _, fun _ _ => rfl⟩⟩, rfl⟩ ?_
              simp only [List.take_succ_cons, List.take_zero, List.drop_succ_cons, List.drop_zero]
              repeat (go_big_quiet_step (first | (go_at_call 70; with_reducible exact HF.out _) | (go_at_call 55; with_reducible exact HO.out _)))
              refine wpQuiet_nil ?_
              intro _ hw'
              obtain ⟨xr, hw''⟩ := hw'
              subst hw''
              refine wide_skip (by rfl) ?_
              refine wide_skip (by rfl) ?_
              gi_wp2
              have hJ1 := hJ pre wr xr.w none hJ0 (grown_call xr.h _) (by simp)
              have hT1 := hTr.call xr.h
              have hB1 := hBr.call xr.h
              go_wp2
              go_roundw
              case rel => exact ⟨k + 1, pre, by omega, by go_num, by rw [HPRE.out, HN.out, HC.out]; simp, hJ1, hT1, hB1⟩
              case measure => (simp [intOf]; try omega)
          · have HF : Hid (∀ y : Ext wr, Calls Try.prog 70 #[.int .i64 (k : Int), .pointer (some ⟨bt + 1, 0, none⟩), .pointer (some ⟨bt, 0, none⟩)] y.w fun r w' => r = .returned (.bool false) ∧ ∃ z : Ext wr, w' = z.w) := fun y => ext_call y (by have := free_ok x c u k bt (lastI o) y.w (hTr.call y.h) (hBr.call y.h) hlt hu; rwa [htb] at this)
            have HC : Hid (canGo c u o k = false) := by unfold canGo; simp [Hid, htb]
            clear htb
            refine wide_region_tail (C := fun w' => ∃ x : Ext wr, w' = x.w) 26 (by kernel_rfl) (by kernel_rfl) ⟨⟨(wr).drew, ⟨rfl, rfl, rfl, Nat.le_refl _, fun _ _ => rfl⟩⟩, rfl⟩ ?_
            simp only [List.take_succ_cons, List.take_zero, List.drop_succ_cons, List.drop_zero]
            repeat (go_big_quiet_step (first | (go_at_call 70; with_reducible exact HF.out _) | (go_at_call 55; with_reducible exact HO.out _)))
            refine wpQuiet_nil ?_
            intro _ hw'
            obtain ⟨xr, hw''⟩ := hw'
            subst hw''
            refine wide_skip (by rfl) ?_
            refine wide_skip (by rfl) ?_
            gi_wp2
            have hJ1 := hJ pre wr xr.w none hJ0 (grown_call xr.h _) (by simp)
            have hT1 := hTr.call xr.h
            have hB1 := hBr.call xr.h
            go_wp2
            go_roundw
            case rel => exact ⟨k + 1, pre, by omega, by go_num, by rw [HPRE.out, HN.out, HC.out]; simp, hJ1, hT1, hB1⟩
            case measure => (simp [intOf]; try omega)
        · obtain rfl : k = (stepsOf c).length := by omega
          have d3 : decide ((stepsOf c).length < (stepsOf c).length) = false := by simp
          go_wp2
          go_end0
          exact ⟨⟨_, rfl⟩, .inl ⟨pre, HPRE.out, hJ0⟩⟩
end Go.Proofs.Ytjjjockfppomdaa
